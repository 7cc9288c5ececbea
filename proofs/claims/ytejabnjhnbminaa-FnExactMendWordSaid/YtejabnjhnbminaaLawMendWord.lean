/- 'laws.FnExactMendWord' returns true for all arguments: the program's function and the reference's return the same, and change no argument. No conditions. -/
import Derived.Test.YtejabnjhnbminaaMendS
import Derived.Test.YtejabnjhnbminaaState
import Derived.Test.YtejabnjhnbminaaLaws
import Derived.Test.YtejabnjhnbminaaFrame
import Derived.Deep.RegionHeld3
import Derived.Handy
import Derived.Test.YtejabnjhnbminaaSt
namespace Go.Proofs.Ytejabnjhnbminaa.fnExactMendWord
open Go.ChangeShapes Go.WideShapes Go.ChangeAt Go.RowKit
set_option maxRecDepth 100000
set_option linter.unusedVariables false
set_option linter.unusedSimpArgs false

set_option maxRecDepth 100000 in
set_option maxHeartbeats 4000000 in
theorem walk (n0 : Int) (v0 : Value) (z0 : List Int) (a1 : Int) (w : World) (h0 : RI w v0 z0) (_h1 : I64 a1) :
    Calls Try.prog 3 #[.agg #[.int .i64 n0, v0], .int .i64 a1] w fun e w' => e = .returned (.bool true) ∧ Below w.heap.size w w' := by
  obtain ⟨ao0, cap0, rfl⟩ := h0.shape
  have hlen0 := h0.len
  by_cases hl0 : z0.length ≤ 1048576
  · go_enter Try.func3, Try.ntmps3
    go_wp2_with fail
    refine (szParity_any n0 _ z0 _ _ (h0.below (by go_grown)) (by omega) (by omega)).mono ?_; rw [if_neg (by omega)]; rintro e W1 ⟨rfl, b2⟩
    have s1 : St w W1 [((⟨w.heap.size, 0, none⟩ : Addr), Value.int .i64 n0), ((⟨w.heap.size, 1, none⟩ : Addr), Value.slice ao0 z0.length cap0)] [] := ⟨bnext (by go_grown) b2, ⟨cnext b2 (by simp [go_sem]), cnext b2 (by simp [go_sem]), trivial⟩, trivial, fun _ _ _ h => by cases h⟩
    obtain ⟨kc0, kc1, -⟩ := s1.cs
    go_wp2_with fail
    refine (toParity_any n0 _ z0 _ (h0.below s1.bt) (by omega)).mono ?_; rintro e W3 ⟨t4, rfl, o5, b6⟩
    obtain ⟨ao7, cp8, rfl⟩ := o5.2.rg.shape
    clear kc0 kc1
    have s2 := s1.push b6 o5.2
    obtain ⟨kc0, kc1, -⟩ := s2.cs
    go_wp2_with fail
    refine (specMend_any n0 _ z0 a1 _ (s2.oi (OI.i64 o5) (List.mem_of_getElem? (i := 0) rfl)).ri).mono ?_; rintro e W9 ⟨rfl, b10⟩
    clear kc0 kc1
    have s3 := s2.below b10
    obtain ⟨kc0, kc1, -⟩ := s3.cs
    go_wp2_with fail
    refine (toParity_any n0 _ z0 _ (h0.below s3.bt) (by omega)).mono ?_; rintro e W11 ⟨t12, rfl, o13, b14⟩
    obtain ⟨ao15, cp16, rfl⟩ := o13.2.rg.shape
    clear kc0 kc1
    have s4 := s3.push b14 o13.2
    obtain ⟨kc0, kc1, -⟩ := s4.cs
    clear kc0 kc1
    have s5 := s4.box2 (.int .i64 (n0)) (Value.slice ao15 (z0).length cp16) 28
    obtain ⟨kc0, kc1, kc2, kc3, -⟩ := s5.cs
    go_wp2_with fail
    refine (implMend_any n0 _ z0 a1 _ (s5.oi (OI.i64 o13) (List.mem_of_getElem? (i := 0) rfl)).ri).mono ?_; rintro e W17 ⟨rfl, b18⟩
    clear kc0 kc1 kc2 kc3
    have s6 := s5.below b18
    obtain ⟨kc0, kc1, kc2, kc3, -⟩ := s6.cs
    go_wp2_with fail
    go_region_held3 (fun W' => W'.cell? (⟨W11.heap.size, 0, none⟩ : Addr) = some (Value.int .i64 (n0)) ∧ W'.cell? (⟨W11.heap.size, 1, none⟩ : Addr) = some ((Value.slice ao15 (z0).length cp16)) ∧ W'.cell? (⟨w.heap.size, 0, none⟩ : Addr) = some (Value.int .i64 n0) ∧ W'.cell? (⟨w.heap.size, 1, none⟩ : Addr) = some (Value.slice ao0 z0.length cap0) ∧ St w W' [((⟨W11.heap.size, 0, none⟩ : Addr), Value.int .i64 (n0)), ((⟨W11.heap.size, 1, none⟩ : Addr), (Value.slice ao15 (z0).length cp16)), ((⟨w.heap.size, 0, none⟩ : Addr), Value.int .i64 n0), ((⟨w.heap.size, 1, none⟩ : Addr), Value.slice ao0 z0.length cap0)] [((Value.slice ao15 (z0).length cp16), (z0).map (Value.int .i64)), ((Value.slice ao7 (z0).length cp8), (z0).map (Value.int .i64))])
      ((go_split_ands; refine ⟨?_, ?_, ?_, ?_, ?_⟩ <;> first | assumption | exact cnext (by assumption) (by assumption) | exact St.below (by assumption) (by assumption) | exact St.below (St.drew (by assumption)) (by assumption) | exact St.drew (by assumption) | exact St.drewN (by assumption) _))
      (first
        | (go_at_call 17; with_reducible refine Calls.mono (toParity_any n0 _ z0 _ ?_ (by omega)) ?_; (exact RI.below (St.bt (ks := [((⟨W11.heap.size, 0, none⟩ : Addr), Value.int .i64 (n0)), ((⟨W11.heap.size, 1, none⟩ : Addr), (Value.slice ao15 (z0).length cp16)), ((⟨w.heap.size, 0, none⟩ : Addr), Value.int .i64 n0), ((⟨w.heap.size, 1, none⟩ : Addr), Value.slice ao0 z0.length cap0)]) (l := [((Value.slice ao15 (z0).length cp16), (z0).map (Value.int .i64)), ((Value.slice ao7 (z0).length cp8), (z0).map (Value.int .i64))]) (by go_split_ands; first | assumption | exact St.drew (by assumption))) h0); rintro e W19 ⟨t20, rfl, o21, b22⟩; have qo21 := OI.shape o21; obtain ⟨ao23, cp24, rfl⟩ := qo21)
        | (go_at_call 19; with_reducible refine Calls.mono (eqParity_same (n0) _ _ z0 _ ?_ ?_) ?_; (exact OI.ri (St.oi (ks := [((⟨W11.heap.size, 0, none⟩ : Addr), Value.int .i64 (n0)), ((⟨W11.heap.size, 1, none⟩ : Addr), (Value.slice ao15 (z0).length cp16)), ((⟨w.heap.size, 0, none⟩ : Addr), Value.int .i64 n0), ((⟨w.heap.size, 1, none⟩ : Addr), Value.slice ao0 z0.length cap0)]) (l := [((Value.slice ao15 (z0).length cp16), (z0).map (Value.int .i64)), ((Value.slice ao7 (z0).length cp8), (z0).map (Value.int .i64))]) (by go_split_ands; first | assumption | exact St.drew (by assumption)) ((OI.i64 o13)) (List.mem_of_getElem? (i := 0) rfl))); (exact o21.ri); rintro e W25 ⟨rfl, b26⟩))
    have s7 : St w W25 [((⟨W11.heap.size, 0, none⟩ : Addr), Value.int .i64 (n0)), ((⟨W11.heap.size, 1, none⟩ : Addr), (Value.slice ao15 (z0).length cp16)), ((⟨w.heap.size, 0, none⟩ : Addr), Value.int .i64 n0), ((⟨w.heap.size, 1, none⟩ : Addr), Value.slice ao0 z0.length cap0)] [((Value.slice ao15 (z0).length cp16), (z0).map (Value.int .i64)), ((Value.slice ao7 (z0).length cp8), (z0).map (Value.int .i64))] := by go_split_ands; assumption
    clear kc0 kc1 kc2 kc3
    obtain ⟨kc0, kc1, kc2, kc3, -⟩ := s7.cs
    go_wp2
    go_ret
    exact ⟨rfl, s7.bt⟩
  · go_enter Try.func3, Try.ntmps3
    go_wp2_with fail
    refine (szParity_any n0 _ z0 _ _ (h0.below (by go_grown)) (by omega) (by omega)).mono ?_; rw [if_pos (by omega)]; rintro e W27 ⟨rfl, b28⟩
    have s8 : St w W27 [((⟨w.heap.size, 0, none⟩ : Addr), Value.int .i64 n0), ((⟨w.heap.size, 1, none⟩ : Addr), Value.slice ao0 z0.length cap0)] [] := ⟨bnext (by go_grown) b28, ⟨cnext b28 (by simp [go_sem]), cnext b28 (by simp [go_sem]), trivial⟩, trivial, fun _ _ _ h => by cases h⟩
    obtain ⟨kc0, kc1, -⟩ := s8.cs
    go_wp2
    go_ret
    exact ⟨rfl, s8.bt⟩

set_option maxRecDepth 100000 in
theorem lifted (os : Os) (started : os.Started) (H : Type) (enc : TypeId × Value → H) :
    ReturnsInHanded {} Try.checked os 3 .any (Rows.fnExactMendWordSpec.pre6 enc Try.prog Try.f3 Rows.fnExactMendWordRow.domain false) (Rows.fnExactMendWordSpec.post enc Try.prog Try.f3 false true false false) := by
  refine returnsInHanded_of_change (C := Try.checked) own started (by kernel_rfl) Try.func3
    (ChangeSpec.witness6 (enc := enc) (C := Try.checked) false ⟨#[], #[.agg #[.int .i64 0, .slice none 0 0], .int .i64 0], []⟩ 8 (by kernel_rfl) (by kernel_rfl) (by kernel_rfl) (by kernel_rfl)) ?_
  intro W base args ds gs before hval0 hW hcnd _
  have hval : ∀ (j : Nat) t v, Try.f3.params[j]? = some t → args[j]? = some v → Value.okWide Try.prog W .any base t v := hval0
  have hW' := hW
  obtain ⟨p, q, hA0, hV, rfl, hfz, hnd⟩ := hW
  have hA : DataW.TrodAll enc Try.prog W 0 (fun _ => true) true Try.f3.params.toList args.toList ds p := hA0
  rw [Try.params3] at hA hval
  obtain ⟨v0, vs0, d0, ds0, p0, q0, hargs, rfl, rfl, h0, r0⟩ := trodAll_cons hA
  obtain ⟨v1, vs1, d1, ds1, p1, q1, rfl, rfl, rfl, h1, r1⟩ := trodAll_cons r0
  obtain ⟨rfl, rfl, rfl⟩ := trodAll_nil r1
  obtain rfl : args = #[v0, v1] := by cases args; simp_all
  obtain ⟨rfl, rfl⟩ := trodVars_none hV
  have k0 := h0
  have lt0 : ∀ x ∈ p0, x.block < W.heap.size := by obtain ⟨m, hm⟩ := k0; exact DataW.trod_lt m _ _ _ hm
  obtain ⟨n0, y0, z0, rfl, w0⟩ := view_Parity (hval 0 24 v0 rfl rfl) h0
  obtain ⟨a1, rfl, rfl, rfl, u1⟩ := open_int Try.underlying2 (hval 1 2 v1 rfl rfl) h1; have w1 := i64_of_wf u1
  clear hA0 hval0
  refine (walk n0 y0 z0 a1 W w0 w1).mono fun e W' ⟨he, bel⟩ => ?_
  subst he
  exact ⟨_, rfl, _, _, _, [], _, [], hW', trodAll_mk1 (shut_bool Try.underlying4 _), (trodAll_cons_mk (Below.trod laidOut (by kernel_rfl) (of_decide_eq_true (by kernel_rfl)) k0 bel lt0) (trodAll_cons_mk (shut_int Try.underlying2 u1) trodAll_mk0)), rfl, bel.frame _, fun h => by cases h⟩

theorem over : Rows.fnExactMendWordRow.holds Try.pinned (OpenSpec.ofChange Rows.fnExactMendWordSpec) :=
  OpenClaim.holds_of_wide 3 Try.f3 rfl rfl rfl rfl rfl rfl rfl ⟨rfl, rfl, rfl, rfl, rfl⟩ rfl rfl rfl rfl rfl (by kernel_rfl) Try.func3 (by kernel_rfl)
    (of_decide_eq_true (by kernel_rfl)) (by unfold Func.isWrapper; first | (rw [if_pos (by decide +kernel)]; kernel_rfl) | (rw [if_neg (by decide +kernel)]; exact ⟨rfl, rfl⟩))
    (fun os started H enc _ => lifted os started H enc)

theorem proved : Rows.FnExactMendWordSaid := over
end Go.Proofs.Ytejabnjhnbminaa.fnExactMendWord
