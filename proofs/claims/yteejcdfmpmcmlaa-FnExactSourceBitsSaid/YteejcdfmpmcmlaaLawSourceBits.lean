/- 'laws.FnExactSourceBits' returns true for all arguments: the program's function and the reference's return the same, and change no argument. No conditions. -/
import Derived.Test.YteejcdfmpmcmlaaSob
import Derived.Test.YteejcdfmpmcmlaaSmf
import Derived.Test.YteejcdfmpmcmlaaState
import Derived.Test.YteejcdfmpmcmlaaLaws
import Derived.Test.YteejcdfmpmcmlaaFrame
import Derived.Deep.RegionHeld3
import Derived.Handy
import Derived.Test.YteejcdfmpmcmlaaStC
namespace Go.Proofs.Yteejcdfmpmcmlaa.fnExactSourceBits
open Go.ChangeShapes Go.WideShapes Go.ChangeAt Go.RowKit
set_option maxRecDepth 100000
set_option linter.unusedVariables false
set_option linter.unusedSimpArgs false

set_option maxRecDepth 100000 in
set_option maxHeartbeats 4000000 in
theorem walk (n0 m0 : Int) (v0 : Value) (z0 : List Nat) (a1 : Nat) (a2 : Int) (w : World) (h0 : Rg eF w v0 z0) (_h1 : True) (_h2 : I64 a2) :
    Calls Try.prog 6 #[.agg #[.int .i64 n0, .int .i64 m0, v0], .float .f32 a1, .int .i64 a2] w fun e w' => e = .returned (.bool true) ∧ Below w.heap.size w w' := by
  obtain ⟨ao0, cap0, rfl⟩ := h0.shape
  have hlen0 := h0.len
  by_cases hl0 : z0.length ≤ 1048576
  · go_enter Try.func6, Try.ntmps6
    go_wp2_with fail
    refine (szChannel_any (n0) (m0) _ z0 _ _ (h0.below (by go_grown)) (by omega) (by omega)).mono ?_; rw [if_neg (by omega)]; rintro e W1 ⟨rfl, b2⟩
    have s1 : St w W1 [((⟨w.heap.size, 0, none⟩ : Addr), Value.int .i64 n0), ((⟨w.heap.size, 1, none⟩ : Addr), Value.int .i64 m0), ((⟨w.heap.size, 2, none⟩ : Addr), Value.slice ao0 z0.length cap0)] [] := ⟨bnext (by go_grown) b2, ⟨cnext b2 (by simp [go_sem]), cnext b2 (by simp [go_sem]), cnext b2 (by simp [go_sem]), trivial⟩, trivial, fun _ _ _ h => by cases h⟩
    obtain ⟨kc0, kc1, kc2, -⟩ := s1.cs
    go_wp2_with fail
    refine (toChannel_any (n0) (m0) _ z0 _ (h0.below s1.bt) (by omega)).mono ?_; rintro e W3 ⟨t4, rfl, o5, b6⟩
    obtain ⟨ao7, cp8, rfl⟩ := o5.rg.shape
    clear kc0 kc1 kc2
    have s2 := s1.push b6 o5
    obtain ⟨kc0, kc1, kc2, -⟩ := s2.cs
    go_wp2_with fail
    refine (specSb_any (n0) (m0) _ z0 a1 a2 _ (s2.of (List.mem_of_getElem? (i := 0) rfl)).rg).mono ?_; rintro e W9 ⟨rfl, b10⟩
    clear kc0 kc1 kc2
    have s3 := s2.below b10
    obtain ⟨kc0, kc1, kc2, -⟩ := s3.cs
    go_wp2_with fail
    refine (toChannel_any (n0) (m0) _ z0 _ (h0.below s3.bt) (by omega)).mono ?_; rintro e W11 ⟨t12, rfl, o13, b14⟩
    obtain ⟨ao15, cp16, rfl⟩ := o13.rg.shape
    clear kc0 kc1 kc2
    have s4 := s3.push b14 o13
    obtain ⟨kc0, kc1, kc2, -⟩ := s4.cs
    clear kc0 kc1 kc2
    have s5 := s4.box3 (Value.int .i64 (n0)) (Value.int .i64 (m0)) ((Value.slice ao15 (z0).length cp16)) 28
    obtain ⟨kc0, kc1, kc2, kc3, kc4, kc5, -⟩ := s5.cs
    go_wp2_with fail
    refine (implSb_any (n0) (m0) _ z0 a1 a2 _ (s5.of (List.mem_of_getElem? (i := 0) rfl)).rg).mono ?_; rintro e W17 ⟨rfl, b18⟩
    clear kc0 kc1 kc2 kc3 kc4 kc5
    have s6 := s5.below b18
    obtain ⟨kc0, kc1, kc2, kc3, kc4, kc5, -⟩ := s6.cs
    obtain ⟨q19, hq20⟩ := sbV_num n0 m0 z0 a1 a2
    have cv21 := cvt_up _ _ (up_o hq20).1
    go_wp2_with (simp only [cv21])
    refine (sameFloat_any _ _ (.inl rfl) _).mono ?_; rintro e _ ⟨rfl, rfl⟩
    go_wp2_with fail
    go_region_held3 (fun W' => W'.cell? (⟨W11.heap.size, 0, none⟩ : Addr) = some (Value.int .i64 (n0)) ∧ W'.cell? (⟨W11.heap.size, 1, none⟩ : Addr) = some (Value.int .i64 (m0)) ∧ W'.cell? (⟨W11.heap.size, 2, none⟩ : Addr) = some ((Value.slice ao15 (z0).length cp16)) ∧ W'.cell? (⟨w.heap.size, 0, none⟩ : Addr) = some (Value.int .i64 n0) ∧ W'.cell? (⟨w.heap.size, 1, none⟩ : Addr) = some (Value.int .i64 m0) ∧ W'.cell? (⟨w.heap.size, 2, none⟩ : Addr) = some (Value.slice ao0 z0.length cap0) ∧ St w W' [((⟨W11.heap.size, 0, none⟩ : Addr), Value.int .i64 (n0)), ((⟨W11.heap.size, 1, none⟩ : Addr), Value.int .i64 (m0)), ((⟨W11.heap.size, 2, none⟩ : Addr), (Value.slice ao15 (z0).length cp16)), ((⟨w.heap.size, 0, none⟩ : Addr), Value.int .i64 n0), ((⟨w.heap.size, 1, none⟩ : Addr), Value.int .i64 m0), ((⟨w.heap.size, 2, none⟩ : Addr), Value.slice ao0 z0.length cap0)] [((Value.slice ao15 (z0).length cp16), (z0).map eF), ((Value.slice ao7 (z0).length cp8), (z0).map eF)])
      ((go_split_ands; refine ⟨?_, ?_, ?_, ?_, ?_, ?_, ?_⟩ <;> first | assumption | exact cnext (by assumption) (by assumption) | exact St.below (by assumption) (by assumption) | exact St.below (St.drew (by assumption)) (by assumption) | exact St.drew (by assumption) | exact St.drewN (by assumption) _))
      (first
        | (go_at_call 9; with_reducible refine Calls.mono (toChannel_any (n0) (m0) _ z0 _ ?_ (by omega)) ?_; (exact Rg.below (St.bt (ks := [((⟨W11.heap.size, 0, none⟩ : Addr), Value.int .i64 (n0)), ((⟨W11.heap.size, 1, none⟩ : Addr), Value.int .i64 (m0)), ((⟨W11.heap.size, 2, none⟩ : Addr), (Value.slice ao15 (z0).length cp16)), ((⟨w.heap.size, 0, none⟩ : Addr), Value.int .i64 n0), ((⟨w.heap.size, 1, none⟩ : Addr), Value.int .i64 m0), ((⟨w.heap.size, 2, none⟩ : Addr), Value.slice ao0 z0.length cap0)]) (l := [((Value.slice ao15 (z0).length cp16), (z0).map eF), ((Value.slice ao7 (z0).length cp8), (z0).map eF)]) (by go_split_ands; first | assumption | exact St.drew (by assumption))) h0); rintro e W22 ⟨t23, rfl, o24, b25⟩; have qo24 := Og.shapeF o24; obtain ⟨ao26, cp27, rfl⟩ := qo24)
        | (go_at_call 13; with_reducible refine Calls.mono (eqChannel_same (n0) (m0) _ _ z0 _ ?_ ?_) ?_; (exact Og.rg (St.of (ks := [((⟨W11.heap.size, 0, none⟩ : Addr), Value.int .i64 (n0)), ((⟨W11.heap.size, 1, none⟩ : Addr), Value.int .i64 (m0)), ((⟨W11.heap.size, 2, none⟩ : Addr), (Value.slice ao15 (z0).length cp16)), ((⟨w.heap.size, 0, none⟩ : Addr), Value.int .i64 n0), ((⟨w.heap.size, 1, none⟩ : Addr), Value.int .i64 m0), ((⟨w.heap.size, 2, none⟩ : Addr), Value.slice ao0 z0.length cap0)]) (l := [((Value.slice ao15 (z0).length cp16), (z0).map eF), ((Value.slice ao7 (z0).length cp8), (z0).map eF)]) (by go_split_ands; first | assumption | exact St.drew (by assumption)) (List.mem_of_getElem? (i := 0) rfl))); (exact o24.rg); rintro e W28 ⟨rfl, b29⟩))
    have s7 : St w W28 [((⟨W11.heap.size, 0, none⟩ : Addr), Value.int .i64 (n0)), ((⟨W11.heap.size, 1, none⟩ : Addr), Value.int .i64 (m0)), ((⟨W11.heap.size, 2, none⟩ : Addr), (Value.slice ao15 (z0).length cp16)), ((⟨w.heap.size, 0, none⟩ : Addr), Value.int .i64 n0), ((⟨w.heap.size, 1, none⟩ : Addr), Value.int .i64 m0), ((⟨w.heap.size, 2, none⟩ : Addr), Value.slice ao0 z0.length cap0)] [((Value.slice ao15 (z0).length cp16), (z0).map eF), ((Value.slice ao7 (z0).length cp8), (z0).map eF)] := by go_split_ands; assumption
    clear kc0 kc1 kc2 kc3 kc4 kc5
    obtain ⟨kc0, kc1, kc2, kc3, kc4, kc5, -⟩ := s7.cs
    go_wp2
    go_ret
    exact ⟨rfl, s7.bt⟩
  · go_enter Try.func6, Try.ntmps6
    go_wp2_with fail
    refine (szChannel_any (n0) (m0) _ z0 _ _ (h0.below (by go_grown)) (by omega) (by omega)).mono ?_; rw [if_pos (by omega)]; rintro e W30 ⟨rfl, b31⟩
    have s8 : St w W30 [((⟨w.heap.size, 0, none⟩ : Addr), Value.int .i64 n0), ((⟨w.heap.size, 1, none⟩ : Addr), Value.int .i64 m0), ((⟨w.heap.size, 2, none⟩ : Addr), Value.slice ao0 z0.length cap0)] [] := ⟨bnext (by go_grown) b31, ⟨cnext b31 (by simp [go_sem]), cnext b31 (by simp [go_sem]), cnext b31 (by simp [go_sem]), trivial⟩, trivial, fun _ _ _ h => by cases h⟩
    obtain ⟨kc0, kc1, kc2, -⟩ := s8.cs
    go_wp2
    go_ret
    exact ⟨rfl, s8.bt⟩

set_option maxRecDepth 100000 in
theorem lifted (os : Os) (started : os.Started) (H : Type) (enc : TypeId × Value → H) :
    ReturnsInHanded {} Try.checked os 6 .any (Rows.fnExactSourceBitsSpec.pre6 enc Try.prog Try.f6 Rows.fnExactSourceBitsRow.domain false) (Rows.fnExactSourceBitsSpec.post enc Try.prog Try.f6 false true false false) := by
  refine returnsInHanded_of_change (C := Try.checked) own started (by kernel_rfl) Try.func6
    (ChangeSpec.witness6 (enc := enc) (C := Try.checked) false ⟨#[], #[.agg #[.int .i64 0, .int .i64 0, .slice none 0 0], .float .f32 0, .int .i64 0], []⟩ 8 (by kernel_rfl) (by kernel_rfl) (by kernel_rfl) (by kernel_rfl)) ?_
  intro W base args ds gs before hval0 hW hcnd _
  have hval : ∀ (j : Nat) t v, Try.f6.params[j]? = some t → args[j]? = some v → Value.okWide Try.prog W .any base t v := hval0
  have hW' := hW
  obtain ⟨p, q, hA0, hV, rfl, hfz, hnd⟩ := hW
  have hA : DataW.TrodAll enc Try.prog W 0 (fun _ => true) true Try.f6.params.toList args.toList ds p := hA0
  rw [Try.params6] at hA hval
  obtain ⟨v0, vs0, d0, ds0, p0, q0, hargs, rfl, rfl, h0, r0⟩ := trodAll_cons hA
  obtain ⟨v1, vs1, d1, ds1, p1, q1, rfl, rfl, rfl, h1, r1⟩ := trodAll_cons r0
  obtain ⟨v2, vs2, d2, ds2, p2, q2, rfl, rfl, rfl, h2, r2⟩ := trodAll_cons r1
  obtain ⟨rfl, rfl, rfl⟩ := trodAll_nil r2
  obtain rfl : args = #[v0, v1, v2] := by cases args; simp_all
  obtain ⟨rfl, rfl⟩ := trodVars_none hV
  have k0 := h0
  have lt0 : ∀ x ∈ p0, x.block < W.heap.size := by obtain ⟨m, hm⟩ := k0; exact DataW.trod_lt m _ _ _ hm
  obtain ⟨n0, m0, y0, z0, rfl, w0⟩ := view_Channel (hval 0 24 v0 rfl rfl) h0
  obtain ⟨a1, rfl, rfl, rfl, u1⟩ := open_flt (show Try.prog.underlying 39 = some (.float .f32) by rw [Try.underlying39]) (hval 1 39 v1 rfl rfl) h1; have w1 := True.intro
  obtain ⟨a2, rfl, rfl, rfl, u2⟩ := open_int Try.underlying2 (hval 2 2 v2 rfl rfl) h2; have w2 := i64_of_wf u2
  clear hA0 hval0
  refine (walk n0 m0 y0 z0 a1 a2 W w0 w1 w2).mono fun e W' ⟨he, bel⟩ => ?_
  subst he
  exact ⟨_, rfl, _, _, _, [], _, [], hW', trodAll_mk1 (shut_bool Try.underlying4 _), (trodAll_cons_mk (Below.trod laidOut (by kernel_rfl) (of_decide_eq_true (by kernel_rfl)) k0 bel lt0) (trodAll_cons_mk (shut_flt (show Try.prog.underlying 39 = some (.float .f32) by rw [Try.underlying39]) u1) (trodAll_cons_mk (shut_int Try.underlying2 u2) trodAll_mk0))), rfl, bel.frame _, fun h => by cases h⟩

theorem over : Rows.fnExactSourceBitsRow.holds Try.pinned (OpenSpec.ofChange Rows.fnExactSourceBitsSpec) :=
  OpenClaim.holds_of_wide 6 Try.f6 rfl rfl rfl rfl rfl rfl rfl ⟨rfl, rfl, rfl, rfl, rfl⟩ rfl rfl rfl rfl rfl (by kernel_rfl) Try.func6 (by kernel_rfl)
    (of_decide_eq_true (by kernel_rfl)) (by unfold Func.isWrapper; first | (rw [if_pos (by decide +kernel)]; kernel_rfl) | (rw [if_neg (by decide +kernel)]; exact ⟨rfl, rfl⟩))
    (fun os started H enc _ => lifted os started H enc)

theorem proved : Rows.FnExactSourceBitsSaid := over
end Go.Proofs.Yteejcdfmpmcmlaa.fnExactSourceBits
