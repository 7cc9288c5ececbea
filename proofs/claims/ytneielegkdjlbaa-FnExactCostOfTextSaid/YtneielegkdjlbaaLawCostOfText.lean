/- 'laws.FnExactCostOfText' returns true for all arguments: the program's function and the reference's return the same, and change no argument. No conditions. -/
import Derived.Test.YtneielegkdjlbaaCot
import Derived.Test.YtneielegkdjlbaaSmf
import Derived.Test.YtneielegkdjlbaaState
import Derived.Test.YtneielegkdjlbaaLaws
import Derived.Test.YtneielegkdjlbaaFrame
import Derived.Deep.RegionHeld3
import Derived.Handy
import Derived.Test.YtneielegkdjlbaaSt
namespace Go.Proofs.Ytneielegkdjlbaa.fnExactCostOfText
open Go.ChangeShapes Go.WideShapes Go.ChangeAt Go.RowKit
set_option maxRecDepth 100000
set_option linter.unusedVariables false
set_option linter.unusedSimpArgs false

set_option maxRecDepth 100000 in
set_option maxHeartbeats 4000000 in
theorem walk (n0 : Int) (v0 : Value) (z0 : List Int) (v1 : Value) (z1 : List Int) (w : World) (h0 : RI w v0 z0) (h1 : RI w v1 z1) :
    Calls Try.prog 3 #[.agg #[.int .i64 n0, v0], v1] w fun e w' => e = .returned (.bool true) ∧ Below w.heap.size w w' := by
  obtain ⟨ao0, cap0, rfl⟩ := h0.shape
  have hlen0 := h0.len
  obtain ⟨ao1, cap1, rfl⟩ := h1.shape
  have hlen1 := h1.len
  by_cases hl0 : z1.length ≤ 1048576
  · by_cases hl1 : z0.length ≤ 1048576
    · go_enter Try.func3, Try.ntmps3
      go_wp2_with fail
      refine (szCounts_any n0 _ z0 _ _ (h0.below (by go_grown)) (by omega) (by omega)).mono ?_; rw [if_neg (by omega)]; rintro e W1 ⟨rfl, b2⟩
      have s1 : St w W1 [((⟨w.heap.size, 0, none⟩ : Addr), Value.int .i64 n0), ((⟨w.heap.size, 1, none⟩ : Addr), Value.slice ao0 z0.length cap0)] [] := ⟨bnext (by go_grown) b2, ⟨cnext b2 (by simp [go_sem]), cnext b2 (by simp [go_sem]), trivial⟩, trivial, fun _ _ _ h => by cases h⟩
      obtain ⟨kc0, kc1, -⟩ := s1.cs
      go_wp2_with fail
      refine (toCounts_any n0 _ z0 _ (h0.below s1.bt) (by omega)).mono ?_; rintro e W3 ⟨t4, rfl, o5, b6⟩
      obtain ⟨ao7, cp8, rfl⟩ := o5.2.rg.shape
      clear kc0 kc1
      have s2 := s1.push b6 o5.2
      obtain ⟨kc0, kc1, -⟩ := s2.cs
      go_wp2_with fail
      refine (to_any _ z1 _ (h1.below s2.bt) (by omega)).mono ?_; rintro e W9 ⟨t10, rfl, o11, b12⟩
      clear kc0 kc1
      have s3 := s2.push b12 o11.2
      obtain ⟨kc0, kc1, -⟩ := s3.cs
      go_wp2_with fail
      refine (specCost_any n0 _ z0 _ z1 _ (s3.oi (OI.i64 o5) (List.mem_of_getElem? (i := 1) rfl)).ri (s3.oi (OI.i64 o11) (List.mem_of_getElem? (i := 0) rfl)).ri).mono ?_; rintro e W13 ⟨rfl, b14⟩
      clear kc0 kc1
      have s4 := s3.below b14
      obtain ⟨kc0, kc1, -⟩ := s4.cs
      go_wp2_with fail
      refine (toCounts_any n0 _ z0 _ (h0.below s4.bt) (by omega)).mono ?_; rintro e W15 ⟨t16, rfl, o17, b18⟩
      obtain ⟨ao19, cp20, rfl⟩ := o17.2.rg.shape
      clear kc0 kc1
      have s5 := s4.push b18 o17.2
      obtain ⟨kc0, kc1, -⟩ := s5.cs
      clear kc0 kc1
      have s6 := s5.box2 (.int .i64 (n0)) (Value.slice ao19 (z0).length cp20) 29
      obtain ⟨kc0, kc1, kc2, kc3, -⟩ := s6.cs
      go_wp2_with fail
      refine (to_any _ z1 _ (h1.below s6.bt) (by omega)).mono ?_; rintro e W21 ⟨t22, rfl, o23, b24⟩
      clear kc0 kc1 kc2 kc3
      have s7 := s6.push b24 o23.2
      obtain ⟨kc0, kc1, kc2, kc3, -⟩ := s7.cs
      go_wp2_with fail
      refine (implCost_any n0 _ z0 _ z1 _ (s7.oi (OI.i64 o17) (List.mem_of_getElem? (i := 1) rfl)).ri (s7.oi (OI.i64 o23) (List.mem_of_getElem? (i := 0) rfl)).ri).mono ?_; rintro e W25 ⟨rfl, b26⟩
      clear kc0 kc1 kc2 kc3
      have s8 := s7.below b26
      obtain ⟨kc0, kc1, kc2, kc3, -⟩ := s8.cs
      obtain ⟨q27, hq28⟩ := ctV_num n0 z0 z1
      have cv29 := cvt_up _ _ (up_o hq28).1
      go_wp2_with (simp only [cv29])
      refine (sameFloat_any _ _ (.inl rfl) _).mono ?_; rintro e _ ⟨rfl, rfl⟩
      go_wp2_with fail
      go_region_held3 (fun W' => W'.cell? (⟨W15.heap.size, 0, none⟩ : Addr) = some (Value.int .i64 (n0)) ∧ W'.cell? (⟨W15.heap.size, 1, none⟩ : Addr) = some ((Value.slice ao19 (z0).length cp20)) ∧ W'.cell? (⟨w.heap.size, 0, none⟩ : Addr) = some (Value.int .i64 n0) ∧ W'.cell? (⟨w.heap.size, 1, none⟩ : Addr) = some (Value.slice ao0 z0.length cap0) ∧ St w W' [((⟨W15.heap.size, 0, none⟩ : Addr), Value.int .i64 (n0)), ((⟨W15.heap.size, 1, none⟩ : Addr), (Value.slice ao19 (z0).length cp20)), ((⟨w.heap.size, 0, none⟩ : Addr), Value.int .i64 n0), ((⟨w.heap.size, 1, none⟩ : Addr), Value.slice ao0 z0.length cap0)] [(t22, (z1).map (Value.int .i64)), ((Value.slice ao19 (z0).length cp20), (z0).map (Value.int .i64)), (t10, (z1).map (Value.int .i64)), ((Value.slice ao7 (z0).length cp8), (z0).map (Value.int .i64))])
        ((go_split_ands; refine ⟨?_, ?_, ?_, ?_, ?_⟩ <;> first | assumption | exact cnext (by assumption) (by assumption) | exact St.below (by assumption) (by assumption) | exact St.below (St.drew (by assumption)) (by assumption) | exact St.drew (by assumption) | exact St.drewN (by assumption) _))
        (first
          | (go_at_call 6; with_reducible refine Calls.mono (toCounts_any n0 _ z0 _ ?_ (by omega)) ?_; (exact RI.below (St.bt (ks := [((⟨W15.heap.size, 0, none⟩ : Addr), Value.int .i64 (n0)), ((⟨W15.heap.size, 1, none⟩ : Addr), (Value.slice ao19 (z0).length cp20)), ((⟨w.heap.size, 0, none⟩ : Addr), Value.int .i64 n0), ((⟨w.heap.size, 1, none⟩ : Addr), Value.slice ao0 z0.length cap0)]) (l := [(t22, (z1).map (Value.int .i64)), ((Value.slice ao19 (z0).length cp20), (z0).map (Value.int .i64)), (t10, (z1).map (Value.int .i64)), ((Value.slice ao7 (z0).length cp8), (z0).map (Value.int .i64))]) (by go_split_ands; first | assumption | exact St.drew (by assumption))) h0); rintro e W30 ⟨t31, rfl, o32, b33⟩; have qo32 := OI.shape o32; obtain ⟨ao34, cp35, rfl⟩ := qo32)
          | (go_at_call 10; with_reducible refine Calls.mono (eqCounts_same (n0) _ _ z0 _ ?_ ?_) ?_; (exact OI.ri (St.oi (ks := [((⟨W15.heap.size, 0, none⟩ : Addr), Value.int .i64 (n0)), ((⟨W15.heap.size, 1, none⟩ : Addr), (Value.slice ao19 (z0).length cp20)), ((⟨w.heap.size, 0, none⟩ : Addr), Value.int .i64 n0), ((⟨w.heap.size, 1, none⟩ : Addr), Value.slice ao0 z0.length cap0)]) (l := [(t22, (z1).map (Value.int .i64)), ((Value.slice ao19 (z0).length cp20), (z0).map (Value.int .i64)), (t10, (z1).map (Value.int .i64)), ((Value.slice ao7 (z0).length cp8), (z0).map (Value.int .i64))]) (by go_split_ands; first | assumption | exact St.drew (by assumption)) ((OI.i64 o17)) (List.mem_of_getElem? (i := 1) rfl))); (exact o32.ri); rintro e W36 ⟨rfl, b37⟩))
      have s9 : St w W36 [((⟨W15.heap.size, 0, none⟩ : Addr), Value.int .i64 (n0)), ((⟨W15.heap.size, 1, none⟩ : Addr), (Value.slice ao19 (z0).length cp20)), ((⟨w.heap.size, 0, none⟩ : Addr), Value.int .i64 n0), ((⟨w.heap.size, 1, none⟩ : Addr), Value.slice ao0 z0.length cap0)] [(t22, (z1).map (Value.int .i64)), ((Value.slice ao19 (z0).length cp20), (z0).map (Value.int .i64)), (t10, (z1).map (Value.int .i64)), ((Value.slice ao7 (z0).length cp8), (z0).map (Value.int .i64))] := by go_split_ands; assumption
      clear kc0 kc1 kc2 kc3
      obtain ⟨kc0, kc1, kc2, kc3, -⟩ := s9.cs
      go_wp2_with fail
      refine (to_any _ z1 _ (h1.below s9.bt) (by omega)).mono ?_; rintro e W38 ⟨t39, rfl, o40, b41⟩
      clear kc0 kc1 kc2 kc3
      have s10 := s9.push b41 o40.2
      obtain ⟨kc0, kc1, kc2, kc3, -⟩ := s10.cs
      go_wp2_with fail
      refine (eq_same _ _ (z1) _ (s10.oi (OI.i64 o23) (List.mem_of_getElem? (i := 1) rfl)).ri (s10.oi (OI.i64 o40) (List.mem_of_getElem? (i := 0) rfl)).ri).mono ?_; rintro e W44 ⟨rfl, d43, hdd43⟩
      have s11 : St w W44 [((⟨W15.heap.size, 0, none⟩ : Addr), Value.int .i64 (n0)), ((⟨W15.heap.size, 1, none⟩ : Addr), (Value.slice ao19 (z0).length cp20)), ((⟨w.heap.size, 0, none⟩ : Addr), Value.int .i64 n0), ((⟨w.heap.size, 1, none⟩ : Addr), Value.slice ao0 z0.length cap0)] [(t39, (z1).map (Value.int .i64)), (t22, (z1).map (Value.int .i64)), ((Value.slice ao19 (z0).length cp20), (z0).map (Value.int .i64)), (t10, (z1).map (Value.int .i64)), ((Value.slice ao7 (z0).length cp8), (z0).map (Value.int .i64))] := by rw [hdd43]; exact s10.drewN d43
      clear hdd43
      clear kc0 kc1 kc2 kc3
      obtain ⟨kc0, kc1, kc2, kc3, -⟩ := s11.cs
      go_wp2
      go_ret
      exact ⟨rfl, s11.bt⟩
    · go_enter Try.func3, Try.ntmps3
      go_wp2_with fail
      refine (szCounts_any n0 _ z0 _ _ (h0.below (by go_grown)) (by omega) (by omega)).mono ?_; rw [if_pos (by omega)]; rintro e W45 ⟨rfl, b46⟩
      have s12 : St w W45 [((⟨w.heap.size, 0, none⟩ : Addr), Value.int .i64 n0), ((⟨w.heap.size, 1, none⟩ : Addr), Value.slice ao0 z0.length cap0)] [] := ⟨bnext (by go_grown) b46, ⟨cnext b46 (by simp [go_sem]), cnext b46 (by simp [go_sem]), trivial⟩, trivial, fun _ _ _ h => by cases h⟩
      obtain ⟨kc0, kc1, -⟩ := s12.cs
      go_wp2
      go_ret
      exact ⟨rfl, s12.bt⟩
  · go_enter Try.func3, Try.ntmps3
    go_wp2
    go_ret
    exact ⟨rfl, by go_grown⟩

set_option maxRecDepth 100000 in
theorem lifted (os : Os) (started : os.Started) (H : Type) (enc : TypeId × Value → H) :
    ReturnsInHanded {} Try.checked os 3 .any (Rows.fnExactCostOfTextSpec.pre6 enc Try.prog Try.f3 Rows.fnExactCostOfTextRow.domain false) (Rows.fnExactCostOfTextSpec.post enc Try.prog Try.f3 false true false false) := by
  refine returnsInHanded_of_change (C := Try.checked) own started (by kernel_rfl) Try.func3
    (ChangeSpec.witness6 (enc := enc) (C := Try.checked) false ⟨#[], #[.agg #[.int .i64 0, .slice none 0 0], .slice none 0 0], []⟩ 8 (by kernel_rfl) (by kernel_rfl) (by kernel_rfl) (by kernel_rfl)) ?_
  intro W base args ds gs before hval0 hW hcnd _
  have hval : ∀ (j : Nat) t v, Try.f3.params[j]? = some t → args[j]? = some v → Value.okWide Try.prog W .any base t v := hval0
  have hW' := hW
  obtain ⟨p, q, hA0, hV, rfl, hfz, hnd⟩ := hW
  have hA : DataW.TrodAll enc Try.prog W 0 (fun _ => true) true Try.f3.params.toList args.toList ds p := hA0
  rw [Try.params3] at hA hval
  obtain ⟨v0, vs0, d0, ds0, p0, q0, hargs, rfl, rfl, h0, r0⟩ := trodAll_cons hA
  obtain ⟨v1, vs1, d1, ds1, p1, q1, rfl, rfl, rfl, h1, r1⟩ := trodAll_cons r0
  obtain ⟨rfl, rfl, rfl⟩ := trodAll_nil r1
  obtain rfl : args = #[v0, v1] := by cases args; simp_all
  obtain ⟨rfl, rfl⟩ := trodVars_none hV
  have k0 := h0
  have lt0 : ∀ x ∈ p0, x.block < W.heap.size := by obtain ⟨m, hm⟩ := k0; exact DataW.trod_lt m _ _ _ hm
  obtain ⟨n0, y0, z0, rfl, w0⟩ := view_Counts (hval 0 24 v0 rfl rfl) h0
  have k1 := h1
  have lt1 : ∀ x ∈ p1, x.block < W.heap.size := by obtain ⟨m, hm⟩ := k1; exact DataW.trod_lt m _ _ _ hm
  obtain ⟨z1, w1⟩ := view_ints (hval 1 22 v1 rfl rfl) h1
  clear hA0 hval0
  refine (walk n0 y0 z0 v1 z1 W w0 w1).mono fun e W' ⟨he, bel⟩ => ?_
  subst he
  exact ⟨_, rfl, _, _, _, [], _, [], hW', trodAll_mk1 (shut_bool Try.underlying4 _), (trodAll_cons_mk (Below.trod laidOut (by kernel_rfl) (of_decide_eq_true (by kernel_rfl)) k0 bel lt0) (trodAll_cons_mk (Below.trod laidOut (by kernel_rfl) (of_decide_eq_true (by kernel_rfl)) k1 bel lt1) trodAll_mk0)), rfl, bel.frame _, fun h => by cases h⟩

theorem over : Rows.fnExactCostOfTextRow.holds Try.pinned (OpenSpec.ofChange Rows.fnExactCostOfTextSpec) :=
  OpenClaim.holds_of_wide 3 Try.f3 rfl rfl rfl rfl rfl rfl rfl ⟨rfl, rfl, rfl, rfl, rfl⟩ rfl rfl rfl rfl rfl (by kernel_rfl) Try.func3 (by kernel_rfl)
    (of_decide_eq_true (by kernel_rfl)) (by unfold Func.isWrapper; first | (rw [if_pos (by decide +kernel)]; kernel_rfl) | (rw [if_neg (by decide +kernel)]; exact ⟨rfl, rfl⟩))
    (fun os started H enc _ => lifted os started H enc)

theorem proved : Rows.FnExactCostOfTextSaid := over
end Go.Proofs.Ytneielegkdjlbaa.fnExactCostOfText
