/- 'laws.FnExactMendValues' returns true for all arguments: the program's function and the reference's return the same, and change no argument. No conditions. -/
import Derived.Test.YtgkciionmhoofaaMvI
import Derived.Test.YtgkciionmhoofaaState
import Derived.Test.YtgkciionmhoofaaLaws
import Derived.Test.YtgkciionmhoofaaFrame
import Derived.Deep.RegionHeld3
import Derived.Handy
namespace Go.Proofs.Ytgkciionmhoofaa.fnExactMendValues
open Go.ChangeShapes Go.WideShapes Go.ChangeAt Go.RowKit
set_option maxRecDepth 100000
set_option linter.unusedVariables false
set_option linter.unusedSimpArgs false

set_option maxRecDepth 100000 in
set_option maxHeartbeats 4000000 in
theorem walk (a0 : Int) (a1 : Int) (v2 : Value) (z2 : List Int) (w : World) (_h0 : I64 a0) (_h1 : I64 a1) (h2 : RI w v2 z2) :
    Calls Try.prog 4 #[.int .i64 a0, .int .i64 a1, v2] w fun e w' => e = .returned (.bool true) ∧ Below w.heap.size w w' := by
  obtain ⟨ao2, cap2, rfl⟩ := h2.shape
  have hlen2 := h2.len
  by_cases hl0 : z2.length ≤ 1048576
  · go_enter Try.func4, Try.ntmps4
    have s0 : St w w [] [] := St.refl w
    go_wp2_with fail
    refine (to_any _ z2 _ (h2.below s0.bt) (by omega)).mono ?_; rintro e W1 ⟨t2, rfl, o3, b4⟩
    have s1 := s0.push b4 o3.2
    go_wp2_with fail
    refine (specMv_any a0 a1 _ z2 _ (s1.oi (OI.i64 o3) (List.mem_of_getElem? (i := 0) rfl)).ri).mono ?_; rintro e W5 ⟨g7, rfl, o8, b6⟩
    have s2 := s1.push b6 o8.2
    go_wp2_with fail
    refine (to_any _ z2 _ (h2.below s2.bt) (by omega)).mono ?_; rintro e W9 ⟨t10, rfl, o11, b12⟩
    have s3 := s2.push b12 o11.2
    go_wp2_with fail
    refine (implMv_any a0 a1 _ z2 _ (s3.oi (OI.i64 o11) (List.mem_of_getElem? (i := 0) rfl)).ri).mono ?_; rintro e W13 ⟨g15, rfl, o16, b14⟩
    have s4 := s3.push b14 o16.2
    go_wp2_with fail
    refine (eq_same _ _ (mvZ a0 a1 z2) _ (s4.oi (OI.i64 o16) (List.mem_of_getElem? (i := 0) rfl)).ri (s4.oi (OI.i64 o8) (List.mem_of_getElem? (i := 2) rfl)).ri).mono ?_; rintro e _ ⟨rfl, d18, rfl⟩
    have s5 := s4.drewN d18
    go_wp2_with fail
    refine (to_any _ z2 _ (h2.below s5.bt) (by omega)).mono ?_; rintro e W19 ⟨t20, rfl, o21, b22⟩
    have s6 := s5.push b22 o21.2
    go_wp2_with fail
    refine (eq_same _ _ (z2) _ (s6.oi (OI.i64 o11) (List.mem_of_getElem? (i := 2) rfl)).ri (s6.oi (OI.i64 o21) (List.mem_of_getElem? (i := 0) rfl)).ri).mono ?_; rintro e _ ⟨rfl, d24, rfl⟩
    have s7 := s6.drewN d24
    go_wp2_with fail
    refine (mark_any _ (z2) _ (1) _ (s7.oi (OI.i64 o11) (List.mem_of_getElem? (i := 2) rfl)) (by omega) (by omega) (by omega)).mono ?_; rintro e W25 ⟨rfl, o26, r27⟩
    have s8 : St w W25 [] [(t20, (z2).map (Value.int .i64)), (g15, (mvZ a0 a1 z2).map (Value.int .i64)), (t10, ((marks (1) (z2).length)).map (Value.int .i64)), (g7, (mvZ a0 a1 z2).map (Value.int .i64)), (t2, (z2).map (Value.int .i64))] := s7.mark 2 rfl r27 o26.2
    go_wp2_with fail
    refine (eq_same _ _ (mvZ a0 a1 z2) _ (s8.oi (OI.i64 o16) (List.mem_of_getElem? (i := 1) rfl)).ri (s8.oi (OI.i64 o8) (List.mem_of_getElem? (i := 3) rfl)).ri).mono ?_; rintro e _ ⟨rfl, d29, rfl⟩
    have s9 := s8.drewN d29
    go_wp2_with fail
    refine (mark_any _ (mvZ a0 a1 z2) _ (1) _ (s9.oi (OI.i64 o16) (List.mem_of_getElem? (i := 1) rfl)) (mvZ_len a0 a1 z2) (by omega) (by omega)).mono ?_; rintro e W30 ⟨rfl, o31, r32⟩
    have s10 : St w W30 [] [(t20, (z2).map (Value.int .i64)), (g15, ((marks (1) (mvZ a0 a1 z2).length)).map (Value.int .i64)), (t10, ((marks (1) (z2).length)).map (Value.int .i64)), (g7, (mvZ a0 a1 z2).map (Value.int .i64)), (t2, (z2).map (Value.int .i64))] := s9.mark 1 rfl r32 o31.2
    go_wp2_with fail
    refine (held_same _ (mvZ a0 a1 z2).length (1) _ (s10.oi (OI.i64 o31) (List.mem_of_getElem? (i := 1) rfl)).ri (mvZ_len a0 a1 z2) (by omega) (by omega)).mono ?_; rintro e _ ⟨rfl, rfl⟩
    go_wp2_with fail
    refine (to_any _ z2 _ (h2.below s10.bt) (by omega)).mono ?_; rintro e W35 ⟨t36, rfl, o37, b38⟩
    have s11 := s10.push b38 o37.2
    go_wp2_with fail
    refine (implMv_any a0 a1 _ z2 _ (s11.oi (OI.i64 o37) (List.mem_of_getElem? (i := 0) rfl)).ri).mono ?_; rintro e W39 ⟨g41, rfl, o42, b40⟩
    have s12 := s11.push b40 o42.2
    go_wp2_with fail
    refine (eq_same _ _ (mvZ a0 a1 z2) _ (s12.oi (OI.i64 o42) (List.mem_of_getElem? (i := 0) rfl)).ri (s12.oi (OI.i64 o8) (List.mem_of_getElem? (i := 5) rfl)).ri).mono ?_; rintro e _ ⟨rfl, d44, rfl⟩
    have s13 := s12.drewN d44
    go_wp2_with fail
    refine (held_same _ (mvZ a0 a1 z2).length (1) _ (s13.oi (OI.i64 o31) (List.mem_of_getElem? (i := 3) rfl)).ri (mvZ_len a0 a1 z2) (by omega) (by omega)).mono ?_; rintro e _ ⟨rfl, rfl⟩
    go_wp2
    go_ret
    exact ⟨rfl, s13.bt⟩
  · go_enter Try.func4, Try.ntmps4
    go_wp2
    go_ret
    exact ⟨rfl, Below.refl _ _⟩

set_option maxRecDepth 100000 in
theorem lifted (os : Os) (started : os.Started) (H : Type) (enc : TypeId × Value → H) :
    ReturnsInHanded {} Try.checked os 4 .any (Rows.fnExactMendValuesSpec.pre6 enc Try.prog Try.f4 Rows.fnExactMendValuesRow.domain false) (Rows.fnExactMendValuesSpec.post enc Try.prog Try.f4 false true false false) := by
  refine returnsInHanded_of_change (C := Try.checked) own started (by kernel_rfl) Try.func4
    (ChangeSpec.witness6 (enc := enc) (C := Try.checked) false ⟨#[], #[.int .i64 0, .int .i64 0, .slice none 0 0], []⟩ 8 (by kernel_rfl) (by kernel_rfl) (by kernel_rfl) (by kernel_rfl)) ?_
  intro W base args ds gs before hval0 hW hcnd _
  have hval : ∀ (j : Nat) t v, Try.f4.params[j]? = some t → args[j]? = some v → Value.okWide Try.prog W .any base t v := hval0
  have hW' := hW
  obtain ⟨p, q, hA0, hV, rfl, hfz, hnd⟩ := hW
  have hA : DataW.TrodAll enc Try.prog W 0 (fun _ => true) true Try.f4.params.toList args.toList ds p := hA0
  rw [Try.params4] at hA hval
  obtain ⟨v0, vs0, d0, ds0, p0, q0, hargs, rfl, rfl, h0, r0⟩ := trodAll_cons hA
  obtain ⟨v1, vs1, d1, ds1, p1, q1, rfl, rfl, rfl, h1, r1⟩ := trodAll_cons r0
  obtain ⟨v2, vs2, d2, ds2, p2, q2, rfl, rfl, rfl, h2, r2⟩ := trodAll_cons r1
  obtain ⟨rfl, rfl, rfl⟩ := trodAll_nil r2
  obtain rfl : args = #[v0, v1, v2] := by cases args; simp_all
  obtain ⟨rfl, rfl⟩ := trodVars_none hV
  obtain ⟨a0, rfl, rfl, rfl, u0⟩ := open_int Try.underlying2 (hval 0 2 v0 rfl rfl) h0; have w0 := i64_of_wf u0
  obtain ⟨a1, rfl, rfl, rfl, u1⟩ := open_int Try.underlying2 (hval 1 2 v1 rfl rfl) h1; have w1 := i64_of_wf u1
  have k2 := h2
  have lt2 : ∀ x ∈ p2, x.block < W.heap.size := by obtain ⟨m, hm⟩ := k2; exact DataW.trod_lt m _ _ _ hm
  obtain ⟨z2, w2⟩ := view_ints (hval 2 24 v2 rfl rfl) h2
  clear hA0 hval0
  refine (walk a0 a1 v2 z2 W w0 w1 w2).mono fun e W' ⟨he, bel⟩ => ?_
  subst he
  exact ⟨_, rfl, _, _, _, [], _, [], hW', trodAll_mk1 (shut_bool Try.underlying4 _), (trodAll_cons_mk (shut_int Try.underlying2 u0) (trodAll_cons_mk (shut_int Try.underlying2 u1) (trodAll_cons_mk (Below.trod laidOut (by kernel_rfl) (of_decide_eq_true (by kernel_rfl)) k2 bel lt2) trodAll_mk0))), rfl, bel.frame _, fun h => by cases h⟩

theorem over : Rows.fnExactMendValuesRow.holds Try.pinned (OpenSpec.ofChange Rows.fnExactMendValuesSpec) :=
  OpenClaim.holds_of_wide 4 Try.f4 rfl rfl rfl rfl rfl rfl rfl ⟨rfl, rfl, rfl, rfl, rfl⟩ rfl rfl rfl rfl rfl (by kernel_rfl) Try.func4 (by kernel_rfl)
    (of_decide_eq_true (by kernel_rfl)) (by unfold Func.isWrapper; first | (rw [if_pos (by decide +kernel)]; kernel_rfl) | (rw [if_neg (by decide +kernel)]; exact ⟨rfl, rfl⟩))
    (fun os started H enc _ => lifted os started H enc)

theorem proved : Rows.FnExactMendValuesSaid := over
end Go.Proofs.Ytgkciionmhoofaa.fnExactMendValues
