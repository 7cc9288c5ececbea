/- 'laws.FnExactGrownText' returns true for all arguments: the program's function and the reference's return the same, and change no argument. No conditions. -/
import Derived.Test.YtkjgplomdnhblaaGtI
import Derived.Test.YtkjgplomdnhblaaState
import Derived.Test.YtkjgplomdnhblaaLaws
import Derived.Test.YtkjgplomdnhblaaFrame
import Derived.Deep.RegionHeld3
import Derived.Handy
namespace Go.Proofs.Ytkjgplomdnhblaa.fnExactGrownText
open Go.ChangeShapes Go.WideShapes Go.ChangeAt Go.RowKit
set_option maxRecDepth 100000
set_option linter.unusedVariables false
set_option linter.unusedSimpArgs false

set_option maxRecDepth 100000 in
set_option maxHeartbeats 4000000 in
theorem walk (v0 : Value) (z0 : List Int) (a1 : Int) (w : World) (h0 : RI w v0 z0) (_h1 : I64 a1) :
    Calls Try.prog 5 #[v0, .int .i64 a1] w fun e w' => e = .returned (.bool true) ∧ Below w.heap.size w w' := by
  obtain ⟨ao0, cap0, rfl⟩ := h0.shape
  have hlen0 := h0.len
  by_cases hl0 : z0.length ≤ 1048576
  · go_enter Try.func5, Try.ntmps5
    have s0 : St w w [] [] := St.refl w
    go_wp2_with fail
    refine (to_any _ z0 _ (h0.below s0.bt) (by omega)).mono ?_; rintro e W1 ⟨t2, rfl, o3, b4⟩
    have s1 := s0.push b4 o3.2
    go_wp2_with fail
    refine (specGt_any _ z0 a1 _ (s1.oi (OI.i64 o3) (List.mem_of_getElem? (i := 0) rfl)).ri).mono ?_; rintro e W5 ⟨g7, rfl, o8, b6⟩
    have s2 := s1.push b6 o8.2
    go_wp2_with fail
    refine (to_any _ z0 _ (h0.below s2.bt) (by omega)).mono ?_; rintro e W9 ⟨t10, rfl, o11, b12⟩
    have s3 := s2.push b12 o11.2
    go_wp2_with fail
    refine (implGt_any _ z0 a1 _ (s3.oi (OI.i64 o11) (List.mem_of_getElem? (i := 0) rfl)).ri).mono ?_; rintro e W13 ⟨g15, rfl, o16, b14⟩
    have s4 := s3.push b14 o16.2
    go_wp2_with fail
    refine (eq_same _ _ (gtZ z0 a1) _ (s4.oi (OI.i64 o16) (List.mem_of_getElem? (i := 0) rfl)).ri (s4.oi (OI.i64 o8) (List.mem_of_getElem? (i := 2) rfl)).ri).mono ?_; rintro e _ ⟨rfl, d18, rfl⟩
    have s5 := s4.drewN d18
    go_wp2_with fail
    refine (to_any _ z0 _ (h0.below s5.bt) (by omega)).mono ?_; rintro e W19 ⟨t20, rfl, o21, b22⟩
    have s6 := s5.push b22 o21.2
    go_wp2_with fail
    refine (eq_same _ _ (z0) _ (s6.oi (OI.i64 o11) (List.mem_of_getElem? (i := 2) rfl)).ri (s6.oi (OI.i64 o21) (List.mem_of_getElem? (i := 0) rfl)).ri).mono ?_; rintro e _ ⟨rfl, d24, rfl⟩
    have s7 := s6.drewN d24
    go_wp2_with fail
    refine (mark_any _ (z0) _ (1) _ (s7.oi (OI.i64 o11) (List.mem_of_getElem? (i := 2) rfl)) (by omega) (by omega) (by omega)).mono ?_; rintro e W25 ⟨rfl, o26, r27⟩
    have s8 : St w W25 [] [(t20, (z0).map (Value.int .i64)), (g15, (gtZ z0 a1).map (Value.int .i64)), (t10, ((marks (1) (z0).length)).map (Value.int .i64)), (g7, (gtZ z0 a1).map (Value.int .i64)), (t2, (z0).map (Value.int .i64))] := s7.mark 2 rfl r27 o26.2
    go_wp2_with fail
    refine (eq_same _ _ (gtZ z0 a1) _ (s8.oi (OI.i64 o16) (List.mem_of_getElem? (i := 1) rfl)).ri (s8.oi (OI.i64 o8) (List.mem_of_getElem? (i := 3) rfl)).ri).mono ?_; rintro e _ ⟨rfl, d29, rfl⟩
    have s9 := s8.drewN d29
    go_wp2_with fail
    refine (mark_any _ (gtZ z0 a1) _ (1) _ (s9.oi (OI.i64 o16) (List.mem_of_getElem? (i := 1) rfl)) (gtZ_len z0 a1) (by omega) (by omega)).mono ?_; rintro e W30 ⟨rfl, o31, r32⟩
    have s10 : St w W30 [] [(t20, (z0).map (Value.int .i64)), (g15, ((marks (1) (gtZ z0 a1).length)).map (Value.int .i64)), (t10, ((marks (1) (z0).length)).map (Value.int .i64)), (g7, (gtZ z0 a1).map (Value.int .i64)), (t2, (z0).map (Value.int .i64))] := s9.mark 1 rfl r32 o31.2
    go_wp2_with fail
    refine (held_same _ (gtZ z0 a1).length (1) _ (s10.oi (OI.i64 o31) (List.mem_of_getElem? (i := 1) rfl)).ri (gtZ_len z0 a1) (by omega) (by omega)).mono ?_; rintro e _ ⟨rfl, rfl⟩
    go_wp2_with fail
    refine (to_any _ z0 _ (h0.below s10.bt) (by omega)).mono ?_; rintro e W35 ⟨t36, rfl, o37, b38⟩
    have s11 := s10.push b38 o37.2
    go_wp2_with fail
    refine (implGt_any _ z0 a1 _ (s11.oi (OI.i64 o37) (List.mem_of_getElem? (i := 0) rfl)).ri).mono ?_; rintro e W39 ⟨g41, rfl, o42, b40⟩
    have s12 := s11.push b40 o42.2
    go_wp2_with fail
    refine (eq_same _ _ (gtZ z0 a1) _ (s12.oi (OI.i64 o42) (List.mem_of_getElem? (i := 0) rfl)).ri (s12.oi (OI.i64 o8) (List.mem_of_getElem? (i := 5) rfl)).ri).mono ?_; rintro e _ ⟨rfl, d44, rfl⟩
    have s13 := s12.drewN d44
    go_wp2_with fail
    refine (held_same _ (gtZ z0 a1).length (1) _ (s13.oi (OI.i64 o31) (List.mem_of_getElem? (i := 3) rfl)).ri (gtZ_len z0 a1) (by omega) (by omega)).mono ?_; rintro e _ ⟨rfl, rfl⟩
    go_wp2
    go_ret
    exact ⟨rfl, s13.bt⟩
  · go_enter Try.func5, Try.ntmps5
    go_wp2
    go_ret
    exact ⟨rfl, Below.refl _ _⟩

set_option maxRecDepth 100000 in
theorem lifted (os : Os) (started : os.Started) (H : Type) (enc : TypeId × Value → H) :
    ReturnsInHanded {} Try.checked os 5 .any (Rows.fnExactGrownTextSpec.pre6 enc Try.prog Try.f5 Rows.fnExactGrownTextRow.domain false) (Rows.fnExactGrownTextSpec.post enc Try.prog Try.f5 false true false false) := by
  refine returnsInHanded_of_change (C := Try.checked) own started (by kernel_rfl) Try.func5
    (ChangeSpec.witness6 (enc := enc) (C := Try.checked) false ⟨#[], #[.slice none 0 0, .int .i64 0], []⟩ 8 (by kernel_rfl) (by kernel_rfl) (by kernel_rfl) (by kernel_rfl)) ?_
  intro W base args ds gs before hval0 hW hcnd _
  have hval : ∀ (j : Nat) t v, Try.f5.params[j]? = some t → args[j]? = some v → Value.okWide Try.prog W .any base t v := hval0
  have hW' := hW
  obtain ⟨p, q, hA0, hV, rfl, hfz, hnd⟩ := hW
  have hA : DataW.TrodAll enc Try.prog W 0 (fun _ => true) true Try.f5.params.toList args.toList ds p := hA0
  rw [Try.params5] at hA hval
  obtain ⟨v0, vs0, d0, ds0, p0, q0, hargs, rfl, rfl, h0, r0⟩ := trodAll_cons hA
  obtain ⟨v1, vs1, d1, ds1, p1, q1, rfl, rfl, rfl, h1, r1⟩ := trodAll_cons r0
  obtain ⟨rfl, rfl, rfl⟩ := trodAll_nil r1
  obtain rfl : args = #[v0, v1] := by cases args; simp_all
  obtain ⟨rfl, rfl⟩ := trodVars_none hV
  have k0 := h0
  have lt0 : ∀ x ∈ p0, x.block < W.heap.size := by obtain ⟨m, hm⟩ := k0; exact DataW.trod_lt m _ _ _ hm
  obtain ⟨z0, w0⟩ := view_ints (hval 0 22 v0 rfl rfl) h0
  obtain ⟨a1, rfl, rfl, rfl, u1⟩ := open_int Try.underlying2 (hval 1 2 v1 rfl rfl) h1; have w1 := i64_of_wf u1
  clear hA0 hval0
  refine (walk v0 z0 a1 W w0 w1).mono fun e W' ⟨he, bel⟩ => ?_
  subst he
  exact ⟨_, rfl, _, _, _, [], _, [], hW', trodAll_mk1 (shut_bool Try.underlying4 _), (trodAll_cons_mk (Below.trod laidOut (by kernel_rfl) (of_decide_eq_true (by kernel_rfl)) k0 bel lt0) (trodAll_cons_mk (shut_int Try.underlying2 u1) trodAll_mk0)), rfl, bel.frame _, fun h => by cases h⟩

theorem over : Rows.fnExactGrownTextRow.holds Try.pinned (OpenSpec.ofChange Rows.fnExactGrownTextSpec) :=
  OpenClaim.holds_of_wide 5 Try.f5 rfl rfl rfl rfl rfl rfl rfl ⟨rfl, rfl, rfl, rfl, rfl⟩ rfl rfl rfl rfl rfl (by kernel_rfl) Try.func5 (by kernel_rfl)
    (of_decide_eq_true (by kernel_rfl)) (by unfold Func.isWrapper; first | (rw [if_pos (by decide +kernel)]; kernel_rfl) | (rw [if_neg (by decide +kernel)]; exact ⟨rfl, rfl⟩))
    (fun os started H enc _ => lifted os started H enc)

theorem proved : Rows.FnExactGrownTextSaid := over
end Go.Proofs.Ytkjgplomdnhblaa.fnExactGrownText
