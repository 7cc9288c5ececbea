/- 'laws.FnExactUnmergeText' returns true for all arguments: the program's function and the reference's return the same, and change no argument. No conditions. -/
import Derived.Test.YtgkgfpljblnpnaaUnmS
import Derived.Test.YtgkgfpljblnpnaaState
import Derived.Test.YtgkgfpljblnpnaaLaws
import Derived.Test.YtgkgfpljblnpnaaFrame
import Derived.Deep.RegionHeld3
import Derived.Handy
namespace Go.Proofs.Ytgkgfpljblnpnaa.fnExactUnmergeText
open Go.ChangeShapes Go.WideShapes Go.ChangeAt Go.RowKit
set_option maxRecDepth 100000
set_option linter.unusedVariables false
set_option linter.unusedSimpArgs false

set_option maxRecDepth 100000 in
set_option maxHeartbeats 4000000 in
theorem walk (v0 : Value) (z0 : List Int) (v1 : Value) (z1 : List Int) (a2 : Int) (w : World) (h0 : RI w v0 z0) (h1 : RI w v1 z1) (_h2 : I64 a2) :
    Calls Try.prog 5 #[v0, v1, .int .i64 a2] w fun e w' => e = .returned (.bool true) ∧ Below w.heap.size w w' := by
  obtain ⟨ao0, cap0, rfl⟩ := h0.shape
  have hlen0 := h0.len
  obtain ⟨ao1, cap1, rfl⟩ := h1.shape
  have hlen1 := h1.len
  by_cases hl0 : z0.length ≤ 1048576
  · by_cases hl1 : z1.length ≤ 1048576
    · go_enter Try.func5, Try.ntmps5
      have s0 : St w w [] [] := St.refl w
      go_wp2_with fail
      refine (to_any _ z0 _ (h0.below s0.bt) (by omega)).mono ?_; rintro e W1 ⟨t2, rfl, o3, b4⟩
      have s1 := s0.push b4 o3.2
      go_wp2_with fail
      refine (to_any _ z1 _ (h1.below s1.bt) (by omega)).mono ?_; rintro e W5 ⟨t6, rfl, o7, b8⟩
      have s2 := s1.push b8 o7.2
      go_wp2_with fail
      refine (specUnm_any _ z0 _ z1 a2 _ (s2.oi (OI.i64 o3) (List.mem_of_getElem? (i := 1) rfl)).ri (s2.oi (OI.i64 o7) (List.mem_of_getElem? (i := 0) rfl)).ri).mono ?_; rintro e W9 ⟨g11, rfl, o12, b10⟩
      have s3 := s2.push b10 o12.2
      go_wp2_with fail
      refine (to_any _ z0 _ (h0.below s3.bt) (by omega)).mono ?_; rintro e W13 ⟨t14, rfl, o15, b16⟩
      have s4 := s3.push b16 o15.2
      go_wp2_with fail
      refine (to_any _ z1 _ (h1.below s4.bt) (by omega)).mono ?_; rintro e W17 ⟨t18, rfl, o19, b20⟩
      have s5 := s4.push b20 o19.2
      go_wp2_with fail
      refine (implUnm_any _ z0 _ z1 a2 _ (s5.oi (OI.i64 o15) (List.mem_of_getElem? (i := 1) rfl)).ri (s5.oi (OI.i64 o19) (List.mem_of_getElem? (i := 0) rfl)).ri).mono ?_; rintro e W21 ⟨g23, rfl, o24, b22⟩
      have s6 := s5.push b22 o24.2
      go_wp2_with fail
      refine (eq_same _ _ (umZ z0 z1 a2) _ (s6.oi (OI.i64 o24) (List.mem_of_getElem? (i := 0) rfl)).ri (s6.oi (OI.i64 o12) (List.mem_of_getElem? (i := 3) rfl)).ri).mono ?_; rintro e _ ⟨rfl, d26, rfl⟩
      have s7 := s6.drewN d26
      go_wp2_with fail
      refine (to_any _ z0 _ (h0.below s7.bt) (by omega)).mono ?_; rintro e W27 ⟨t28, rfl, o29, b30⟩
      have s8 := s7.push b30 o29.2
      go_wp2_with fail
      refine (eq_same _ _ (z0) _ (s8.oi (OI.i64 o15) (List.mem_of_getElem? (i := 3) rfl)).ri (s8.oi (OI.i64 o29) (List.mem_of_getElem? (i := 0) rfl)).ri).mono ?_; rintro e _ ⟨rfl, d32, rfl⟩
      have s9 := s8.drewN d32
      go_wp2_with fail
      refine (to_any _ z1 _ (h1.below s9.bt) (by omega)).mono ?_; rintro e W33 ⟨t34, rfl, o35, b36⟩
      have s10 := s9.push b36 o35.2
      go_wp2_with fail
      refine (eq_same _ _ (z1) _ (s10.oi (OI.i64 o19) (List.mem_of_getElem? (i := 3) rfl)).ri (s10.oi (OI.i64 o35) (List.mem_of_getElem? (i := 0) rfl)).ri).mono ?_; rintro e _ ⟨rfl, d38, rfl⟩
      have s11 := s10.drewN d38
      go_wp2_with fail
      refine (mark_any _ (z0) _ (1) _ (s11.oi (OI.i64 o15) (List.mem_of_getElem? (i := 4) rfl)) (by omega) (by omega) (by omega)).mono ?_; rintro e W39 ⟨rfl, o40, r41⟩
      have s12 : St w W39 [] [(t34, (z1).map (Value.int .i64)), (t28, (z0).map (Value.int .i64)), (g23, (umZ z0 z1 a2).map (Value.int .i64)), (t18, (z1).map (Value.int .i64)), (t14, ((marks (1) (z0).length)).map (Value.int .i64)), (g11, (umZ z0 z1 a2).map (Value.int .i64)), (t6, (z1).map (Value.int .i64)), (t2, (z0).map (Value.int .i64))] := s11.mark 4 rfl r41 o40.2
      go_wp2_with fail
      refine (mark_any _ (z1) _ (1 + ((z0).length : Int)) _ (s12.oi (OI.i64 o19) (List.mem_of_getElem? (i := 3) rfl)) (by omega) (by omega) (by omega)).mono ?_; rintro e W42 ⟨rfl, o43, r44⟩
      have s13 : St w W42 [] [(t34, (z1).map (Value.int .i64)), (t28, (z0).map (Value.int .i64)), (g23, (umZ z0 z1 a2).map (Value.int .i64)), (t18, ((marks (1 + ((z0).length : Int)) (z1).length)).map (Value.int .i64)), (t14, ((marks (1) (z0).length)).map (Value.int .i64)), (g11, (umZ z0 z1 a2).map (Value.int .i64)), (t6, (z1).map (Value.int .i64)), (t2, (z0).map (Value.int .i64))] := s12.mark 3 rfl r44 o43.2
      go_wp2_with fail
      refine (eq_same _ _ (umZ z0 z1 a2) _ (s13.oi (OI.i64 o24) (List.mem_of_getElem? (i := 2) rfl)).ri (s13.oi (OI.i64 o12) (List.mem_of_getElem? (i := 5) rfl)).ri).mono ?_; rintro e _ ⟨rfl, d46, rfl⟩
      have s14 := s13.drewN d46
      go_wp2_with fail
      refine (mark_any _ (umZ z0 z1 a2) _ (1) _ (s14.oi (OI.i64 o24) (List.mem_of_getElem? (i := 2) rfl)) (umZ_len z0 z1 a2) (by omega) (by omega)).mono ?_; rintro e W47 ⟨rfl, o48, r49⟩
      have s15 : St w W47 [] [(t34, (z1).map (Value.int .i64)), (t28, (z0).map (Value.int .i64)), (g23, ((marks (1) (umZ z0 z1 a2).length)).map (Value.int .i64)), (t18, ((marks (1 + ((z0).length : Int)) (z1).length)).map (Value.int .i64)), (t14, ((marks (1) (z0).length)).map (Value.int .i64)), (g11, (umZ z0 z1 a2).map (Value.int .i64)), (t6, (z1).map (Value.int .i64)), (t2, (z0).map (Value.int .i64))] := s14.mark 2 rfl r49 o48.2
      go_wp2_with fail
      refine (held_same _ (umZ z0 z1 a2).length 1 _ (s15.oi (OI.i64 o48) (List.mem_of_getElem? (i := 2) rfl)).ri (umZ_len z0 z1 a2) (by decide) (by decide)).mono ?_; rintro e _ ⟨rfl, rfl⟩
      go_wp2_with fail
      refine (to_any _ z0 _ (h0.below s15.bt) (by omega)).mono ?_; rintro e W52 ⟨t53, rfl, o54, b55⟩
      have s16 := s15.push b55 o54.2
      go_wp2_with fail
      refine (to_any _ z1 _ (h1.below s16.bt) (by omega)).mono ?_; rintro e W56 ⟨t57, rfl, o58, b59⟩
      have s17 := s16.push b59 o58.2
      go_wp2_with fail
      refine (implUnm_any _ z0 _ z1 a2 _ (s17.oi (OI.i64 o54) (List.mem_of_getElem? (i := 1) rfl)).ri (s17.oi (OI.i64 o58) (List.mem_of_getElem? (i := 0) rfl)).ri).mono ?_; rintro e W60 ⟨g62, rfl, o63, b61⟩
      have s18 := s17.push b61 o63.2
      go_wp2_with fail
      refine (eq_same _ _ (umZ z0 z1 a2) _ (s18.oi (OI.i64 o63) (List.mem_of_getElem? (i := 0) rfl)).ri (s18.oi (OI.i64 o12) (List.mem_of_getElem? (i := 8) rfl)).ri).mono ?_; rintro e _ ⟨rfl, d65, rfl⟩
      have s19 := s18.drewN d65
      go_wp2_with fail
      refine (held_same _ (umZ z0 z1 a2).length 1 _ (s19.oi (OI.i64 o48) (List.mem_of_getElem? (i := 5) rfl)).ri (umZ_len z0 z1 a2) (by decide) (by decide)).mono ?_; rintro e _ ⟨rfl, rfl⟩
      go_wp2
      go_ret
      exact ⟨rfl, s19.bt⟩
    · go_enter Try.func5, Try.ntmps5
      go_wp2
      go_ret
      exact ⟨rfl, Below.refl _ _⟩
  · go_enter Try.func5, Try.ntmps5
    go_wp2
    go_ret
    exact ⟨rfl, Below.refl _ _⟩

set_option maxRecDepth 100000 in
theorem lifted (os : Os) (started : os.Started) (H : Type) (enc : TypeId × Value → H) :
    ReturnsInHanded {} Try.checked os 5 .any (Rows.fnExactUnmergeTextSpec.pre6 enc Try.prog Try.f5 Rows.fnExactUnmergeTextRow.domain false) (Rows.fnExactUnmergeTextSpec.post enc Try.prog Try.f5 false true false false) := by
  refine returnsInHanded_of_change (C := Try.checked) own started (by kernel_rfl) Try.func5
    (ChangeSpec.witness6 (enc := enc) (C := Try.checked) false ⟨#[], #[.slice none 0 0, .slice none 0 0, .int .i64 0], []⟩ 8 (by kernel_rfl) (by kernel_rfl) (by kernel_rfl) (by kernel_rfl)) ?_
  intro W base args ds gs before hval0 hW hcnd _
  have hval : ∀ (j : Nat) t v, Try.f5.params[j]? = some t → args[j]? = some v → Value.okWide Try.prog W .any base t v := hval0
  have hW' := hW
  obtain ⟨p, q, hA0, hV, rfl, hfz, hnd⟩ := hW
  have hA : DataW.TrodAll enc Try.prog W 0 (fun _ => true) true Try.f5.params.toList args.toList ds p := hA0
  rw [Try.params5] at hA hval
  obtain ⟨v0, vs0, d0, ds0, p0, q0, hargs, rfl, rfl, h0, r0⟩ := trodAll_cons hA
  obtain ⟨v1, vs1, d1, ds1, p1, q1, rfl, rfl, rfl, h1, r1⟩ := trodAll_cons r0
  obtain ⟨v2, vs2, d2, ds2, p2, q2, rfl, rfl, rfl, h2, r2⟩ := trodAll_cons r1
  obtain ⟨rfl, rfl, rfl⟩ := trodAll_nil r2
  obtain rfl : args = #[v0, v1, v2] := by cases args; simp_all
  obtain ⟨rfl, rfl⟩ := trodVars_none hV
  have k0 := h0
  have lt0 : ∀ x ∈ p0, x.block < W.heap.size := by obtain ⟨m, hm⟩ := k0; exact DataW.trod_lt m _ _ _ hm
  obtain ⟨z0, w0⟩ := view_ints (hval 0 22 v0 rfl rfl) h0
  have k1 := h1
  have lt1 : ∀ x ∈ p1, x.block < W.heap.size := by obtain ⟨m, hm⟩ := k1; exact DataW.trod_lt m _ _ _ hm
  obtain ⟨z1, w1⟩ := view_ints (hval 1 22 v1 rfl rfl) h1
  obtain ⟨a2, rfl, rfl, rfl, u2⟩ := open_int Try.underlying2 (hval 2 2 v2 rfl rfl) h2; have w2 := i64_of_wf u2
  clear hA0 hval0
  refine (walk v0 z0 v1 z1 a2 W w0 w1 w2).mono fun e W' ⟨he, bel⟩ => ?_
  subst he
  exact ⟨_, rfl, _, _, _, [], _, [], hW', trodAll_mk1 (shut_bool Try.underlying4 _), (trodAll_cons_mk (Below.trod laidOut (by kernel_rfl) (of_decide_eq_true (by kernel_rfl)) k0 bel lt0) (trodAll_cons_mk (Below.trod laidOut (by kernel_rfl) (of_decide_eq_true (by kernel_rfl)) k1 bel lt1) (trodAll_cons_mk (shut_int Try.underlying2 u2) trodAll_mk0))), rfl, bel.frame _, fun h => by cases h⟩

theorem over : Rows.fnExactUnmergeTextRow.holds Try.pinned (OpenSpec.ofChange Rows.fnExactUnmergeTextSpec) :=
  OpenClaim.holds_of_wide 5 Try.f5 rfl rfl rfl rfl rfl rfl rfl ⟨rfl, rfl, rfl, rfl, rfl⟩ rfl rfl rfl rfl rfl (by kernel_rfl) Try.func5 (by kernel_rfl)
    (of_decide_eq_true (by kernel_rfl)) (by unfold Func.isWrapper; first | (rw [if_pos (by decide +kernel)]; kernel_rfl) | (rw [if_neg (by decide +kernel)]; exact ⟨rfl, rfl⟩))
    (fun os started H enc _ => lifted os started H enc)

theorem proved : Rows.FnExactUnmergeTextSaid := over
end Go.Proofs.Ytgkgfpljblnpnaa.fnExactUnmergeText
