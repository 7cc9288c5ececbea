/- 'laws.FnExactFitsShares' returns true for all arguments: the program's function and the reference's return the same, and change no argument. No conditions. -/
import Derived.Test.YtejabnjhnbminaaFit
import Derived.Test.YtejabnjhnbminaaState
import Derived.Test.YtejabnjhnbminaaLaws
import Derived.Test.YtejabnjhnbminaaFrame
import Derived.Deep.RegionHeld3
import Derived.Handy
namespace Go.Proofs.Ytejabnjhnbminaa.fnExactFitsShares
open Go.ChangeShapes Go.WideShapes Go.ChangeAt Go.RowKit
set_option maxRecDepth 100000
set_option linter.unusedVariables false
set_option linter.unusedSimpArgs false

set_option maxRecDepth 100000 in
set_option maxHeartbeats 4000000 in
theorem walk (a0 : Int) (a1 : Int) (v2 : Value) (z2 : List Int) (v3 : Value) (z3 : List Int) (w : World) (_h0 : I64 a0) (_h1 : I64 a1) (h2 : RI w v2 z2) (h3 : RI w v3 z3) :
    Calls Try.prog 9 #[.int .i64 a0, .int .i64 a1, v2, v3] w fun e w' => e = .returned (.bool true) ∧ Below w.heap.size w w' := by
  obtain ⟨ao2, cap2, rfl⟩ := h2.shape
  have hlen2 := h2.len
  obtain ⟨ao3, cap3, rfl⟩ := h3.shape
  have hlen3 := h3.len
  by_cases hl0 : z2.length ≤ 1048576
  · by_cases hl1 : z3.length ≤ 1048576
    · go_enter Try.func9, Try.ntmps9
      have s0 : St w w [] [] := St.refl w
      go_wp2_with fail
      refine (to_any _ z2 _ (h2.below s0.bt) (by omega)).mono ?_; rintro e W1 ⟨t2, rfl, o3, b4⟩
      have s1 := s0.push b4 o3.2
      go_wp2_with fail
      refine (to_any _ z3 _ (h3.below s1.bt) (by omega)).mono ?_; rintro e W5 ⟨t6, rfl, o7, b8⟩
      have s2 := s1.push b8 o7.2
      go_wp2_with fail
      refine (specFs_any a0 a1 _ z2 _ z3 _ (s2.oi (OI.i64 o3) (List.mem_of_getElem? (i := 1) rfl)).ri (s2.oi (OI.i64 o7) (List.mem_of_getElem? (i := 0) rfl)).ri).mono ?_; rintro e W9 ⟨rfl, b10⟩
      have s3 := s2.below b10
      go_wp2_with fail
      refine (to_any _ z2 _ (h2.below s3.bt) (by omega)).mono ?_; rintro e W11 ⟨t12, rfl, o13, b14⟩
      have s4 := s3.push b14 o13.2
      go_wp2_with fail
      refine (to_any _ z3 _ (h3.below s4.bt) (by omega)).mono ?_; rintro e W15 ⟨t16, rfl, o17, b18⟩
      have s5 := s4.push b18 o17.2
      go_wp2_with fail
      refine (implFs_any a0 a1 _ z2 _ z3 _ (s5.oi (OI.i64 o13) (List.mem_of_getElem? (i := 1) rfl)).ri (s5.oi (OI.i64 o17) (List.mem_of_getElem? (i := 0) rfl)).ri).mono ?_; rintro e W19 ⟨rfl, b20⟩
      have s6 := s5.below b20
      go_wp2_with fail
      refine (to_any _ z2 _ (h2.below s6.bt) (by omega)).mono ?_; rintro e W21 ⟨t22, rfl, o23, b24⟩
      have s7 := s6.push b24 o23.2
      go_wp2_with fail
      refine (eq_same _ _ (z2) _ (s7.oi (OI.i64 o13) (List.mem_of_getElem? (i := 2) rfl)).ri (s7.oi (OI.i64 o23) (List.mem_of_getElem? (i := 0) rfl)).ri).mono ?_; rintro e _ ⟨rfl, d26, rfl⟩
      have s8 := s7.drewN d26
      go_wp2_with fail
      refine (to_any _ z3 _ (h3.below s8.bt) (by omega)).mono ?_; rintro e W27 ⟨t28, rfl, o29, b30⟩
      have s9 := s8.push b30 o29.2
      go_wp2_with fail
      refine (eq_same _ _ (z3) _ (s9.oi (OI.i64 o17) (List.mem_of_getElem? (i := 2) rfl)).ri (s9.oi (OI.i64 o29) (List.mem_of_getElem? (i := 0) rfl)).ri).mono ?_; rintro e _ ⟨rfl, d32, rfl⟩
      have s10 := s9.drewN d32
      go_wp2
      go_ret
      exact ⟨rfl, s10.bt⟩
    · go_enter Try.func9, Try.ntmps9
      go_wp2
      go_ret
      exact ⟨rfl, Below.refl _ _⟩
  · go_enter Try.func9, Try.ntmps9
    go_wp2
    go_ret
    exact ⟨rfl, Below.refl _ _⟩

set_option maxRecDepth 100000 in
theorem lifted (os : Os) (started : os.Started) (H : Type) (enc : TypeId × Value → H) :
    ReturnsInHanded {} Try.checked os 9 .any (Rows.fnExactFitsSharesSpec.pre6 enc Try.prog Try.f9 Rows.fnExactFitsSharesRow.domain false) (Rows.fnExactFitsSharesSpec.post enc Try.prog Try.f9 false true false false) := by
  refine returnsInHanded_of_change (C := Try.checked) own started (by kernel_rfl) Try.func9
    (ChangeSpec.witness6 (enc := enc) (C := Try.checked) false ⟨#[], #[.int .i64 0, .int .i64 0, .slice none 0 0, .slice none 0 0], []⟩ 8 (by kernel_rfl) (by kernel_rfl) (by kernel_rfl) (by kernel_rfl)) ?_
  intro W base args ds gs before hval0 hW hcnd _
  have hval : ∀ (j : Nat) t v, Try.f9.params[j]? = some t → args[j]? = some v → Value.okWide Try.prog W .any base t v := hval0
  have hW' := hW
  obtain ⟨p, q, hA0, hV, rfl, hfz, hnd⟩ := hW
  have hA : DataW.TrodAll enc Try.prog W 0 (fun _ => true) true Try.f9.params.toList args.toList ds p := hA0
  rw [Try.params9] at hA hval
  obtain ⟨v0, vs0, d0, ds0, p0, q0, hargs, rfl, rfl, h0, r0⟩ := trodAll_cons hA
  obtain ⟨v1, vs1, d1, ds1, p1, q1, rfl, rfl, rfl, h1, r1⟩ := trodAll_cons r0
  obtain ⟨v2, vs2, d2, ds2, p2, q2, rfl, rfl, rfl, h2, r2⟩ := trodAll_cons r1
  obtain ⟨v3, vs3, d3, ds3, p3, q3, rfl, rfl, rfl, h3, r3⟩ := trodAll_cons r2
  obtain ⟨rfl, rfl, rfl⟩ := trodAll_nil r3
  obtain rfl : args = #[v0, v1, v2, v3] := by cases args; simp_all
  obtain ⟨rfl, rfl⟩ := trodVars_none hV
  obtain ⟨a0, rfl, rfl, rfl, u0⟩ := open_int Try.underlying2 (hval 0 2 v0 rfl rfl) h0; have w0 := i64_of_wf u0
  obtain ⟨a1, rfl, rfl, rfl, u1⟩ := open_int Try.underlying2 (hval 1 2 v1 rfl rfl) h1; have w1 := i64_of_wf u1
  have k2 := h2
  have lt2 : ∀ x ∈ p2, x.block < W.heap.size := by obtain ⟨m, hm⟩ := k2; exact DataW.trod_lt m _ _ _ hm
  obtain ⟨z2, w2⟩ := view_ints (hval 2 22 v2 rfl rfl) h2
  have k3 := h3
  have lt3 : ∀ x ∈ p3, x.block < W.heap.size := by obtain ⟨m, hm⟩ := k3; exact DataW.trod_lt m _ _ _ hm
  obtain ⟨z3, w3⟩ := view_ints (hval 3 22 v3 rfl rfl) h3
  clear hA0 hval0
  refine (walk a0 a1 v2 z2 v3 z3 W w0 w1 w2 w3).mono fun e W' ⟨he, bel⟩ => ?_
  subst he
  exact ⟨_, rfl, _, _, _, [], _, [], hW', trodAll_mk1 (shut_bool Try.underlying4 _), (trodAll_cons_mk (shut_int Try.underlying2 u0) (trodAll_cons_mk (shut_int Try.underlying2 u1) (trodAll_cons_mk (Below.trod laidOut (by kernel_rfl) (of_decide_eq_true (by kernel_rfl)) k2 bel lt2) (trodAll_cons_mk (Below.trod laidOut (by kernel_rfl) (of_decide_eq_true (by kernel_rfl)) k3 bel lt3) trodAll_mk0)))), rfl, bel.frame _, fun h => by cases h⟩

theorem over : Rows.fnExactFitsSharesRow.holds Try.pinned (OpenSpec.ofChange Rows.fnExactFitsSharesSpec) :=
  OpenClaim.holds_of_wide 9 Try.f9 rfl rfl rfl rfl rfl rfl rfl ⟨rfl, rfl, rfl, rfl, rfl⟩ rfl rfl rfl rfl rfl (by kernel_rfl) Try.func9 (by kernel_rfl)
    (of_decide_eq_true (by kernel_rfl)) (by unfold Func.isWrapper; first | (rw [if_pos (by decide +kernel)]; kernel_rfl) | (rw [if_neg (by decide +kernel)]; exact ⟨rfl, rfl⟩))
    (fun os started H enc _ => lifted os started H enc)

theorem proved : Rows.FnExactFitsSharesSaid := over
end Go.Proofs.Ytejabnjhnbminaa.fnExactFitsShares
