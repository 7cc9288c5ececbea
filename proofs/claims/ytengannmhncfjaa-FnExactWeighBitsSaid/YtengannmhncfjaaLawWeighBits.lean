/- 'laws.FnExactWeighBits' returns true for all arguments: the program's function and the reference's return the same, and change no argument. No conditions. -/
import Derived.Test.YtengannmhncfjaaWgI
import Derived.Test.YtengannmhncfjaaSmf
import Derived.Test.YtengannmhncfjaaState
import Derived.Test.YtengannmhncfjaaLaws
import Derived.Test.YtengannmhncfjaaFrame
import Derived.Test.YtengannmhncfjaaLawsB
import Derived.Deep.RegionHeld3
import Derived.Handy
namespace Go.Proofs.Ytengannmhncfjaa.fnExactWeighBits
open Go.ChangeShapes Go.WideShapes Go.ChangeAt Go.RowKit
set_option maxRecDepth 100000
set_option linter.unusedVariables false
set_option linter.unusedSimpArgs false

set_option maxRecDepth 100000 in
set_option maxHeartbeats 4000000 in
theorem walk (v0 : Value) (z0 : List Bool) (a1 : Int) (w : World) (h0 : Rg Value.bool w v0 z0) (_h1 : I64 a1) :
    Calls Try.prog 4 #[v0, .int .i64 a1] w fun e w' => e = .returned (.bool true) ∧ Below w.heap.size w w' := by
  obtain ⟨ao0, cap0, rfl⟩ := h0.shape
  have hlen0 := h0.len
  by_cases hl0 : z0.length ≤ 1048576
  · go_enter Try.func4, Try.ntmps4
    have s0 : St w w [] [] := St.refl w
    go_wp2_with fail
    refine (toB_any _ z0 _ (h0.below s0.bt) (by omega)).mono ?_; rintro e W1 ⟨t2, rfl, o3, b4⟩
    have s1 := s0.push b4 o3
    go_wp2_with fail
    refine (specWg_any _ z0 a1 _ (s1.ob (List.mem_of_getElem? (i := 0) rfl)).rg).mono ?_; rintro e W5 ⟨rfl, b6⟩
    have s2 := s1.below b6
    go_wp2_with fail
    refine (toB_any _ z0 _ (h0.below s2.bt) (by omega)).mono ?_; rintro e W7 ⟨t8, rfl, o9, b10⟩
    have s3 := s2.push b10 o9
    go_wp2_with fail
    refine (implWg_any _ z0 a1 _ (s3.ob (List.mem_of_getElem? (i := 0) rfl)).rg).mono ?_; rintro e W11 ⟨rfl, b12⟩
    have s4 := s3.below b12
    obtain ⟨q13, hq14⟩ := wbV_num z0 a1
    have cv15 := cvt_up _ _ (up_o hq14).1
    go_wp2_with (simp only [cv15])
    refine (sameFloat_any _ _ (.inl rfl) _).mono ?_; rintro e _ ⟨rfl, rfl⟩
    go_wp2_with fail
    refine (toB_any _ z0 _ (h0.below s4.bt) (by omega)).mono ?_; rintro e W16 ⟨t17, rfl, o18, b19⟩
    have s5 := s4.push b19 o18
    go_wp2_with fail
    refine (eqB_same _ _ (z0) _ (s5.ob (List.mem_of_getElem? (i := 1) rfl)).rg (s5.ob (List.mem_of_getElem? (i := 0) rfl)).rg).mono ?_; rintro e _ ⟨rfl, d21, rfl⟩
    have s6 := s5.drewN d21
    go_wp2
    go_ret
    exact ⟨rfl, s6.bt⟩
  · go_enter Try.func4, Try.ntmps4
    go_wp2
    go_ret
    exact ⟨rfl, Below.refl _ _⟩

set_option maxRecDepth 100000 in
theorem lifted (os : Os) (started : os.Started) (H : Type) (enc : TypeId × Value → H) :
    ReturnsInHanded {} Try.checked os 4 .any (Rows.fnExactWeighBitsSpec.pre6 enc Try.prog Try.f4 Rows.fnExactWeighBitsRow.domain false) (Rows.fnExactWeighBitsSpec.post enc Try.prog Try.f4 false true false false) := by
  refine returnsInHanded_of_change (C := Try.checked) own started (by kernel_rfl) Try.func4
    (ChangeSpec.witness6 (enc := enc) (C := Try.checked) false ⟨#[], #[.slice none 0 0, .int .i64 0], []⟩ 8 (by kernel_rfl) (by kernel_rfl) (by kernel_rfl) (by kernel_rfl)) ?_
  intro W base args ds gs before hval0 hW hcnd _
  have hval : ∀ (j : Nat) t v, Try.f4.params[j]? = some t → args[j]? = some v → Value.okWide Try.prog W .any base t v := hval0
  have hW' := hW
  obtain ⟨p, q, hA0, hV, rfl, hfz, hnd⟩ := hW
  have hA : DataW.TrodAll enc Try.prog W 0 (fun _ => true) true Try.f4.params.toList args.toList ds p := hA0
  rw [Try.params4] at hA hval
  obtain ⟨v0, vs0, d0, ds0, p0, q0, hargs, rfl, rfl, h0, r0⟩ := trodAll_cons hA
  obtain ⟨v1, vs1, d1, ds1, p1, q1, rfl, rfl, rfl, h1, r1⟩ := trodAll_cons r0
  obtain ⟨rfl, rfl, rfl⟩ := trodAll_nil r1
  obtain rfl : args = #[v0, v1] := by cases args; simp_all
  obtain ⟨rfl, rfl⟩ := trodVars_none hV
  have k0 := h0
  have lt0 : ∀ x ∈ p0, x.block < W.heap.size := by obtain ⟨m, hm⟩ := k0; exact DataW.trod_lt m _ _ _ hm
  obtain ⟨z0, w0⟩ := view_bools (hval 0 22 v0 rfl rfl) h0
  obtain ⟨a1, rfl, rfl, rfl, u1⟩ := open_int Try.underlying2 (hval 1 2 v1 rfl rfl) h1; have w1 := i64_of_wf u1
  clear hA0 hval0
  refine (walk v0 z0 a1 W w0 w1).mono fun e W' ⟨he, bel⟩ => ?_
  subst he
  exact ⟨_, rfl, _, _, _, [], _, [], hW', trodAll_mk1 (shut_bool Try.underlying4 _), (trodAll_cons_mk (Below.trod laidOut (by kernel_rfl) (of_decide_eq_true (by kernel_rfl)) k0 bel lt0) (trodAll_cons_mk (shut_int Try.underlying2 u1) trodAll_mk0)), rfl, bel.frame _, fun h => by cases h⟩

theorem over : Rows.fnExactWeighBitsRow.holds Try.pinned (OpenSpec.ofChange Rows.fnExactWeighBitsSpec) :=
  OpenClaim.holds_of_wide 4 Try.f4 rfl rfl rfl rfl rfl rfl rfl ⟨rfl, rfl, rfl, rfl, rfl⟩ rfl rfl rfl rfl rfl (by kernel_rfl) Try.func4 (by kernel_rfl)
    (of_decide_eq_true (by kernel_rfl)) (by unfold Func.isWrapper; first | (rw [if_pos (by decide +kernel)]; kernel_rfl) | (rw [if_neg (by decide +kernel)]; exact ⟨rfl, rfl⟩))
    (fun os started H enc _ => lifted os started H enc)

theorem proved : Rows.FnExactWeighBitsSaid := over
end Go.Proofs.Ytengannmhncfjaa.fnExactWeighBits
