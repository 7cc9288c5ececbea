/- 'laws.FnExactIsText' returns true for all arguments: the program's IsText and the reference's are the same. No conditions. -/
import Derived.Test.YtpdebndkmdkmmaaLaws
import Derived.Test.YtpdebndkmdkmmaaText
import Derived.Test.YtpdebndkmdkmmaaFrame
namespace Go.Proofs.Ytpdebndkmdkmmaa.fnExactIsText
open Go.ChangeShapes Go.WideShapes Go.ChangeAt Go.RowKit

set_option maxHeartbeats 400000 in
theorem walk (v0 : Value) (z0 : List Int) (a1 : Int) (w : World) (h0 : RI w v0 z0) (_h1 : I64 a1) :
    Calls Try.prog 3 #[v0, .int .i64 a1] w fun e w' => e = .returned (.bool true) ∧ Below w.heap.size w w' := by
  obtain ⟨ao, cap, rfl⟩ := h0.shape
  have hlen := h0.len
  by_cases hl : z0.length ≤ 1048576
  · go_enter Try.func3, Try.ntmps3
    go_wp2_with fail
    refine (to_any _ z0 _ h0 hl).mono ?_; rintro e w1 ⟨x1, rfl, o1, b1⟩
    have r1 := RI.own h0.1 o1
    clear o1
    go_wp2_with fail
    refine (specIsText_any _ z0 _ _ r1).mono ?_; rintro e w' ⟨rfl, rfl⟩
    go_wp2_with fail
    replace h0 := h0.below b1
    refine (to_any _ z0 _ h0 hl).mono ?_; rintro e w2 ⟨x2, rfl, o2, b2⟩
    have r2 := RI.own h0.1 o2
    clear o2
    go_wp2_with fail
    refine (isText_any _ z0 _ _ r2).mono ?_; rintro e w' ⟨rfl, rfl⟩
    go_wp2_with fail
    replace h0 := h0.below b2
    refine (to_any _ z0 _ h0 hl).mono ?_; rintro e w3 ⟨x3, rfl, o3, b3⟩
    have r3 := RI.own h0.1 o3
    clear o3
    go_wp2_with fail
    refine (eq_same _ _ z0 _ (r2.below b3) r3).mono ?_; rintro e w' ⟨rfl, n, rfl⟩
    go_wp2
    go_ret
    exact ⟨rfl, bnext (bnext (bnext b1 b2) b3) (below_drewN _ _)⟩
  · go_enter Try.func3, Try.ntmps3
    go_wp2
    go_ret
    exact ⟨rfl, Below.refl _ _⟩

set_option maxRecDepth 100000 in
theorem lifted (os : Os) (started : os.Started) (H : Type) (enc : TypeId × Value → H) :
    ReturnsInHanded {} Try.checked os 3 .any (Rows.fnExactIsTextSpec.pre6 enc Try.prog Try.f3 Rows.fnExactIsTextRow.domain false) (Rows.fnExactIsTextSpec.post enc Try.prog Try.f3 false true false false) := by
  refine returnsInHanded_of_change (C := Try.checked) own started (by kernel_rfl) Try.func3
    (ChangeSpec.witness6 (enc := enc) (C := Try.checked) false ⟨#[], #[.slice none 0 0, .int .i64 0], []⟩ 8 (by kernel_rfl) (by kernel_rfl) (by kernel_rfl) (by kernel_rfl)) ?_
  intro W base args ds gs before hval0 hW hcnd _
  have hval : ∀ (j : Nat) t v, Try.f3.params[j]? = some t → args[j]? = some v → Value.okWide Try.prog W .any base t v := hval0
  have hW' := hW
  obtain ⟨p, q, hA0, hV, rfl, hfz, hnd⟩ := hW
  have hA : DataW.TrodAll enc Try.prog W 0 (fun _ => true) true Try.f3.params.toList args.toList ds p := hA0
  rw [Try.params3] at hA hval
  obtain ⟨v0, vs0, d0, ds0, p0, q0, hargs, rfl, rfl, h0, r0⟩ := trodAll_cons hA
  obtain ⟨v1, vs1, d1, ds1, p1, q1, rfl, rfl, rfl, h1, r1⟩ := trodAll_cons r0
  obtain ⟨rfl, rfl, rfl⟩ := trodAll_nil r1
  obtain rfl : args = #[v0, v1] := by cases args; simp_all
  obtain ⟨rfl, rfl⟩ := trodVars_none hV
  have k0 := h0
  have lt0 : ∀ x ∈ p0, x.block < W.heap.size := by obtain ⟨m, hm⟩ := k0; exact DataW.trod_lt m _ _ _ hm
  obtain ⟨z0, w0⟩ := view_ints (hval 0 22 v0 rfl rfl) h0
  obtain ⟨a1, rfl, rfl, rfl, u1⟩ := open_int Try.underlying2 (hval 1 2 v1 rfl rfl) h1; have w1 := i64_of_wf u1
  clear hA0 hval0
  refine (walk v0 z0 a1 W w0 w1).mono fun e W' ⟨he, bel⟩ => ?_
  subst he
  exact ⟨_, rfl, _, _, _, [], _, [], hW', trodAll_mk1 (shut_bool Try.underlying4 _), (trodAll_cons_mk (Below.trod laidOut (by kernel_rfl) (of_decide_eq_true (by kernel_rfl)) k0 bel lt0) (trodAll_cons_mk (shut_int Try.underlying2 u1) trodAll_mk0)), rfl, bel.frame _, fun h => by cases h⟩

theorem over : Rows.fnExactIsTextRow.holds Try.pinned (OpenSpec.ofChange Rows.fnExactIsTextSpec) :=
  OpenClaim.holds_of_wide 3 Try.f3 rfl rfl rfl rfl rfl rfl rfl ⟨rfl, rfl, rfl, rfl, rfl⟩ rfl rfl rfl rfl rfl (by kernel_rfl) Try.func3 (by kernel_rfl)
    (of_decide_eq_true (by kernel_rfl)) (by unfold Func.isWrapper; first | (rw [if_pos (by decide +kernel)]; kernel_rfl) | (rw [if_neg (by decide +kernel)]; exact ⟨rfl, rfl⟩))
    (fun os started H enc _ => lifted os started H enc)

theorem proved : Rows.FnExactIsTextSaid := over
end Go.Proofs.Ytpdebndkmdkmmaa.fnExactIsText
