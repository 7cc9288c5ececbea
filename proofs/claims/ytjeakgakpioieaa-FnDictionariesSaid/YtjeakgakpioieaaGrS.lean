/- GrowPairs: what both packages return. No conditions but that the slices read. -/
import Derived.Test.YtjeakgakpioieaaGrR
import Derived.Test.YtjeakgakpioieaaGrW
import Derived.Test.YtjeakgakpioieaaText
namespace Go.Proofs.Ytjeakgakpioieaa
open Go.RowKit
set_option maxRecDepth 100000
set_option linter.unusedVariables false
set_option linter.unusedSimpArgs false

theorem gpF_len (xs : List Int) (ds : List (Int × Int)) (out : List Int) (num : Int) : (gpF xs ds out num).length ≤ out.length + 2 * xs.length + 2 := by
  induction xs generalizing ds out num with
  | nil => rw [gpF]; split <;> simp
  | cons x xs ih =>
    rw [gpF]
    cases look ds (num, x) with
    | some k => have := ih ds out ((k : Int) + 1); simp only [List.length_cons]; omega
    | none => have := ih (ds ++ [(num, x)]) (out ++ [num, x]) 0; simp only [List.length_append, List.length_cons, List.length_nil] at this ⊢; omega
theorem gr_top (zs : List Int) : grF zs [[]] [] 0 = gpF zs [] [] 0 := gr_gp Grow.nil (Int.le_refl _) (by simp) []
def gpZ (zs : List Int) (n : Int) : List Int := if txt zs n = true then gpF zs [] [] 0 else []
theorem txt_len {zs : List Int} {n : Int} (h : txt zs n = true) : zs.length ≤ 64 := by
  simp only [txt, Bool.and_eq_true, decide_eq_true_eq] at h; exact h.1.2
theorem gpZ_len (zs : List Int) (n : Int) : (gpZ zs n).length ≤ 16777216 := by
  unfold gpZ
  split
  · have := gpF_len zs [] [] 0; have := txt_len (by assumption); simp at *; omega
  · simp
set_option maxHeartbeats 400000 in
theorem implGp_any (v : Value) (zs : List Int) (n : Int) (w : World) (h : RI w v zs) :
    Calls Try.prog 7 #[v, .int .i64 n] w fun e w' => ∃ v', e = .returned (.tuple #[v', .bool (txt zs n)]) ∧ OI w.heap.size w' v' (gpZ zs n) ∧ Below w.heap.size w w' := by
  by_cases ht : txt zs n = true
  · have HZ := Lib.hid (show gpZ zs n = gpF zs [] [] 0 by rw [gpZ, if_pos ht])
    have hl := txt_len ht
    have Ht := Lib.hid ht
    rw [ht]
    clear ht
    go_enter Try.func7, Try.ntmps7
    go_wp2_with fail
    refine (isText_any _ zs _ _ h).mono ?_
    rw [Ht.out]
    rintro e w' ⟨rfl, rfl⟩
    go_wp2_with fail
    refine (growPairs_any _ zs _ h hl).mono ?_
    rintro e w1 ⟨v1, rfl, ho1, hb1⟩
    go_wp2
    go_ret2
    exact ⟨_, rfl, by rw [HZ.out]; exact ho1, hb1⟩
  · have ht : txt zs n = false := by simpa using ht
    have HZ := Lib.hid (show gpZ zs n = [] by rw [gpZ, if_neg (by rw [ht]; decide)])
    have Ht := Lib.hid ht
    rw [ht]
    clear ht
    go_enter Try.func7, Try.ntmps7
    go_wp2_with fail
    refine (isText_any _ zs _ _ h).mono ?_
    rw [Ht.out]
    rintro e w' ⟨rfl, rfl⟩
    go_wp2
    go_ret2
    exact ⟨_, rfl, by rw [HZ.out]; exact OI.nil _ _, Below.refl _ _⟩
set_option maxHeartbeats 400000 in
theorem specGp_any (v : Value) (zs : List Int) (n : Int) (w : World) (h : RI w v zs) :
    Calls Try.prog 8 #[v, .int .i64 n] w fun e w' => ∃ v', e = .returned (.tuple #[v', .bool (txt zs n)]) ∧ OI w.heap.size w' v' (gpZ zs n) ∧ Below w.heap.size w w' := by
  by_cases ht : txt zs n = true
  · have HZ := Lib.hid (show gpZ zs n = grF zs [[]] [] 0 by rw [gpZ, if_pos ht, gr_top])
    have hl := txt_len ht
    have Ht := Lib.hid ht
    rw [ht]
    clear ht
    go_enter Try.func8, Try.ntmps8
    go_wp2_with fail
    refine (l05Text_any _ zs _ _ h).mono ?_
    rw [Ht.out]
    rintro e w' ⟨rfl, rfl⟩
    go_wp2_with fail
    refine (l05Grow_any _ zs _ h hl).mono ?_
    rintro e w1 ⟨v1, rfl, ho1, hb1⟩
    go_wp2
    go_ret2
    exact ⟨_, rfl, by rw [HZ.out]; exact ho1, hb1⟩
  · have ht : txt zs n = false := by simpa using ht
    have HZ := Lib.hid (show gpZ zs n = [] by rw [gpZ, if_neg (by rw [ht]; decide)])
    have Ht := Lib.hid ht
    rw [ht]
    clear ht
    go_enter Try.func8, Try.ntmps8
    go_wp2_with fail
    refine (l05Text_any _ zs _ _ h).mono ?_
    rw [Ht.out]
    rintro e w' ⟨rfl, rfl⟩
    go_wp2
    go_ret2
    exact ⟨_, rfl, by rw [HZ.out]; exact OI.nil _ _, Below.refl _ _⟩
end Go.Proofs.Ytjeakgakpioieaa
