/- Counts, parities and states held against each other. No conditions but that the slices read. -/
import Derived.Test.YtbhconogaoghmaaSt
namespace Go.Proofs.Ytbhconogaoghmaa
open Go.RowKit
set_option maxRecDepth 100000
set_option linter.unusedVariables false
set_option linter.unusedSimpArgs false

def sameS (n m : Int) (xs ys : List Int) : Bool := decide (n = m) && eqL xs ys
set_option maxHeartbeats 400000 in
theorem implSameC_any (n : Int) (v : Value) (xs : List Int) (m : Int) (v' : Value) (ys : List Int) (w : World) (h : RI w v xs) (h' : RI w v' ys) :
    Calls Try.prog 24 #[.agg #[.int .i64 n, v], .agg #[.int .i64 m, v']] w fun e w' => e = .returned (.bool (sameS n m xs ys)) ∧ Below w.heap.size w w' := by
  have hb : ∀ o o', Below w.heap.size w ((w.alloc o).alloc o') := fun o o' => by go_grown
  have g := h.below (hb (.cells #[.int .i64 n, v] 27) (.cells #[.int .i64 m, v'] 27))
  have g' := h'.below (hb (.cells #[.int .i64 n, v] 27) (.cells #[.int .i64 m, v'] 27))
  obtain ⟨ao, cap, rfl⟩ := h.shape
  obtain ⟨ao', cap', rfl⟩ := h'.shape
  by_cases hn : n = m
  · subst hn
    go_enter Try.func24, Try.ntmps24
    go_wp2_with (go_at_call 45; refine (slEqual_any _ _ xs ys _ g g').mono ?_; rintro e w' ⟨rfl, k, rfl⟩)
    go_ret
    exact ⟨ret_bool (by simp [sameS]), bnext (hb _ _) (below_drewN _ _)⟩
  · have hne : (n == m) = false := by simp [hn]
    go_enter Try.func24, Try.ntmps24
    go_wp2
    go_ret
    exact ⟨ret_bool (by simp [sameS, hn]), hb _ _⟩
end Go.Proofs.Ytbhconogaoghmaa
