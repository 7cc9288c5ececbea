/- Counts, parities and states held against each other. No conditions but that the slices read. -/
import Derived.Test.YtpdebndkmdkmmaaSt
namespace Go.Proofs.Ytpdebndkmdkmmaa
open Go.RowKit
set_option linter.unusedVariables false
set_option linter.unusedSimpArgs false

def sameS (n m : Int) (xs ys : List Int) : Bool := decide (n = m) && eqL xs ys
set_option maxHeartbeats 400000 in
theorem implSameC_any (n : Int) (v : Value) (xs : List Int) (m : Int) (v' : Value) (ys : List Int) (w : World) (h : RI w v xs) (h' : RI w v' ys) :
    Calls Try.prog 25 #[.agg #[.int .i64 n, v], .agg #[.int .i64 m, v']] w fun e w' => e = .returned (.bool (sameS n m xs ys)) ∧ Below w.heap.size w w' := by
  have hb : ∀ o o', Below w.heap.size w ((w.alloc o).alloc o') := fun o o' => by go_grown
  have g := h.below (hb (.cells #[.int .i64 n, v] 42) (.cells #[.int .i64 m, v'] 42))
  have g' := h'.below (hb (.cells #[.int .i64 n, v] 42) (.cells #[.int .i64 m, v'] 42))
  obtain ⟨ao, cap, rfl⟩ := h.shape
  obtain ⟨ao', cap', rfl⟩ := h'.shape
  by_cases hn : n = m
  · subst hn
    go_enter Try.func25, Try.ntmps25
    go_wp2_with (go_at_call 45; refine (slEqual_any _ _ xs ys _ g g').mono ?_; rintro e w' ⟨rfl, k, rfl⟩)
    go_ret
    exact ⟨ret_bool (by simp [sameS]), bnext (hb _ _) (below_drewN _ _)⟩
  · have hne : (n == m) = false := by simp [hn]
    go_enter Try.func25, Try.ntmps25
    go_wp2
    go_ret
    exact ⟨ret_bool (by simp [sameS, hn]), hb _ _⟩
set_option maxHeartbeats 400000 in
theorem specSameC_any (n : Int) (v : Value) (xs : List Int) (m : Int) (v' : Value) (ys : List Int) (w : World) (h : RI w v xs) (h' : RI w v' ys) :
    Calls Try.prog 23 #[.agg #[.int .i64 n, v], .agg #[.int .i64 m, v']] w fun e w' => e = .returned (.bool (sameS n m xs ys)) ∧ Below w.heap.size w w' := by
  have hb : ∀ o o', Below w.heap.size w ((w.alloc o).alloc o') := fun o o' => by go_grown
  have g := h.below (hb (.cells #[.int .i64 n, v] 42) (.cells #[.int .i64 m, v'] 42))
  have g' := h'.below (hb (.cells #[.int .i64 n, v] 42) (.cells #[.int .i64 m, v'] 42))
  obtain ⟨ao, cap, rfl⟩ := h.shape
  obtain ⟨ao', cap', rfl⟩ := h'.shape
  by_cases hn : n = m
  · subst hn
    go_enter Try.func23, Try.ntmps23
    go_wp2_with (go_at_call 46; refine (l00Same_any _ _ xs ys _ g g').mono ?_; rintro e w' ⟨rfl, k, rfl⟩)
    go_ret
    exact ⟨ret_bool (by simp [sameS]), bnext (hb _ _) (below_drewN _ _)⟩
  · have hne : (n == m) = false := by simp [hn]
    go_enter Try.func23, Try.ntmps23
    go_wp2
    go_ret
    exact ⟨ret_bool (by simp [sameS, hn]), hb _ _⟩
set_option maxHeartbeats 400000 in
theorem implSameP_any (n : Int) (v : Value) (xs : List Int) (m : Int) (v' : Value) (ys : List Int) (w : World) (h : RI w v xs) (h' : RI w v' ys) :
    Calls Try.prog 20 #[.agg #[.int .i64 n, v], .agg #[.int .i64 m, v']] w fun e w' => e = .returned (.bool (sameS n m xs ys)) ∧ Below w.heap.size w w' := by
  have hb : ∀ o o', Below w.heap.size w ((w.alloc o).alloc o') := fun o o' => by go_grown
  have g := h.below (hb (.cells #[.int .i64 n, v] 35) (.cells #[.int .i64 m, v'] 35))
  have g' := h'.below (hb (.cells #[.int .i64 n, v] 35) (.cells #[.int .i64 m, v'] 35))
  obtain ⟨ao, cap, rfl⟩ := h.shape
  obtain ⟨ao', cap', rfl⟩ := h'.shape
  by_cases hn : n = m
  · subst hn
    go_enter Try.func20, Try.ntmps20
    go_wp2_with (go_at_call 45; refine (slEqual_any _ _ xs ys _ g g').mono ?_; rintro e w' ⟨rfl, k, rfl⟩)
    go_ret
    exact ⟨ret_bool (by simp [sameS]), bnext (hb _ _) (below_drewN _ _)⟩
  · have hne : (n == m) = false := by simp [hn]
    go_enter Try.func20, Try.ntmps20
    go_wp2
    go_ret
    exact ⟨ret_bool (by simp [sameS, hn]), hb _ _⟩
set_option maxHeartbeats 400000 in
theorem l06Same_any (n m : Int) (v v' : Value) (xs ys : List Int) (B B' : Nat) (w : World) (h : RI w v xs) (h' : RI w v' ys)
    (c0 : w.cell? ⟨B, 0, none⟩ = some (.int .i64 n)) (c1 : w.cell? ⟨B, 1, none⟩ = some v) (c0' : w.cell? ⟨B', 0, none⟩ = some (.int .i64 m)) (c1' : w.cell? ⟨B', 1, none⟩ = some v') :
    Calls Try.prog 44 #[.pointer (some ⟨B, 0, none⟩), .pointer (some ⟨B', 0, none⟩)] w fun e w' => e = .returned (.bool (sameS n m xs ys)) ∧ ∃ k, w' = w.drewN k := by
  obtain ⟨ao, cap, rfl⟩ := h.shape
  obtain ⟨ao', cap', rfl⟩ := h'.shape
  by_cases hn : n = m
  · subst hn
    go_enter Try.func44, Try.ntmps44
    go_wp2_with fail
    go_quiet ((go_at_call 52; exact Calls.quiet_of (l04Equal_any _ _ xs ys _ h h')))
    go_wp2
    go_ret
    exact ⟨ret_bool (by simp [sameS]), _, rfl⟩
  · have hne : (n == m) = false := by simp [hn]
    go_enter Try.func44, Try.ntmps44
    go_wp2_with fail
    go_quiet (fail)
    go_wp2
    go_ret
    exact ⟨ret_bool (by simp [sameS, hn]), _, rfl⟩
set_option maxHeartbeats 400000 in
theorem specSameP_any (n : Int) (v : Value) (xs : List Int) (m : Int) (v' : Value) (ys : List Int) (w : World) (h : RI w v xs) (h' : RI w v' ys) :
    Calls Try.prog 18 #[.agg #[.int .i64 n, v], .agg #[.int .i64 m, v']] w fun e w' => e = .returned (.bool (sameS n m xs ys)) ∧ Below w.heap.size w w' := by
  have hb : ∀ o o', Below w.heap.size w ((w.alloc o).alloc o') := fun o o' => by go_grown
  have g := h.below (hb (.cells #[.int .i64 n, v] 35) (.cells #[.int .i64 m, v'] 35))
  have g' := h'.below (hb (.cells #[.int .i64 n, v] 35) (.cells #[.int .i64 m, v'] 35))
  obtain ⟨ao, cap, rfl⟩ := h.shape
  obtain ⟨ao', cap', rfl⟩ := h'.shape
  go_enter Try.func18, Try.ntmps18
  go_wp2_with (go_at_call 44; refine (l06Same_any n m _ _ xs ys _ _ _ g g' (by simp [go_sem]) (by simp [go_sem]) (by simp [go_sem]) (by simp [go_sem])).mono ?_; rintro e w' ⟨rfl, k, rfl⟩)
  go_ret
  exact ⟨rfl, bnext (hb _ _) (below_drewN _ _)⟩
end Go.Proofs.Ytpdebndkmdkmmaa
