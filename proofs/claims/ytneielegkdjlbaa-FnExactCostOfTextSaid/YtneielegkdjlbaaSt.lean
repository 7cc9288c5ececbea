/- The statements' package's helpers for structs of a number and a list: copies, sizes, comparisons, marks. No conditions but that the slices read. -/
import Derived.Test.YtneielegkdjlbaaLaws
import Derived.Test.YtneielegkdjlbaaEq
import Derived.Handy
namespace Go.Proofs.Ytneielegkdjlbaa
open Go.RowKit
set_option maxRecDepth 100000
set_option linter.unusedVariables false
set_option linter.unusedSimpArgs false

set_option maxHeartbeats 400000 in
theorem sz_any (v : Value) (zs : List Int) (left : Int) (w : World) (h : RI w v zs) (h0 : 0 ≤ left) (hl : left ≤ 1048576) :
    Calls Try.prog 12 #[v, .int .i64 left] w fun e w' => e = .returned (.int .i64 (if left < zs.length then -1 else left - zs.length)) ∧ w = w' := by
  have hlen := h.len
  obtain ⟨ao, cap, rfl⟩ := h.shape
  by_cases hc : left < zs.length
  · rw [if_pos hc]
    go_enter Try.func12, Try.ntmps12
    go_wp2
    go_ret
    exact ⟨rfl, rfl⟩
  · rw [if_neg hc]
    go_enter Try.func12, Try.ntmps12
    go_wp2
    go_ret
    exact ⟨rfl, rfl⟩
set_option maxHeartbeats 400000 in
theorem szCounts_any (n : Int) (v : Value) (zs : List Int) (left : Int) (w : World) (h : RI w v zs) (h0 : 0 ≤ left) (hl : left ≤ 1048576) :
    Calls Try.prog 4 #[.agg #[.int .i64 n, v], .int .i64 left] w fun e w' => e = .returned (.int .i64 (if left < zs.length then -1 else left - zs.length)) ∧ Below w.heap.size w w' := by
  have hb : ∀ o, Below w.heap.size w (w.alloc o) := fun o => (Below.refl _ _).alloc (Nat.le_refl _) o
  by_cases hc : left < zs.length
  · rw [if_pos hc]
    have Hc := Lib.hid (if_pos hc : (if left < zs.length then (-1 : Int) else left - zs.length) = -1)
    go_enter Try.func4, Try.ntmps4
    go_wp2_with (go_at_call 12; refine (sz_any v zs left _ (h.below (hb _)) h0 hl).mono ?_; rw [Hc.out]; rintro e w' ⟨rfl, rfl⟩)
    go_ret
    exact ⟨rfl, hb _⟩
  · rw [if_neg hc]
    have Hc := Lib.hid (if_neg hc : (if left < zs.length then (-1 : Int) else left - zs.length) = left - zs.length)
    go_enter Try.func4, Try.ntmps4
    go_wp2_with (go_at_call 12; refine (sz_any v zs left _ (h.below (hb _)) h0 hl).mono ?_; rw [Hc.out]; rintro e w' ⟨rfl, rfl⟩)
    go_ret
    exact ⟨rfl, hb _⟩
set_option maxHeartbeats 400000 in
theorem toCounts_any (n : Int) (v : Value) (zs : List Int) (w : World) (h : RI w v zs) (hl : zs.length ≤ 1048576) :
    Calls Try.prog 6 #[.agg #[.int .i64 n, v]] w fun e w' => ∃ v', e = .returned (.agg #[.int .i64 n, v']) ∧ OI w.heap.size w' v' zs ∧ Below w.heap.size w w' := by
  go_enter Try.func6, Try.ntmps6
  go_wp2_with fail
  refine (to_any v zs _ (h.below (by go_grown)) hl).mono ?_
  rintro e w1 ⟨v', rfl, ho, hb⟩
  obtain ⟨ao, cap, rfl⟩ := ho.2.rg.shape
  have c0 : w1.cell? ⟨w.heap.size + 1 + 1, 0, none⟩ = some (.int .i64 n) := (hb.cell (p := ⟨w.heap.size + 1 + 1, 0, none⟩) (by simp)).trans (by simp [go_sem])
  have c1 : w1.cell? ⟨w.heap.size + 1 + 1, 1, none⟩ = some (.slice none 0 0) := (hb.cell (p := ⟨w.heap.size + 1 + 1, 1, none⟩) (by simp)).trans (by simp [go_sem])
  have f1 : w1.frozen? ⟨w.heap.size + 1 + 1, 1, none⟩ = false := (hb.frozen (p := ⟨w.heap.size + 1 + 1, 1, none⟩) (by simp)).trans (by simp [go_sem])
  have r0 : w1.cell? ⟨w.heap.size + 1, 0, none⟩ = some (.int .i64 0) := (hb.cell (p := ⟨w.heap.size + 1, 0, none⟩) (by simp)).trans (by simp [go_sem])
  have r1 : w1.cell? ⟨w.heap.size + 1, 1, none⟩ = some (.slice none 0 0) := (hb.cell (p := ⟨w.heap.size + 1, 1, none⟩) (by simp)).trans (by simp [go_sem])
  have q0 : w1.frozen? ⟨w.heap.size + 1, 0, none⟩ = false := (hb.frozen (p := ⟨w.heap.size + 1, 0, none⟩) (by simp)).trans (by simp [go_sem])
  have q1 : w1.frozen? ⟨w.heap.size + 1, 1, none⟩ = false := (hb.frozen (p := ⟨w.heap.size + 1, 1, none⟩) (by simp)).trans (by simp [go_sem])
  have hB : Below w.heap.size w w1 := bnext (by go_grown) hb
  simp only [World.size_alloc] at ho
  go_wp2
  refine bodyPost_ret (v := .agg #[.int .i64 n, .slice ao zs.length cap]) (by simp [results, Try.results6, go_sem, r0, r1]) rfl ⟨_, rfl, ?_, ?_⟩
  · refine OI.mono (by omega) (OI.set (OI.set (OI.set ho _ _ ?_) _ _ ?_) _ _ ?_) <;> simp
  · go_grown
set_option maxHeartbeats 400000 in
theorem eqCounts_same (n : Int) (v v' : Value) (zs : List Int) (w : World) (h : RI w v zs) (h' : RI w v' zs) :
    Calls Try.prog 10 #[.agg #[.int .i64 n, v], .agg #[.int .i64 n, v']] w fun e w' => e = .returned (.bool true) ∧ Below w.heap.size w w' := by
  have hb : ∀ o o', Below w.heap.size w ((w.alloc o).alloc o') := fun o o' => by go_grown
  have g := h.below (hb (.cells #[.int .i64 n, v] 29) (.cells #[.int .i64 n, v'] 29))
  have g' := h'.below (hb (.cells #[.int .i64 n, v] 29) (.cells #[.int .i64 n, v'] 29))
  obtain ⟨ao, cap, rfl⟩ := h.shape
  obtain ⟨ao', cap', rfl⟩ := h'.shape
  go_enter Try.func10, Try.ntmps10
  go_wp2_with (go_at_call 11; refine (eq_same _ _ zs _ g g').mono ?_; rintro e w' ⟨rfl, m, rfl⟩)
  go_ret
  exact ⟨rfl, bnext (hb _ _) (below_drewN _ _)⟩
end Go.Proofs.Ytneielegkdjlbaa
