/- Parities handed back if they are valid; rows in steps of valid ones. No conditions but that the slices read. -/
import Derived.Test.YtimcagcglgohjaaPar
namespace Go.Proofs.Ytimcagcglgohjaa
open Go.RowKit
set_option maxRecDepth 100000
set_option linter.unusedVariables false
set_option linter.unusedSimpArgs false

def apN (b : Bool) (n : Int) : Int := if b = true then n else 0
def apV (b : Bool) (v : Value) : Value := if b = true then v else .slice none 0 0
theorem box_second (w : World) (o : Obj) (x y : Value) (t : TypeId) : ((w.alloc o).alloc (.cells #[x, y] t)).heap[w.heap.size + 1]? = some (.cells #[x, y] t (0, 0)) := by
  have := heap_alloc_new (w.alloc o) (.cells #[x, y] t); simpa using this
set_option maxHeartbeats 1000000 in
theorem asParity_any (n : Int) (v : Value) (zs : List Int) (w : World) (h : RI w v zs) :
    Calls Try.prog 18 #[.int .i64 n, v] w fun e w' => e = .returned (.tuple #[.agg #[.int .i64 (apN (prv n zs) n), apV (prv n zs) v], .bool (prv n zs)]) ∧ Below w.heap.size w w' := by
  obtain ⟨ao, cap, rfl⟩ := h.shape
  have hb : ∀ o o', Below w.heap.size w ((w.alloc o).alloc o') := fun o o' => by go_grown
  have g := h.below (hb (.cells #[.int .i64 0, .slice none 0 0] 26) (.cells #[.int .i64 n, .slice ao zs.length cap] 26))
  by_cases hc : prv n zs = true
  · rw [hc]
    go_enter Try.func18, Try.ntmps18
    go_wp2_with fail
    refine (implParity_any _ _ zs _ g).mono ?_
    rw [hc]
    rintro e w1 ⟨rfl, hb1⟩
    obtain ⟨r0, r1, q0, q1⟩ := blk2 (blk_next hb1 (blk_alloc (heap_alloc_new w (.cells #[.int .i64 0, .slice none 0 0] 26))))
    have k0 : w1.cell? ⟨w.heap.size + 1, 0, none⟩ = some (.int .i64 n) := cnext hb1 (by simp [go_sem])
    have k1 : w1.cell? ⟨w.heap.size + 1, 1, none⟩ = some (.slice ao zs.length cap) := cnext hb1 (by simp [go_sem])
    have hB : Below w.heap.size w w1 := bnext (hb _ _) hb1
    have hfB := below_box hB w.heap.size (Nat.le_refl _) (.int .i64 n) (.slice ao zs.length cap)
    go_wp2
    exact bodyPost_ret (v := .tuple #[.agg #[.int .i64 n, .slice ao zs.length cap], .bool true]) (by simp [results, Try.results18, go_sem, r0, r1]) rfl ⟨rfl, hfB⟩
  · have hc : prv n zs = false := by simpa using hc
    rw [hc]
    go_enter Try.func18, Try.ntmps18
    go_wp2_with fail
    refine (implParity_any _ _ zs _ g).mono ?_
    rw [hc]
    rintro e w1 ⟨rfl, hb1⟩
    obtain ⟨r0, r1, q0, q1⟩ := blk2 (blk_next hb1 (blk_alloc (heap_alloc_new w (.cells #[.int .i64 0, .slice none 0 0] 26))))
    have hB : Below w.heap.size w w1 := bnext (hb _ _) hb1
    have hfB := below_box hB w.heap.size (Nat.le_refl _) (.int .i64 0) (.slice none 0 0)
    go_wp2
    exact bodyPost_ret (v := .tuple #[.agg #[.int .i64 0, .slice none 0 0], .bool false]) (by simp [results, Try.results18, go_sem, r0, r1]) rfl ⟨rfl, hfB⟩
set_option maxHeartbeats 1000000 in
theorem l06Give_any (n : Int) (v : Value) (zs : List Int) (w : World) (h : RI w v zs) :
    Calls Try.prog 14 #[.agg #[.int .i64 n, v]] w fun e w' => e = .returned (.tuple #[.agg #[.int .i64 (apN (prv n zs) n), apV (prv n zs) v], .bool (prv n zs)]) ∧ Below w.heap.size w w' := by
  obtain ⟨ao, cap, rfl⟩ := h.shape
  have hb : ∀ o o', Below w.heap.size w ((w.alloc o).alloc o') := fun o o' => by go_grown
  have g := h.below (hb (.cells #[.int .i64 n, .slice ao zs.length cap] 26) (.cells #[.int .i64 0, .slice none 0 0] 26))
  by_cases hc : prv n zs = true
  · rw [hc]
    go_enter Try.func14, Try.ntmps14
    go_wp2_with fail
    refine (l06Is_any _ _ zs w.heap.size _ g (by simp [go_sem] <;> rfl) (by simp [go_sem] <;> rfl)).mono ?_
    rw [hc]
    rintro e w1 ⟨rfl, hb1⟩
    obtain ⟨r0, r1, q0, q1⟩ := blk2 (blk_next hb1 (box_second w _ _ _ _))
    have k0 : w1.cell? ⟨w.heap.size, 0, none⟩ = some (.int .i64 n) := cnext hb1 (by simp [go_sem])
    have k1 : w1.cell? ⟨w.heap.size, 1, none⟩ = some (.slice ao zs.length cap) := cnext hb1 (by simp [go_sem])
    have hB : Below w.heap.size w w1 := bnext (hb _ _) hb1
    have hfB := below_box hB (w.heap.size + 1) (by omega) (.int .i64 n) (.slice ao zs.length cap)
    go_wp2
    exact bodyPost_ret (v := .tuple #[.agg #[.int .i64 n, .slice ao zs.length cap], .bool true]) (by simp [results, Try.results14, go_sem, r0, r1]) rfl ⟨rfl, hfB⟩
  · have hc : prv n zs = false := by simpa using hc
    rw [hc]
    go_enter Try.func14, Try.ntmps14
    go_wp2_with fail
    refine (l06Is_any _ _ zs w.heap.size _ g (by simp [go_sem] <;> rfl) (by simp [go_sem] <;> rfl)).mono ?_
    rw [hc]
    rintro e w1 ⟨rfl, hb1⟩
    obtain ⟨r0, r1, q0, q1⟩ := blk2 (blk_next hb1 (box_second w _ _ _ _))
    have hB : Below w.heap.size w w1 := bnext (hb _ _) hb1
    have hfB := below_box hB (w.heap.size + 1) (by omega) (.int .i64 0) (.slice none 0 0)
    go_wp2
    exact bodyPost_ret (v := .tuple #[.agg #[.int .i64 0, .slice none 0 0], .bool false]) (by simp [results, Try.results14, go_sem, r0, r1]) rfl ⟨rfl, hfB⟩
end Go.Proofs.Ytimcagcglgohjaa
