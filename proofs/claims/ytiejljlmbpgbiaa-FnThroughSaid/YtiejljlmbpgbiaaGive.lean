/- A channel is handed back if it is valid: both packages. No conditions but that the slice reads. -/
import Derived.Test.YtiejljlmbpgbiaaThr
namespace Go.Proofs.Ytiejljlmbpgbiaa
open Go.RowKit
set_option maxRecDepth 100000
set_option linter.unusedVariables false
set_option linter.unusedSimpArgs false

def cgN (ok : Bool) (n : Int) : Int := if ok then n else 0
def cgV (ok : Bool) (v : Value) : Value := if ok then v else .slice none 0 0
def cgZ (ok : Bool) (xs : List Nat) : List Nat := if ok then xs else []
theorem cg_t (n m : Int) (v : Value) (xs : List Nat) : cgN true n = n ∧ cgV true v = v ∧ cgZ true xs = xs := ⟨rfl, rfl, rfl⟩
theorem cg_f (n m : Int) (v : Value) (xs : List Nat) : cgN false n = 0 ∧ cgV false v = .slice none 0 0 ∧ cgZ false xs = [] := ⟨rfl, rfl, rfl⟩
theorem cell3 {W : World} {b : Nat} {x y z : Value} {t : TypeId} (h : W.heap[b]? = some (.cells #[x, y, z] t (0, 0))) :
    W.cell? ⟨b, 0, none⟩ = some x ∧ W.cell? ⟨b, 1, none⟩ = some y ∧ W.cell? ⟨b, 2, none⟩ = some z ∧ W.frozen? ⟨b, 0, none⟩ = false ∧ W.frozen? ⟨b, 1, none⟩ = false ∧ W.frozen? ⟨b, 2, none⟩ = false :=
  ⟨by rw [cell_of_row _ _ _ _ _ _ h]; rfl, by rw [cell_of_row _ _ _ _ _ _ h]; rfl, by rw [cell_of_row _ _ _ _ _ _ h]; rfl, frozen_of_row _ _ _ _ _ h, frozen_of_row _ _ _ _ _ h, frozen_of_row _ _ _ _ _ h⟩
theorem below3 {B : Nat} {w0 w : World} (h : Below B w0 w) (b : Nat) (hb : B ≤ b) (u0 u1 u2 : Value) : Below B w0 (((w.setCell ⟨b, 0, none⟩ u0).setCell ⟨b, 1, none⟩ u1).setCell ⟨b, 2, none⟩ u2) :=
  ((h.setCell (p := ⟨b, 0, none⟩) hb u0).setCell (p := ⟨b, 1, none⟩) hb u1).setCell (p := ⟨b, 2, none⟩) hb u2
theorem Og.box3 {B : Nat} {w : World} {v : Value} {xs : List Nat} (ho : Og eF B w v xs) (b : Nat) (hb : b < B) (u0 u1 u2 : Value) : Og eF B (((w.setCell ⟨b, 0, none⟩ u0).setCell ⟨b, 1, none⟩ u1).setCell ⟨b, 2, none⟩ u2) v xs :=
  ((ho.set ⟨b, 0, none⟩ u0 hb).set ⟨b, 1, none⟩ u1 hb).set ⟨b, 2, none⟩ u2 hb
set_option maxHeartbeats 1000000 in
theorem asChannel_any (n m : Int) (v : Value) (xs : List Nat) (w : World) (h : Rg eF w v xs) :
    Calls Try.prog 62 #[.agg #[.int .i64 n, .int .i64 m, v]] w fun e w' => e = .returned (.tuple #[.agg #[.int .i64 (cgN (chanW n m xs) n), .int .i64 (cgN (chanW n m xs) m), cgV (chanW n m xs) v], .bool (chanW n m xs)]) ∧ Below w.heap.size w w' := by
  obtain ⟨ao, cap, rfl⟩ := h.shape
  have hb : ∀ o o', Below w.heap.size w ((w.alloc o).alloc o') := fun o o' => by go_grown
  have g := h.below (hb (.cells #[.int .i64 n, .int .i64 m, .slice ao xs.length cap] 27) (.cells #[.int .i64 0, .int .i64 0, .slice none 0 0] 27))
  have hP : ChP ((w.alloc (.cells #[.int .i64 n, .int .i64 m, .slice ao xs.length cap] 27)).alloc (.cells #[.int .i64 0, .int .i64 0, .slice none 0 0] 27)) w.heap.size n m (.slice ao xs.length cap) := ⟨by simp [go_sem], by simp [go_sem], by simp [go_sem]⟩
  have hQ : ((w.alloc (.cells #[.int .i64 n, .int .i64 m, .slice ao xs.length cap] 27)).alloc (.cells #[.int .i64 0, .int .i64 0, .slice none 0 0] 27)).heap[w.heap.size + 1]? = some (.cells #[.int .i64 0, .int .i64 0, .slice none 0 0] 27 (0, 0)) := by
    have := heap_alloc_new (w.alloc (.cells #[.int .i64 n, .int .i64 m, .slice ao xs.length cap] 27)) (.cells #[.int .i64 0, .int .i64 0, .slice none 0 0] 27)
    rwa [World.size_alloc] at this
  have HP := Lib.hid hP
  have HQ := Lib.hid hQ
  have hch := implChan_any n m _ xs _ g
  clear hP hQ
  cases hc : chanW n m xs
  · rw [hc] at hch
    go_enter Try.func62, Try.ntmps62
    go_wp2_with fail
    refine hch.mono ?_
    rintro e w1 ⟨rfl, hb1⟩
    obtain ⟨r0, r1, r2, q0, q1, q2⟩ := cell3 (blk_next hb1 HQ.out)
    have hB : Below w.heap.size w w1 := bnext (hb _ _) hb1
    have hfB := below3 hB (w.heap.size + 1) (Nat.le_succ _) (.int .i64 0) (.int .i64 0) (.slice none 0 0)
    go_wp2
    exact bodyPost_ret (v := .tuple #[.agg #[.int .i64 0, .int .i64 0, .slice none 0 0], .bool false]) (by simp [results, Try.results62, go_sem, r0, r1, r2]) rfl ⟨rfl, hfB⟩
  · rw [hc] at hch
    go_enter Try.func62, Try.ntmps62
    go_wp2_with fail
    refine hch.mono ?_
    rintro e w1 ⟨rfl, hb1⟩
    obtain ⟨r0, r1, r2, q0, q1, q2⟩ := cell3 (blk_next hb1 HQ.out)
    obtain ⟨k0, k1, k2⟩ := HP.out.below hb1
    have hB : Below w.heap.size w w1 := bnext (hb _ _) hb1
    have hfB := below3 hB (w.heap.size + 1) (Nat.le_succ _) (.int .i64 n) (.int .i64 m) (.slice ao xs.length cap)
    go_wp2
    exact bodyPost_ret (v := .tuple #[.agg #[.int .i64 n, .int .i64 m, .slice ao xs.length cap], .bool true]) (by simp [results, Try.results62, go_sem, r0, r1, r2]) rfl ⟨rfl, hfB⟩
end Go.Proofs.Ytiejljlmbpgbiaa
