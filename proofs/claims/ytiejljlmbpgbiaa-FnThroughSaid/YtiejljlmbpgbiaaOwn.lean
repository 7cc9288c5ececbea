/- Appends to a slice of integers that the call itself makes, in one law; a slice that is nil. No conditions but lengths. -/
import Derived.Test.YtiejljlmbpgbiaaBase
namespace Go.Proofs.Ytiejljlmbpgbiaa
open Go.RowKit
set_option maxRecDepth 100000
set_option linter.unusedVariables false
set_option linter.unusedSimpArgs false

/-- The slice v owns the integers zs in a row of block B or later. -/
def OwnI (B : Nat) (W : World) (v : Value) (zs : List Int) : Prop := W.ownsRow B 2 1 v zs.length (zs.map (Value.int .i64))
theorem OI.nil (B : Nat) (w : World) : OI B w (.slice none 0 0) [] :=
  ⟨(by intro z hz; cases hz), none, 0, rfl, by simp, by unfold maxLen; omega, (fun a ha => by cases ha), fun i hi => by simp at hi⟩
theorem own_nil (B : Nat) (w : World) : OwnI B w (.slice none 0 0) [] := World.ownsRow_nil _ _ _ _
theorem own_shape {w : World} {B : Nat} {v : Value} {n : Nat} {xs : List Value} {e size : Nat} (h : w.ownsRow B e size v n xs) : ∃ ao cap, v = .slice ao n cap := by
  rcases h.2 with ⟨rfl, rfl⟩ | ⟨g, cap, cur, rfl, _⟩
  · exact ⟨none, 0, rfl⟩
  · exact ⟨_, cap, rfl⟩
section
variable {w w' : World} {B : Nat} {v : Value} {zs : List Int}
theorem OwnI.shape (h : OwnI B w v zs) : ∃ ao cap, v = .slice ao zs.length cap := own_shape h
theorem OwnI.lt (h : OwnI B w v zs) : ∀ k, v.ownBlock = some k → B ≤ k ∧ k < w.heap.size := World.ownsRow.lt h
theorem OwnI.alloc (h : OwnI B w v zs) (o : Obj) : OwnI B (w.alloc o) v zs := World.ownsRow.alloc h o
theorem OwnI.kept {row : Option Nat} (h : OwnI B w v zs) (hg : w.grownBy w' row) (hne : v.ownBlock = none ∨ v.ownBlock ≠ row) : OwnI B w' v zs := World.ownsRow.kept h hg hne
theorem OwnI.oi (h : OwnI B w v zs) (hz : AllI64 zs) : OI B w v zs := OI.own hz h
theorem OwnI.set (h : OwnI B w v zs) (p : Addr) (u : Value) (hp : p.block < B) : OwnI B (w.setCell p u) v zs := by
  refine h.kept (grown_setCell w p u) ?_
  cases hv : v.ownBlock with
  | none => exact .inl rfl
  | some k => right; intro e; have := (h.lt k hv).1; simp at e; omega
end
/-- A struct of two cells that the call has boxed. -/
theorem blk2 {W : World} {b : Nat} {x y : Value} {t : TypeId} (h : W.heap[b]? = some (.cells #[x, y] t (0, 0))) :
    W.cell? ⟨b, 0, none⟩ = some x ∧ W.cell? ⟨b, 1, none⟩ = some y ∧ W.frozen? ⟨b, 0, none⟩ = false ∧ W.frozen? ⟨b, 1, none⟩ = false :=
  ⟨by rw [cell_of_row _ _ _ _ _ _ h]; rfl, by rw [cell_of_row _ _ _ _ _ _ h]; rfl, frozen_of_row _ _ _ _ _ h, frozen_of_row _ _ _ _ _ h⟩
theorem blk_lt {W : World} {b : Nat} {o : Obj} (h : W.heap[b]? = some o) : b < W.heap.size := (Array.getElem?_eq_some_iff.1 h).1
theorem blk_below {B : Nat} {W W' : World} (hb : Below B W W') {b : Nat} {o : Obj} (hlt : b < B) (h : W.heap[b]? = some o) : W'.heap[b]? = some o := (hb.block b hlt).trans h
theorem blk_next {W W' : World} (hb : Below W.heap.size W W') {b : Nat} {o : Obj} (h : W.heap[b]? = some o) : W'.heap[b]? = some o := (hb.block b (blk_lt h)).trans h
theorem blk_alloc {W : World} {b : Nat} {o o' : Obj} (h : W.heap[b]? = some o) : (W.alloc o').heap[b]? = some o := (Below.heap_alloc W o' b (blk_lt h)).trans h
theorem blk_grown {W W' : World} {row : Option Nat} (hg : W.grownBy W' row) {b : Nat} {o : Obj} (hne : some b ≠ row) (h : W.heap[b]? = some o) : W'.heap[b]? = some o := (hg.block b (blk_lt h) hne).trans h
theorem blk_set1 {W : World} {b : Nat} {x y u : Value} {t : TypeId} (h : W.heap[b]? = some (.cells #[x, y] t (0, 0))) : (W.setCell ⟨b, 1, none⟩ u).heap[b]? = some (.cells #[x, u] t (0, 0)) :=
  heap_setCell_same W b 1 #[x, y] t u h
theorem blk_other {W : World} {b : Nat} {o : Obj} {p : Addr} {u : Value} (hne : p.block ≠ b) (h : W.heap[b]? = some o) : (W.setCell p u).heap[b]? = some o := (heap_setCell_other W p b u (fun e => hne e.symm)).trans h
theorem OI.box {B : Nat} {w : World} {v : Value} {zs : List Int} (ho : OI B w v zs) (b : Nat) (hb : b < B) (u0 u1 : Value) : OI B ((w.setCell ⟨b, 0, none⟩ u0).setCell ⟨b, 1, none⟩ u1) v zs :=
  (ho.set ⟨b, 0, none⟩ u0 hb).set ⟨b, 1, none⟩ u1 hb
theorem below_box {B : Nat} {w0 w : World} (h : Below B w0 w) (b : Nat) (hb : B ≤ b) (u0 u1 : Value) : Below B w0 ((w.setCell ⟨b, 0, none⟩ u0).setCell ⟨b, 1, none⟩ u1) :=
  (h.setCell (p := ⟨b, 0, none⟩) hb u0).setCell (p := ⟨b, 1, none⟩) hb u1
theorem own_empty (w : World) (B : Nat) (hB : B ≤ w.heap.size) : OwnI B (w.alloc (.cells #[] 2)) (.slice (some ⟨w.heap.size, 0, none⟩) 0 0) [] :=
  World.ownsRow_made w #[] 0 hB (by unfold maxLen; omega) (by simp)
/-- An owned row is kept behind a call that only makes memory. -/
theorem own_below {w w' : World} {B : Nat} {v : Value} {n : Nat} {xs : List Value} {e size : Nat} (hb : Below w.heap.size w w') (h : w.ownsRow B e size v n xs) : w'.ownsRow B e size v n xs := by
  refine World.ownsRow.kept h (row := none) ⟨hb.os, hb.tape, hb.output, hb.size, fun k hk _ => hb.block k hk⟩ ?_
  cases v.ownBlock <;> simp
end Go.Proofs.Ytiejljlmbpgbiaa
