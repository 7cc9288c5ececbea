/- Worlds that differ from one another in named blocks alone. No conditions but those each lemma names. -/
import Derived.Test.YtiejljlmbpgbiaaOwn
import Derived.Test.YtiejljlmbpgbiaaMem
namespace Go.Proofs.Ytiejljlmbpgbiaa
open Go.RowKit
set_option maxRecDepth 100000
set_option linter.unusedVariables false
set_option linter.unusedSimpArgs false

/-- All blocks but those of which F holds are as they were. -/
structure Kpt (F : Nat → Prop) (w w' : World) : Prop where
  os : w'.os = w.os
  tape : w'.tape = w.tape
  output : w'.output = w.output
  size : w.heap.size ≤ w'.heap.size
  block : ∀ k, k < w.heap.size → ¬ F k → w'.heap[k]? = w.heap[k]?
section
variable {F G : Nat → Prop} {w w1 w2 : World}
theorem Kpt.refl (F : Nat → Prop) (w : World) : Kpt F w w := ⟨rfl, rfl, rfl, Nat.le_refl _, fun _ _ _ => rfl⟩
theorem Kpt.trans (h : Kpt F w w1) (k : Kpt F w1 w2) : Kpt F w w2 :=
  ⟨k.os.trans h.os, k.tape.trans h.tape, k.output.trans h.output, Nat.le_trans h.size k.size, fun i hi hf => (k.block i (Nat.lt_of_lt_of_le hi h.size) hf).trans (h.block i hi hf)⟩
theorem Kpt.mono (h : Kpt F w w1) (hfg : ∀ k, k < w.heap.size → F k → G k) : Kpt G w w1 := ⟨h.os, h.tape, h.output, h.size, fun i hi hg => h.block i hi fun hf => hg (hfg i hi hf)⟩
theorem Kpt.of_below (h : Below w.heap.size w w1) : Kpt F w w1 := ⟨h.os, h.tape, h.output, h.size, fun i hi _ => h.block i hi⟩
theorem Kpt.of_grown {row : Option Nat} (h : w.grownBy w1 row) (hr : ∀ k, row = some k → k < w.heap.size → F k) : Kpt F w w1 :=
  ⟨h.os, h.tape, h.output, h.size, fun i hi hf => h.block i hi fun e => hf (hr i e.symm hi)⟩
theorem Kpt.set (h : Kpt F w w1) {p : Addr} (hp : F p.block ∨ w.heap.size ≤ p.block) (u : Value) : Kpt F w (w1.setCell p u) :=
  ⟨h.os, h.tape, h.output, by rw [World.size_setCell]; exact h.size, fun i hi hf => (heap_setCell_other w1 p i u (by rintro rfl; rcases hp with hp | hp <;> first | exact hf hp | omega)).trans (h.block i hi hf)⟩
theorem Kpt.alloc (h : Kpt F w w1) (o : Obj) : Kpt F w (w1.alloc o) :=
  ⟨h.os, h.tape, h.output, Nat.le_trans h.size (by simp), fun i hi hf => (Below.heap_alloc w1 o i (Nat.lt_of_lt_of_le hi h.size)).trans (h.block i hi hf)⟩
theorem Kpt.grown (h : Kpt F w w1) {row : Option Nat} (hg : w1.grownBy w2 row) (hr : ∀ k, row = some k → F k ∨ w.heap.size ≤ k) : Kpt F w w2 :=
  ⟨hg.os.trans h.os, hg.tape.trans h.tape, hg.output.trans h.output, Nat.le_trans h.size hg.size, fun i hi hf =>
    (hg.block i (Nat.lt_of_lt_of_le hi h.size) (fun e => by rcases hr i e.symm with h' | h' <;> first | exact hf h' | omega)).trans (h.block i hi hf)⟩
theorem Kpt.drewN (h : Kpt F w w1) (n : Nat) : Kpt F w (w1.drewN n) := ⟨h.os, h.tape, h.output, h.size, h.block⟩
theorem Kpt.drew (h : Kpt F w w1) : Kpt F w w1.drew := ⟨h.os, h.tape, h.output, h.size, h.block⟩
/-- Behind a call that names other blocks. -/
theorem Kpt.next (h : Kpt F w w1) (k : Kpt G w1 w2) (hg : ∀ i, G i → F i ∨ w.heap.size ≤ i) : Kpt F w w2 :=
  ⟨k.os.trans h.os, k.tape.trans h.tape, k.output.trans h.output, Nat.le_trans h.size k.size, fun i hi hf =>
    (k.block i (Nat.lt_of_lt_of_le hi h.size) (fun e => by rcases hg i e with h' | h' <;> first | exact hf h' | omega)).trans (h.block i hi hf)⟩
theorem Kpt.blk (h : Kpt F w w1) {b : Nat} {o : Obj} (hb : w.heap[b]? = some o) (hf : ¬ F b) : w1.heap[b]? = some o := (h.block b (blk_lt hb) hf).trans hb
theorem Kpt.below {B : Nat} {w0 : World} (h : Kpt F w w1) (hb : Below B w0 w) (hF : ∀ k, F k → B ≤ k) (hB : B ≤ w.heap.size) : Below B w0 w1 :=
  ⟨h.os.trans hb.os, h.tape.trans hb.tape, h.output.trans hb.output, Nat.le_trans hb.size h.size, fun i hi => (h.block i (by omega) (fun hf => by have := hF i hf; omega)).trans (hb.block i hi)⟩
theorem Kpt.to_below (h : Kpt F w w1) (hF : ∀ k, F k → w.heap.size ≤ k) : Below w.heap.size w w1 := h.below (Below.refl _ _) hF (Nat.le_refl _)
theorem Kpt.cell (h : Kpt F w w1) {a : Addr} {v : Value} (ha : w.cell? a = some v) (hf : ¬ F a.block) : w1.cell? a = some v := by
  have hb := World.block_lt_of_cell? w _ ha
  obtain ⟨b, o, r⟩ := a
  exact (World.cell?_of_block (h.block b hb hf)).trans ha
theorem Kpt.rg {α : Type} {enc : α → Value} {v : Value} {xs : List α} (h : Kpt F w w1) (hr : Rg enc w v xs) (hf : ∀ k, v.ownBlock = some k → ¬ F k) : Rg enc w1 v xs := by
  obtain ⟨ao, cap, rfl, h1, h2, h3⟩ := hr
  refine ⟨ao, cap, rfl, h1, h2, fun i hi => ?_⟩
  obtain ⟨b, off, rfl, hc⟩ := h3 i hi
  exact ⟨b, off, rfl, h.cell hc (hf b rfl)⟩
theorem Kpt.ri {v : Value} {zs : List Int} (h : Kpt F w w1) (hr : RI w v zs) (hf : ∀ k, v.ownBlock = some k → ¬ F k) : RI w1 v zs := ⟨hr.1, h.rg hr.2 hf⟩
theorem Kpt.row {B e size n : Nat} {v : Value} {xs : List Value} (h : Kpt F w w1) (hr : w.ownsRow B e size v n xs) (hf : ∀ k, v.ownBlock = some k → ¬ F k) : w1.ownsRow B e size v n xs := by
  refine ⟨hr.1, ?_⟩
  rcases hr.2 with h0 | ⟨g, cap, cur, rfl, hb, hg, hrest⟩
  · exact .inl h0
  · exact .inr ⟨g, cap, cur, rfl, hb, h.blk hg (hf g rfl), hrest⟩
theorem Kpt.ob {α : Type} {enc : α → Value} {B g off n cap : Nat} {xs : List α} (h : Kpt F w w1) (ho : OB enc B w g off n cap xs) (hf : ¬ F g) : OB enc B w1 g off n cap xs := by
  have hbl := h.block g ho.hi hf
  refine ⟨ho.1, ho.2.1, ho.2.2.1, ho.2.2.2.1, Nat.lt_of_lt_of_le ho.hi h.size, fun i hi => ⟨?_, ?_⟩⟩
  · exact (World.cell?_of_block (a := ⟨g, off + i, none⟩) hbl).trans (ho.cell i hi)
  · exact (World.frozen?_of_block (a := ⟨g, off + i, none⟩) hbl).trans (ho.free i hi)
end
/-- A block of one type is no row of another. -/
theorem blk_not_row {W : World} {b : Nat} {cs : Array Value} {t e : TypeId} {x : Nat × Nat} (h : W.heap[b]? = some (.cells cs t x)) (hte : t ≠ e) {base size k : Nat} {v : Value} {xs : List Value} (hr : W.ownsRow base e size v k xs) : v.ownBlock ≠ some b := by
  rcases hr.2 with ⟨rfl, _⟩ | ⟨g, cap, cur, rfl, _, hgb, _⟩
  · simp [Value.ownBlock]
  · intro e'
    obtain rfl : g = b := by simpa [Value.ownBlock] using e'
    rw [h] at hgb
    simp at hgb
    exact hte hgb.2.1
theorem blk_set0 {W : World} {b : Nat} {x y u : Value} {t : TypeId} (h : W.heap[b]? = some (.cells #[x, y] t (0, 0))) : (W.setCell ⟨b, 0, none⟩ u).heap[b]? = some (.cells #[u, y] t (0, 0)) :=
  heap_setCell_same W b 0 #[x, y] t u h
end Go.Proofs.Ytiejljlmbpgbiaa
