/- ChainChannels in the reference. No conditions but that the slices read. -/
import Derived.Test.YtiejljlmbpgbiaaGive
namespace Go.Proofs.Ytiejljlmbpgbiaa
open Go.RowKit
set_option maxRecDepth 100000
set_option linter.unusedVariables false
set_option linter.unusedSimpArgs false

/-- The chances of one behind the other, the first rows. -/
def chL (xa xb : List Nat) (ma mb k : Nat) : List Nat := (List.range k).flatMap fun i => thL (rowL xa ma i) xb ma mb mb
theorem chL_snoc (xa xb : List Nat) (ma mb k : Nat) : chL xa xb ma mb (k + 1) = chL xa xb ma mb k ++ thL (rowL xa ma k) xb ma mb mb := by simp [chL, List.range_succ]
theorem chL_len (xa xb : List Nat) (ma mb k : Nat) : (chL xa xb ma mb k).length = k * mb := by
  induction k with
  | zero => simp [chL]
  | succ k ih => rw [chL_snoc, List.length_append, ih, thL_len, Nat.add_mul, Nat.one_mul]
def coOk (n0 m0 : Int) (z0 : List Nat) (n1 m1 : Int) (z1 : List Nat) : Bool := chanW n0 m0 z0 && chanW n1 m1 z1 && decide (m0 = n1) && chanW n0 m1 (chL z0 z1 m0.toNat m1.toNat n0.toNat)
def coZ (n0 m0 : Int) (z0 : List Nat) (n1 m1 : Int) (z1 : List Nat) : List Nat := cgZ (coOk n0 m0 z0 n1 m1 z1) (chL z0 z1 m0.toNat m1.toNat n0.toNat)
theorem coZ_len (n0 m0 : Int) (z0 : List Nat) (n1 m1 : Int) (z1 : List Nat) : (coZ n0 m0 z0 n1 m1 z1).length ≤ 16777216 := by
  unfold coZ
  cases h : coOk n0 m0 z0 n1 m1 z1
  · simp [cgZ]
  · simp only [coOk, Bool.and_eq_true] at h
    obtain ⟨⟨⟨h1, h2⟩, -⟩, -⟩ := h
    obtain ⟨a, b, rfl, rfl, ha⟩ := chan_ok h1
    obtain ⟨c, d, rfl, rfl, hb⟩ := chan_ok h2
    have := Nat.mul_le_mul ha.n8 hb.m8
    simp only [cgZ, if_true, Int.toNat_natCast, chL_len]
    omega
/-- What lies in memory between two rounds. -/
structure CnS (T : TypeId) (w W : World) (n0 m0 : Int) (v0 : Value) (n1 m1 : Int) (v1 : Value) (out : Value) (xs : List Nat) : Prop where
  hB : Below w.heap.size w W
  a : ChP W w.heap.size n0 m0 v0
  b : ChP W (w.heap.size + 1) n1 m1 v1
  r : W.heap[w.heap.size + 2]? = some (.cells #[.int .i64 0, .int .i64 0, .slice none 0 0] T (0, 0))
  c : W.heap[w.heap.size + 3]? = some (.cells #[.int .i64 n0, .int .i64 m1, out] T (0, 0))
  o : OwnF (w.heap.size + 4) W out xs
theorem ChP.of {B : Nat} {W W' : World} {g : Nat} {n m : Int} {v : Value} (h : ChP W g n m v) (hb : Below B W W') (hg : g < B) : ChP W' g n m v := ⟨(hb.cell (p := ⟨g, 0, none⟩) hg).trans h.1, (hb.cell (p := ⟨g, 1, none⟩) hg).trans h.2.1, (hb.cell (p := ⟨g, 2, none⟩) hg).trans h.2.2⟩
theorem ChP.mk' {W : World} {g : Nat} {n m : Int} {v : Value} (h0 : W.cell? ⟨g, 0, none⟩ = some (.int .i64 n)) (h1 : W.cell? ⟨g, 1, none⟩ = some (.int .i64 m)) (h2 : W.cell? ⟨g, 2, none⟩ = some v) : ChP W g n m v := ⟨h0, h1, h2⟩
theorem bup {B : Nat} {a b c : World} (h : Below B a b) (hs : B ≤ a.heap.size) (hb : Below b.heap.size b c) : Below B a c := h.trans (hb.mono (Nat.le_trans hs h.size))
theorem CnS.next {T : TypeId} {w W W' : World} {n0 m0 : Int} {v0 : Value} {n1 m1 : Int} {v1 : Value} {out out' : Value} {xs xs' : List Nat} (h : CnS T w W n0 m0 v0 n1 m1 v1 out xs) (hb : Below (w.heap.size + 4) W W') (ho : OwnF (w.heap.size + 4) W' out' xs') :
    CnS T w (W'.setCell ⟨w.heap.size + 3, 2, none⟩ out') n0 m0 v0 n1 m1 v1 out' xs' := by
  refine ⟨(h.hB.trans (hb.mono (by omega))).setCell (p := ⟨w.heap.size + 3, 2, none⟩) (by show w.heap.size ≤ w.heap.size + 3; omega) _, (h.a.of hb (by omega)).far _ _ (by show w.heap.size + 3 ≠ w.heap.size; omega), (h.b.of hb (by omega)).far _ _ (by show w.heap.size + 3 ≠ w.heap.size + 1; omega), blk_other (by show w.heap.size + 3 ≠ w.heap.size + 2; omega) (blk_below hb (by omega) h.r), ?_, ?_⟩
  · exact heap_setCell_same W' (w.heap.size + 3) 2 #[.int .i64 n0, .int .i64 m1, out] T out' (blk_below hb (by omega) h.c)
  · refine World.ownsRow.kept ho (grown_setCell W' _ _) ?_
    cases hv : out'.ownBlock with
    | none => exact .inl rfl
    | some k => right; intro e; have := (World.ownsRow.lt ho k hv).1; simp at e; omega
end Go.Proofs.Ytiejljlmbpgbiaa
