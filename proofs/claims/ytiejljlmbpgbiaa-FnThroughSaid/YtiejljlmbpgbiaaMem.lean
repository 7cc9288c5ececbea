/- Memory of the call's own of which the place is known; sums, lists, small laws. No conditions. -/
import Derived.Test.YtiejljlmbpgbiaaOwn
import Derived.Handy
import Derived.Laws.AppendOwnNone
namespace Go.Proofs.Ytiejljlmbpgbiaa
open Go.RowKit
set_option maxRecDepth 100000
set_option linter.unusedVariables false
set_option linter.unusedSimpArgs false

/-- A row of n cells from offset off on of block g, which is block B or a later one, holds xs and may be written. -/
def OB {α : Type} (enc : α → Value) (B : Nat) (w : World) (g off n cap : Nat) (xs : List α) : Prop :=
  xs.length = n ∧ n ≤ cap ∧ cap ≤ maxLen ∧ B ≤ g ∧ g < w.heap.size ∧ ∀ i (_ : i < xs.length), w.cell? ⟨g, off + i, none⟩ = some (enc xs[i]) ∧ w.frozen? ⟨g, off + i, none⟩ = false
section
variable {α : Type} {enc : α → Value} {B : Nat} {w w' : World} {g off n cap : Nat} {xs : List α} {v : Value}
theorem Og.ob (h : Og enc B w v xs) (h0 : 0 < xs.length) : ∃ g off cap, v = .slice (some ⟨g, off, none⟩) xs.length cap ∧ OB enc B w g off xs.length cap xs := by
  obtain ⟨ao, cap, rfl, h1, h2, h4, h3⟩ := h
  obtain ⟨g, off, rfl, hc, hf⟩ := h3 0 h0
  refine ⟨g, off, cap, rfl, rfl, h1, h2, (h4 _ rfl).1, (h4 _ rfl).2, fun i hi => ?_⟩
  obtain ⟨g', off', e, hc', hf'⟩ := h3 i hi
  simp only [Option.some.injEq, Addr.mk.injEq, and_true] at e
  obtain ⟨rfl, rfl⟩ := e
  exact ⟨hc', hf'⟩
theorem OB.og (h : OB enc B w g off n cap xs) : Og enc B w (.slice (some ⟨g, off, none⟩) n cap) xs := by
  obtain ⟨rfl, h1, h2, h3, h4, h5⟩ := h
  exact ⟨_, cap, rfl, h1, h2, fun a ha => by obtain rfl := Option.some.inj ha; exact ⟨h3, h4⟩, fun i hi => ⟨g, off, rfl, (h5 i hi).1, (h5 i hi).2⟩⟩
theorem OB.len (h : OB enc B w g off n cap xs) : xs.length = n := h.1
theorem OB.capn (h : OB enc B w g off n cap xs) : n ≤ cap := h.2.1
theorem OB.capm (h : OB enc B w g off n cap xs) : cap ≤ maxLen := h.2.2.1
theorem OB.lo (h : OB enc B w g off n cap xs) : B ≤ g := h.2.2.2.1
theorem OB.hi (h : OB enc B w g off n cap xs) : g < w.heap.size := h.2.2.2.2.1
theorem OB.cell (h : OB enc B w g off n cap xs) (i : Nat) (hi : i < xs.length) : w.cell? ⟨g, off + i, none⟩ = some (enc xs[i]) := (h.2.2.2.2.2 i hi).1
theorem OB.free (h : OB enc B w g off n cap xs) (i : Nat) (hi : i < xs.length) : w.frozen? ⟨g, off + i, none⟩ = false := (h.2.2.2.2.2 i hi).2
theorem OB.mono {B' : Nat} (hB : B' ≤ B) (h : OB enc B w g off n cap xs) : OB enc B' w g off n cap xs :=
  ⟨h.1, h.2.1, h.2.2.1, Nat.le_trans hB h.2.2.2.1, h.2.2.2.2⟩
theorem OB.below (hb : Below w.heap.size w w') (h : OB enc B w g off n cap xs) : OB enc B w' g off n cap xs := by
  refine ⟨h.1, h.2.1, h.2.2.1, h.2.2.2.1, Nat.lt_of_lt_of_le h.hi hb.size, fun i hi => ⟨?_, ?_⟩⟩
  · exact (hb.cell (p := ⟨g, off + i, none⟩) h.hi).trans (h.cell i hi)
  · exact (hb.frozen (p := ⟨g, off + i, none⟩) h.hi).trans (h.free i hi)
theorem OB.kept {row : Option Nat} (hg : w.grownBy w' row) (hne : some g ≠ row) (h : OB enc B w g off n cap xs) : OB enc B w' g off n cap xs := by
  have hbl := hg.block g h.hi hne
  refine ⟨h.1, h.2.1, h.2.2.1, h.2.2.2.1, Nat.lt_of_lt_of_le h.hi hg.size, fun i hi => ⟨?_, ?_⟩⟩
  · exact (World.cell?_of_block (a := ⟨g, off + i, none⟩) hbl).trans (h.cell i hi)
  · exact (World.frozen?_of_block (a := ⟨g, off + i, none⟩) hbl).trans (h.free i hi)
/-- Behind a store into it. -/
theorem OB.put (h : OB enc B w g off n cap xs) (i : Nat) (hi : i < xs.length) (x : α) : OB enc B (w.setCell ⟨g, off + i, none⟩ (enc x)) g off n cap (xs.set i x) := by
  have h1 := (h.og.stored i hi g off cap n rfl x).1
  obtain ⟨g', off', cap', e, hob⟩ := Og.ob h1 (by simp; omega)
  simp only [Value.slice.injEq, Option.some.injEq, Addr.mk.injEq, and_true, true_and] at e
  obtain ⟨⟨rfl, rfl⟩, e2, rfl⟩ := e
  rw [← e2] at hob; exact hob
/-- Behind a store elsewhere. -/
theorem OB.far (h : OB enc B w g off n cap xs) (p : Addr) (u : Value) (hp : p.block ≠ g) : OB enc B (w.setCell p u) g off n cap xs :=
  h.kept (grown_setCell w p u) (fun e => hp (Option.some.inj e).symm)
theorem OB.grown (h : OB enc B w g off n cap xs) (i : Nat) (x : Value) : w.grownBy (w.setCell ⟨g, off + i, none⟩ x) (some g) := grown_setCell w ⟨g, off + i, none⟩ x
/-- A part of what is read. -/
theorem Rg.drop {ao : Option Addr} {m : Nat} (h : Rg enc w (.slice ao m cap) xs) (k : Nat) (hk : k < xs.length) : ∃ b off, ao = some ⟨b, off, none⟩ ∧ Rg enc w (.slice (some ⟨b, off + k, none⟩) (m - k) (cap - k)) (xs.drop k) := by
  obtain ⟨ao', cap', e, h1, h2, h3⟩ := h
  simp only [Value.slice.injEq] at e
  obtain ⟨rfl, rfl, rfl⟩ := e
  obtain ⟨b, off, rfl, _⟩ := h3 k hk
  refine ⟨b, off, rfl, _, cap - k, by rw [List.length_drop], by rw [List.length_drop]; omega, by omega, fun i hi => ?_⟩
  rw [List.length_drop] at hi
  obtain ⟨b', off', e', hc⟩ := h3 (k + i) (by omega)
  simp only [Option.some.injEq, Addr.mk.injEq, and_true] at e'
  obtain ⟨rfl, rfl⟩ := e'
  refine ⟨b, off + k, rfl, ?_⟩
  rw [Nat.add_assoc, List.getElem_drop]; exact hc
/-- A slice that reads as a list, from its beginning, at a place that is known. -/
theorem Rg.cells {ao : Option Addr} {m : Nat} (h : Rg enc w (.slice ao m cap) xs) (h0 : 0 < xs.length) : ∃ b off, ao = some ⟨b, off, none⟩ ∧ m = xs.length ∧ ∀ i (_ : i < xs.length), w.cell? ⟨b, off + i, none⟩ = some (enc xs[i]) := by
  obtain ⟨ao', cap', e, h1, h2, h3⟩ := h
  simp only [Value.slice.injEq] at e
  obtain ⟨rfl, rfl, rfl⟩ := e
  obtain ⟨b, off, rfl, _⟩ := h3 0 h0
  refine ⟨b, off, rfl, rfl, fun i hi => ?_⟩
  obtain ⟨b', off', e', hc⟩ := h3 i hi
  simp only [Option.some.injEq, Addr.mk.injEq, and_true] at e'
  obtain ⟨rfl, rfl⟩ := e'
  exact hc
end
/-- A cell that the call has boxed. -/
theorem blk1 {W : World} {b : Nat} {x : Value} {t : TypeId} (h : W.heap[b]? = some (.cells #[x] t (0, 0))) : W.cell? ⟨b, 0, none⟩ = some x ∧ W.frozen? ⟨b, 0, none⟩ = false :=
  ⟨by rw [cell_of_row _ _ _ _ _ _ h]; rfl, frozen_of_row _ _ _ _ _ h⟩
theorem ret2 {a b c d : Value} (h : a = b) (h' : c = d) : Ending.returned (.tuple #[a, c]) = .returned (.tuple #[b, d]) := by rw [h, h']
theorem ret3 {a b c d e f : Value} (h : a = b) (h' : c = d) (h'' : e = f) : Ending.returned (.tuple #[a, c, e]) = .returned (.tuple #[b, d, f]) := by rw [h, h', h'']
theorem vi {a b : Int} (h : a = b) : Value.int .i64 a = .int .i64 b := by rw [h]
theorem vb {a b : Bool} (h : a = b) : Value.bool a = .bool b := by rw [h]
theorem run_app_none {P : Program} {w : World} (base : Nat) (t ty e : TypeId) (i : TypeInfo) (size c : Nat) (ht : P.underlying t = some (.slice e)) (hi : P.info? e = some i)
    (v : Value) (n : Nat) (xs : List Value) (hown : w.ownsRow base e size v n xs) :
    (Builtin.append_ #[t, t] ty #[v, .slice none 0 c]).run P w = .ok v w := by
  rcases hown.2 with ⟨rfl, rfl⟩ | ⟨g, cap, cur, rfl, _, _, hnc, _⟩
  · simp [Builtin.append_, run_underlying ht, sizeOf, typeInfo, hi, Builtin.lenOf, Builtin.firstCells]
  · simp [Builtin.append_, run_underlying ht, sizeOf, typeInfo, hi, Builtin.lenOf, Builtin.firstCells, hnc, storeCells]
/-- Numbers that are not below 0, as natural ones. -/
abbrev eN (n : Nat) : Value := .int .i64 (n : Int)
def toN (zs : List Int) : List Nat := zs.map Int.toNat
def ofN (ns : List Nat) : List Int := ns.map fun n : Nat => (n : Int)
theorem ofN_len (ns : List Nat) : (ofN ns).length = ns.length := by simp [ofN]
theorem toN_len (zs : List Int) : (toN zs).length = zs.length := by simp [toN]
theorem ofN_toN {zs : List Int} (h : ∀ z ∈ zs, 0 ≤ z) : ofN (toN zs) = zs := by
  induction zs with
  | nil => rfl
  | cons z zs ih =>
    have h1 := h z (by simp)
    have h2 := ih fun y hy => h y (List.mem_cons_of_mem _ hy)
    simp only [toN, ofN, List.map_cons, List.map_map] at h2 ⊢
    rw [Int.toNat_of_nonneg h1]; simp only [List.cons.injEq, true_and]; exact h2
theorem toN_ofN (ns : List Nat) : toN (ofN ns) = ns := by
  induction ns with
  | nil => rfl
  | cons n ns ih => simp only [toN, ofN, List.map_cons, List.map_map, Int.toNat_natCast, List.cons.injEq, true_and] at ih ⊢; exact ih
theorem Rg.ofN {w : World} {v : Value} {ns : List Nat} (h : Rg eN w v ns) : Rg (Value.int .i64) w v (ofN ns) := by
  obtain ⟨ao, cap, rfl, h1, h2, h3⟩ := h
  refine ⟨ao, cap, by rw [ofN_len], by rw [ofN_len]; exact h1, h2, fun i hi => ?_⟩
  obtain ⟨b, off, e, hc⟩ := h3 i (by rw [ofN_len] at hi; exact hi)
  exact ⟨b, off, e, by simpa [Go.Proofs.Ytiejljlmbpgbiaa.ofN] using hc⟩
theorem Og.ofN {B : Nat} {w : World} {v : Value} {ns : List Nat} (h : Og eN B w v ns) : Og (Value.int .i64) B w v (ofN ns) := by
  obtain ⟨ao, cap, rfl, h1, h2, h4, h3⟩ := h
  refine ⟨ao, cap, by rw [ofN_len], by rw [ofN_len]; exact h1, h2, h4, fun i hi => ?_⟩
  obtain ⟨b, off, e, hc, hf⟩ := h3 i (by rw [ofN_len] at hi; exact hi)
  exact ⟨b, off, e, by simpa [Go.Proofs.Ytiejljlmbpgbiaa.ofN] using hc, hf⟩
theorem Rg.toN {w : World} {v : Value} {zs : List Int} (h : Rg (Value.int .i64) w v zs) (h0 : ∀ z ∈ zs, 0 ≤ z) : Rg eN w v (toN zs) := by
  obtain ⟨ao, cap, rfl, h1, h2, h3⟩ := h
  refine ⟨ao, cap, by rw [toN_len], by rw [toN_len]; exact h1, h2, fun i hi => ?_⟩
  have hi' : i < zs.length := by rw [toN_len] at hi; exact hi
  obtain ⟨b, off, e, hc⟩ := h3 i hi'
  have hz := h0 zs[i] (List.getElem_mem hi')
  exact ⟨b, off, e, by rw [hc]; simp [Go.Proofs.Ytiejljlmbpgbiaa.toN, Int.toNat_of_nonneg hz]⟩
theorem Og.toN {B : Nat} {w : World} {v : Value} {zs : List Int} (h : Og (Value.int .i64) B w v zs) (h0 : ∀ z ∈ zs, 0 ≤ z) : Og eN B w v (toN zs) := by
  obtain ⟨ao, cap, rfl, h1, h2, h4, h3⟩ := h
  refine ⟨ao, cap, by rw [toN_len], by rw [toN_len]; exact h1, h2, h4, fun i hi => ?_⟩
  have hi' : i < zs.length := by rw [toN_len] at hi; exact hi
  obtain ⟨b, off, e, hc, hf⟩ := h3 i hi'
  have hz := h0 zs[i] (List.getElem_mem hi')
  exact ⟨b, off, e, by rw [hc]; simp [Go.Proofs.Ytiejljlmbpgbiaa.toN, Int.toNat_of_nonneg hz], hf⟩
theorem ofN_i64 {M : Nat} {ns : List Nat} (h : ∀ n ∈ ns, n < M) (hM : M ≤ 9223372036854775807) : AllI64 (ofN ns) := by
  intro z hz
  obtain ⟨n, hn, rfl⟩ := List.mem_map.1 hz
  have := h n hn
  constructor <;> omega
end Go.Proofs.Ytiejljlmbpgbiaa
