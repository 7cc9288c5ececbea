/- The words and small laws that all texts of this seat use: what a slice reads as, and that it still does behind a call that only makes new memory. No conditions. -/
import Derived.Test.YtiejljlmbpgbiaaRows
import Derived.WalkKit
import Derived.WalkSpells
import Derived.WalkLawsBesides
import Derived.Outline
import Derived.Deep.QuietTactic
import Derived.BigQuiet
import Derived.Lib.Hide
namespace Go.Proofs.Ytiejljlmbpgbiaa
open Go.RowKit
set_option maxRecDepth 100000

def I64 (z : Int) : Prop := -9223372036854775808 ≤ z ∧ z ≤ 9223372036854775807
def AllI64 (zs : List Int) : Prop := ∀ z ∈ zs, I64 z

/-- The slice v reads as xs, each written by enc. -/
def Rg {α : Type} (enc : α → Value) (w : World) (v : Value) (xs : List α) : Prop :=
  ∃ ao cap, v = .slice ao xs.length cap ∧ xs.length ≤ cap ∧ cap ≤ maxLen ∧
    ∀ i (_ : i < xs.length), ∃ b off, ao = some ⟨b, off, none⟩ ∧ w.cell? ⟨b, off + i, none⟩ = some (enc xs[i])
/-- The same, in memory of block B or later that may be written. -/
def Og {α : Type} (enc : α → Value) (B : Nat) (w : World) (v : Value) (xs : List α) : Prop :=
  ∃ ao cap, v = .slice ao xs.length cap ∧ xs.length ≤ cap ∧ cap ≤ maxLen ∧ (∀ a, ao = some a → B ≤ a.block ∧ a.block < w.heap.size) ∧
    ∀ i (_ : i < xs.length), ∃ b off, ao = some ⟨b, off, none⟩ ∧ w.cell? ⟨b, off + i, none⟩ = some (enc xs[i]) ∧ w.frozen? ⟨b, off + i, none⟩ = false

section
variable {α : Type} {enc : α → Value} {w w' : World} {v : Value} {xs : List α} {B : Nat}

theorem Rg.len (h : Rg enc w v xs) : xs.length ≤ 9223372036854775807 := by
  obtain ⟨_, _, _, h1, h2, _⟩ := h
  unfold maxLen at h2; omega
theorem Rg.shape (h : Rg enc w v xs) : ∃ ao cap, v = .slice ao xs.length cap := by
  obtain ⟨ao, cap, h, _⟩ := h; exact ⟨ao, cap, h⟩
theorem Rg.below (hb : Below w.heap.size w w') (h : Rg enc w v xs) : Rg enc w' v xs := by
  obtain ⟨ao, cap, rfl, h1, h2, h3⟩ := h
  refine ⟨ao, cap, rfl, h1, h2, fun i hi => ?_⟩
  obtain ⟨b, off, rfl, hc⟩ := h3 i hi
  exact ⟨b, off, rfl, (hb.cell (p := ⟨b, off + i, none⟩) (World.block_lt_of_cell? w _ hc)).trans hc⟩
theorem Rg.other {row : Option Nat} (hg : w.grownBy w' row) (hne : v.ownBlock = none ∨ v.ownBlock ≠ row) (h : Rg enc w v xs) : Rg enc w' v xs := by
  obtain ⟨ao, cap, rfl, h1, h2, h3⟩ := h
  refine ⟨ao, cap, rfl, h1, h2, fun i hi => ?_⟩
  obtain ⟨b, off, rfl, hc⟩ := h3 i hi
  exact ⟨b, off, rfl, hg.cell hc (by simpa [Value.ownBlock] using hne)⟩
theorem Og.rg (h : Og enc B w v xs) : Rg enc w v xs := by
  obtain ⟨ao, cap, rfl, h1, h2, _, h3⟩ := h
  refine ⟨ao, cap, rfl, h1, h2, fun i hi => ?_⟩
  obtain ⟨b, off, rfl, hc, _⟩ := h3 i hi
  exact ⟨b, off, rfl, hc⟩
theorem Og.mono {B' : Nat} (hB : B' ≤ B) (h : Og enc B w v xs) : Og enc B' w v xs := by
  obtain ⟨ao, cap, rfl, h1, h2, hb, h3⟩ := h
  exact ⟨ao, cap, rfl, h1, h2, fun a ha => ⟨Nat.le_trans hB (hb a ha).1, (hb a ha).2⟩, h3⟩
theorem Og.below (hb : Below w.heap.size w w') (h : Og enc B w v xs) : Og enc B w' v xs := by
  obtain ⟨ao, cap, rfl, h1, h2, h4, h3⟩ := h
  refine ⟨ao, cap, rfl, h1, h2, fun a ha => ⟨(h4 a ha).1, Nat.lt_of_lt_of_le (h4 a ha).2 hb.size⟩, fun i hi => ?_⟩
  obtain ⟨b, off, rfl, hc, hf⟩ := h3 i hi
  have hlt := World.block_lt_of_cell? w _ hc
  exact ⟨b, off, rfl, (hb.cell (p := ⟨b, off + i, none⟩) hlt).trans hc, (hb.frozen (p := ⟨b, off + i, none⟩) hlt).trans hf⟩
theorem Og.other {row : Option Nat} (hg : w.grownBy w' row) (hne : v.ownBlock = none ∨ v.ownBlock ≠ row) (h : Og enc B w v xs) : Og enc B w' v xs := by
  obtain ⟨ao, cap, rfl, h1, h2, h4, h3⟩ := h
  refine ⟨ao, cap, rfl, h1, h2, fun a ha => ⟨(h4 a ha).1, Nat.lt_of_lt_of_le (h4 a ha).2 hg.size⟩, fun i hi => ?_⟩
  obtain ⟨b, off, rfl, hc, hf⟩ := h3 i hi
  have hlt := World.block_lt_of_cell? w _ hc
  have hbl := hg.block b hlt (by simpa [Value.ownBlock] using hne)
  exact ⟨b, off, rfl, (World.cell?_of_block (a := ⟨b, off + i, none⟩) hbl).trans hc, (World.frozen?_of_block (a := ⟨b, off + i, none⟩) hbl).trans hf⟩
/-- The block of memory of one's own: where it lies. -/
theorem Og.blk (h : Og enc B w v xs) : ∀ k, v.ownBlock = some k → B ≤ k ∧ k < w.heap.size := by
  obtain ⟨ao, cap, rfl, h1, h2, h4, h3⟩ := h
  intro k hk
  cases ao with
  | none => simp [Value.ownBlock] at hk
  | some a => simp [Value.ownBlock] at hk; subst hk; exact h4 a rfl
/-- Two that were made one behind the other lie apart. -/
theorem Og.apart {α' : Type} {enc' : α' → Value} {v' : Value} {xs' : List α'} {w0 w1 : World} {B' : Nat} (h : Og enc B w0 v xs) (h' : Og enc' B' w1 v' xs') (hs : w0.heap.size ≤ B') : v.ownBlock = none ∨ v.ownBlock ≠ v'.ownBlock := by
  cases hv : v.ownBlock with
  | none => exact .inl rfl
  | some k =>
    right; intro e
    have h1 := h.blk k hv
    have h2 := h'.blk k e.symm
    omega
theorem ownBlock_symm {a b : Option Nat} (h : a = none ∨ a ≠ b) : b = none ∨ b ≠ a := by
  rcases h with rfl | h
  · cases b <;> simp
  · exact .inr (fun e => h e.symm)
/-- A slice of the call's own reads as what it owns. -/
theorem Og.own {e : TypeId} (h : w.ownsRow B e 1 v xs.length (xs.map enc)) : Og enc B w v xs := by
  rcases h.2 with ⟨rfl, h0⟩ | ⟨g, cap, cur, rfl, hb, hg, hn, hm, hs, ht⟩
  · exact ⟨none, 0, by rw [h0], by omega, by unfold maxLen; omega, (fun a ha => by cases ha), fun i hi => by omega⟩
  · refine ⟨_, cap, rfl, hn, hm, fun a ha => ?_, fun i hi => ⟨g, 0, rfl, ?_, ?_⟩⟩
    · obtain rfl := Option.some.inj ha
      exact ⟨hb, (Array.getElem?_eq_some_iff.1 hg).1⟩
    · have := h.cells (g := g) rfl i (enc xs[i]) (by simp [hi])
      simpa [Addr.add_lit] using this
    · exact h.frozenAt _
/-- Behind a store into it. -/
theorem Og.stored (h : Og enc B w v xs) (i : Nat) (_hi : i < xs.length) (b off cap : Nat) (n : Nat) (hv : v = .slice (some ⟨b, off, none⟩) n cap) (x : α) :
    Og enc B (w.setCell ⟨b, off + i, none⟩ (enc x)) v (xs.set i x) ∧ w.grownBy (w.setCell ⟨b, off + i, none⟩ (enc x)) v.ownBlock := by
  subst hv
  obtain ⟨ao, cap', hv, h1, h2, h4, h3⟩ := h
  simp only [Value.slice.injEq] at hv
  obtain ⟨rfl, rfl, rfl⟩ := hv
  refine ⟨⟨_, cap, by rw [List.length_set], by rw [List.length_set]; exact h1, h2, fun a ha => by rw [World.size_setCell]; exact h4 a ha, fun j hj => ⟨b, off, rfl, ?_, ?_⟩⟩,
    ⟨rfl, rfl, rfl, by simp, fun k _ hk => heap_setCell_other w ⟨b, off + i, none⟩ k _ (fun e => hk (by simp [Value.ownBlock, e]))⟩⟩
  · rw [List.length_set] at hj
    obtain ⟨b', off', e, hc, hf⟩ := h3 j hj
    simp only [Option.some.injEq, Addr.mk.injEq, and_true] at e
    obtain ⟨rfl, rfl⟩ := e
    by_cases hij : i = j
    · subst hij
      rw [List.getElem_set_self]
      exact World.cell?_setCell_same _ _ _ hc
    · rw [List.getElem_set_ne hij, World.cell?_setCell_other (a := ⟨b, off + i, none⟩) (b := ⟨b, off + j, none⟩) (h := by simp)]
      exact hc
  · rw [List.length_set] at hj
    obtain ⟨b', off', e, hc, hf⟩ := h3 j hj
    simp only [Option.some.injEq, Addr.mk.injEq, and_true] at e
    obtain ⟨rfl, rfl⟩ := e
    simpa using hf
end

/-- The slice v reads as the integers zs. -/
def RI (w : World) (v : Value) (zs : List Int) : Prop := AllI64 zs ∧ Rg (Value.int .i64) w v zs
/-- .. in memory of block B or later that may be written. -/
def OI (B : Nat) (w : World) (v : Value) (zs : List Int) : Prop := AllI64 zs ∧ Og (Value.int .i64) B w v zs

theorem RI.len {w : World} {v : Value} {zs : List Int} (h : RI w v zs) : zs.length ≤ 9223372036854775807 := h.2.len
theorem RI.shape {w : World} {v : Value} {zs : List Int} (h : RI w v zs) : ∃ ao cap, v = .slice ao zs.length cap := h.2.shape
theorem RI.below {w w' : World} {v : Value} {zs : List Int} (hb : Below w.heap.size w w') (h : RI w v zs) : RI w' v zs := ⟨h.1, h.2.below hb⟩
theorem OI.ri {B : Nat} {w : World} {v : Value} {zs : List Int} (h : OI B w v zs) : RI w v zs := ⟨h.1, h.2.rg⟩
theorem OI.below {B : Nat} {w w' : World} {v : Value} {zs : List Int} (hb : Below w.heap.size w w') (h : OI B w v zs) : OI B w' v zs := ⟨h.1, h.2.below hb⟩
theorem OI.shape {B : Nat} {w : World} {v : Value} {zs : List Int} (h : OI B w v zs) : ∃ ao cap, v = .slice ao zs.length cap := h.2.rg.shape
theorem OI.i64 {B : Nat} {w : World} {v : Value} {zs : List Int} (h : OI B w v zs) : AllI64 zs := h.1
theorem OI.mono {B B' : Nat} {w : World} {v : Value} {zs : List Int} (hB : B' ≤ B) (h : OI B w v zs) : OI B' w v zs := ⟨h.1, h.2.mono hB⟩
theorem OI.other {B : Nat} {w w' : World} {v : Value} {zs : List Int} {row : Option Nat} (hg : w.grownBy w' row) (hne : v.ownBlock = none ∨ v.ownBlock ≠ row) (h : OI B w v zs) : OI B w' v zs := ⟨h.1, h.2.other hg hne⟩
theorem RI.other {w w' : World} {v : Value} {zs : List Int} {row : Option Nat} (hg : w.grownBy w' row) (hne : v.ownBlock = none ∨ v.ownBlock ≠ row) (h : RI w v zs) : RI w' v zs := ⟨h.1, h.2.other hg hne⟩
theorem grown_setCell (w : World) (p : Addr) (u : Value) : w.grownBy (w.setCell p u) (some p.block) :=
  ⟨rfl, rfl, rfl, by simp, fun k _ hk => heap_setCell_other w p k u (fun e => hk (by rw [e]))⟩
/-- A store elsewhere, below what is owned. -/
theorem Og.set {α : Type} {enc : α → Value} {B : Nat} {w : World} {v : Value} {xs : List α} (h : Og enc B w v xs) (p : Addr) (u : Value) (hp : p.block < B) : Og enc B (w.setCell p u) v xs := by
  refine h.other (grown_setCell w p u) ?_
  cases hv : v.ownBlock with
  | none => exact .inl rfl
  | some k => right; intro e; have := (h.blk k hv).1; simp at e; omega
theorem OI.set {B : Nat} {w : World} {v : Value} {zs : List Int} (h : OI B w v zs) (p : Addr) (u : Value) (hp : p.block < B) : OI B (w.setCell p u) v zs := ⟨h.1, h.2.set p u hp⟩
theorem OI.own {w : World} {B : Nat} {e : TypeId} {v : Value} {zs : List Int} (hz : AllI64 zs) (h : w.ownsRow B e 1 v zs.length (zs.map (Value.int .i64))) : OI B w v zs := ⟨hz, Og.own h⟩

theorem below_drewN (w : World) (n : Nat) : Below w.heap.size w (w.drewN n) := ⟨rfl, rfl, rfl, Nat.le_refl _, fun _ _ => rfl⟩
/-- What stood behind a call that only makes memory is still there behind the next one. -/
theorem bnext {w w1 w2 : World} (h1 : Below w.heap.size w w1) (h2 : Below w1.heap.size w1 w2) : Below w.heap.size w w2 := h1.trans (h2.mono h1.size)
theorem grow_below {w w' : World} (h : w.grownBy w' none) : Below w.heap.size w w' := (Below.refl _ _).grown h (Nat.le_refl _) (fun _ h => by cases h)
/-- A write into memory made behind the beginning. -/
theorem bgrown {w0 w w' : World} {row : Option Nat} (h : Below w0.heap.size w0 w) (hg : w.grownBy w' row) (hr : ∀ k, row = some k → w0.heap.size ≤ k) : Below w0.heap.size w0 w' := h.grown hg h.size hr

theorem bcell {W w1 : World} (hb : Below W.heap.size W w1) : (∀ b o, b < W.heap.size → w1.cell? ⟨b, o, none⟩ = W.cell? ⟨b, o, none⟩) ∧ (∀ b o, b < W.heap.size → w1.frozen? ⟨b, o, none⟩ = W.frozen? ⟨b, o, none⟩) :=
  ⟨fun b o h => hb.cell (p := ⟨b, o, none⟩) h, fun b o h => hb.frozen (p := ⟨b, o, none⟩) h⟩

theorem cnext {W w1 : World} (hb : Below W.heap.size W w1) {a : Addr} {v : Value} (h : W.cell? a = some v) : w1.cell? a = some v := (hb.cell (World.block_lt_of_cell? _ _ h)).trans h

theorem qv {P : Program} {f : FuncId} {a : Array Value} {w : World} {b b' : Bool} (hb : b = b') (h : Calls P f a w fun e w' => e = .returned (.bool b) ∧ w = w') : Calls P f a w fun e w' => e = .returned (.bool b') ∧ ∃ n, w' = w.drewN n :=
  h.mono fun _ _ ⟨he, hw⟩ => ⟨by rw [he, hb], 0, hw.symm⟩
theorem qi {P : Program} {f : FuncId} {a : Array Value} {w : World} {v : Value} (h : Calls P f a w fun e w' => e = .returned v ∧ w = w') : Calls P f a w fun e w' => e = .returned v ∧ ∃ n, w' = w.drewN n :=
  h.mono fun _ _ ⟨he, hw⟩ => ⟨he, 0, hw.symm⟩

theorem grown_trans {a b c : World} {row : Option Nat} (h : a.grownBy b row) (k : b.grownBy c row) : a.grownBy c row :=
  ⟨k.os.trans h.os, k.tape.trans h.tape, k.output.trans h.output, Nat.le_trans h.size k.size, fun i hi hr => (k.block i (Nat.lt_of_lt_of_le hi h.size) hr).trans (h.block i hi hr)⟩

/-- Two lists of one length: the first part of the one, the rest of the other. -/
def half {α : Type} (new old : List α) (i : Nat) : List α := new.take i ++ old.drop i
theorem half_zero {α : Type} (new old : List α) : half new old 0 = old := by simp [half]
theorem half_all {α : Type} (new old : List α) (i : Nat) (h : new.length ≤ i) (h' : old.length ≤ i) : half new old i = new := by
  simp [half, List.take_of_length_le h, List.drop_of_length_le h']
theorem half_len {α : Type} (new old : List α) (i : Nat) (h : new.length = old.length) (hi : i ≤ old.length) : (half new old i).length = old.length := by
  simp [half]; omega
theorem half_set {α : Type} (new old : List α) (i : Nat) (h : i < new.length) (h' : i < old.length) : (half new old i).set i new[i] = half new old (i + 1) := by
  unfold half
  rw [List.set_append_right _ _ (by simp; omega), List.take_succ_eq_append_getElem h, List.append_assoc, List.length_take, Nat.min_eq_left (Nat.le_of_lt h), Nat.sub_self, List.drop_eq_getElem_cons h']
  rfl
def marks (k : Int) (n : Nat) : List Int := (List.range n).map fun (i : Nat) => k + (i : Int)
theorem marks_len (k : Int) (n : Nat) : (marks k n).length = n := by simp [marks]
theorem marks_get (k : Int) (n i : Nat) (h : i < (marks k n).length) : (marks k n)[i] = k + (i : Int) := by simp [marks]
theorem marks_i64 (k : Int) (n : Nat) (h0 : 0 ≤ k) (h : k + n ≤ 4294967296) : AllI64 (marks k n) := by
  intro z hz
  simp only [marks, List.mem_map, List.mem_range] at hz
  obtain ⟨i, hi, rfl⟩ := hz
  constructor <;> omega
theorem half_i64 {a b : List Int} (ha : AllI64 a) (hb : AllI64 b) (i : Nat) : AllI64 (half a b i) := by
  intro z hz
  rcases List.mem_append.1 hz with h | h
  · exact ha z (List.mem_of_mem_take h)
  · exact hb z (List.mem_of_mem_drop h)

def inB (n lo hi : Int) : Bool := decide (lo ≤ n) && decide (n ≤ hi)
def allIn : List Int → Int → Int → Bool
  | [], _, _ => true
  | z :: zs, lo, hi => inB z lo hi && allIn zs lo hi
theorem allIn_iff (zs : List Int) (lo hi : Int) : allIn zs lo hi = true ↔ ∀ z ∈ zs, lo ≤ z ∧ z ≤ hi := by
  induction zs with
  | nil => simp [allIn]
  | cons z zs ih => simp [allIn, ih, inB]
theorem not_true {b : Bool} (h : (!b) = true) : b = false := by simpa using h
theorem not_false {b : Bool} (h : (!b) = false) : b = true := by simpa using h
theorem inB_eq {n lo hi : Int} {b : Bool} (h : inB n lo hi = b) : (if b then lo ≤ n ∧ n ≤ hi else ¬ (lo ≤ n ∧ n ≤ hi)) := by
  subst h; unfold inB; by_cases h1 : lo ≤ n <;> by_cases h2 : n ≤ hi <;> simp [h1, h2] <;> omega
theorem ret_bool {a b : Bool} (h : a = b) : Ending.returned (.bool a) = .returned (.bool b) := by rw [h]
theorem ret_i64 {a b : Int} (h : a = b) : Ending.returned (.int .i64 a) = .returned (.int .i64 b) := by rw [h]

/-- A list that is filled from its beginning on: behind k rounds. -/
def fill {α : Type} (zs : List α) (d : α) (k : Nat) : List α := zs.take k ++ List.replicate (zs.length - k) d
theorem fill_zero {α : Type} (zs : List α) (d : α) : fill zs d 0 = List.replicate zs.length d := by simp [fill]
theorem fill_all {α : Type} (zs : List α) (d : α) (k : Nat) (h : zs.length ≤ k) : fill zs d k = zs := by
  unfold fill; rw [List.take_of_length_le h, Nat.sub_eq_zero_of_le h]; simp
theorem fill_get {α : Type} (zs : List α) (d : α) (k : Nat) (h : k < zs.length) : (fill zs d k)[k]? = some d := by
  unfold fill
  rw [List.getElem?_append_right (by simp; omega), List.length_take, Nat.min_eq_left (Nat.le_of_lt h), Nat.sub_self, List.getElem?_replicate, if_pos (by omega)]
theorem fill_set {α : Type} (zs : List α) (d : α) (k : Nat) (h : k < zs.length) : (fill zs d k).set k zs[k] = fill zs d (k + 1) := by
  unfold fill
  rw [List.set_append_right _ _ (by simp; omega), List.take_succ_eq_append_getElem h, List.append_assoc, List.length_take, Nat.min_eq_left (Nat.le_of_lt h), Nat.sub_self]
  obtain ⟨m, hm⟩ : ∃ m, zs.length - k = m + 1 := ⟨zs.length - k - 1, by omega⟩
  rw [hm, show zs.length - (k + 1) = m by omega, List.replicate_succ]
  rfl
theorem fill_len {α : Type} (zs : List α) (d : α) (k : Nat) (h : k ≤ zs.length) : (fill zs d k).length = zs.length := by
  unfold fill; simp; omega

theorem info_int : (Try.prog.info? 2).map (fun i => (i.zero, i.size, i.bytes)) = some (some (.int .i64 0), 1, 8) := by kernel_rfl
end Go.Proofs.Ytiejljlmbpgbiaa
