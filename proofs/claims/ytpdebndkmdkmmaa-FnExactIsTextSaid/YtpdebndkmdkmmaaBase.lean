/- The words and small laws that all texts of this seat use: what a slice reads as, and that it still does behind a call that only makes new memory. No conditions. -/
import Derived.Test.YtpdebndkmdkmmaaRows
import Derived.WalkKit
import Derived.WalkSpells
import Derived.WalkLawsBesides
import Derived.Outline
import Derived.Deep.QuietTactic
import Derived.BigQuiet
import Derived.Lib.Hide
namespace Go.Proofs.Ytpdebndkmdkmmaa
open Go.RowKit

/-- The slice v reads as the cells xs. -/
def Rd (w : World) (v : Value) (xs : List Value) : Prop :=
  ∃ ao cap, v = .slice ao xs.length cap ∧ xs.length ≤ cap ∧ cap ≤ maxLen ∧
    ∀ i, i < xs.length → ∃ b off, ao = some ⟨b, off, none⟩ ∧ w.cell? ⟨b, off + i, none⟩ = xs[i]?

def I64 (z : Int) : Prop := -9223372036854775808 ≤ z ∧ z ≤ 9223372036854775807
def AllI64 (zs : List Int) : Prop := ∀ z ∈ zs, I64 z
/-- The slice v reads as the integers zs. -/
def RI (w : World) (v : Value) (zs : List Int) : Prop :=
  AllI64 zs ∧ ∃ ao cap, v = .slice ao zs.length cap ∧ zs.length ≤ cap ∧ cap ≤ maxLen ∧
    ∀ i (_ : i < zs.length), ∃ b off, ao = some ⟨b, off, none⟩ ∧ w.cell? ⟨b, off + i, none⟩ = some (.int .i64 zs[i])

theorem RI.len {w : World} {v : Value} {zs : List Int} (h : RI w v zs) : zs.length ≤ 9223372036854775807 := by
  obtain ⟨_, _, _, _, h1, h2, _⟩ := h
  unfold maxLen at h2; omega

theorem RI.shape {w : World} {v : Value} {zs : List Int} (h : RI w v zs) : ∃ ao cap, v = .slice ao zs.length cap := by
  obtain ⟨_, ao, cap, h, _⟩ := h; exact ⟨ao, cap, h⟩
theorem below_drewN (w : World) (n : Nat) : Below w.heap.size w (w.drewN n) := ⟨rfl, rfl, rfl, Nat.le_refl _, fun _ _ => rfl⟩
/-- What stood behind a call that only makes memory is still there behind the next one. -/
theorem bnext {w w1 w2 : World} (h1 : Below w.heap.size w w1) (h2 : Below w1.heap.size w1 w2) : Below w.heap.size w w2 := h1.trans (h2.mono h1.size)
theorem RI.below {w w' : World} {v : Value} {zs : List Int} (hb : Below w.heap.size w w') (h : RI w v zs) : RI w' v zs := by
  obtain ⟨hz, ao, cap, rfl, h1, h2, h3⟩ := h
  refine ⟨hz, ao, cap, rfl, h1, h2, fun i hi => ?_⟩
  obtain ⟨b, off, rfl, hc⟩ := h3 i hi
  exact ⟨b, off, rfl, (hb.cell (p := ⟨b, off + i, none⟩) (World.block_lt_of_cell? w _ hc)).trans hc⟩

/-- A slice of the call's own reads as what it owns. -/
theorem RI.own {w : World} {B : Nat} {e : TypeId} {v : Value} {zs : List Int} (hz : AllI64 zs) (h : w.ownsRow B e 1 v zs.length (zs.map (Value.int .i64))) : RI w v zs := by
  refine ⟨hz, ?_⟩
  rcases h.2 with ⟨rfl, h0⟩ | ⟨g, cap, cur, rfl, hb, hg, hn, hm, hs, ht⟩
  · exact ⟨none, 0, by rw [h0], by omega, by unfold maxLen; omega, fun i hi => by omega⟩
  · refine ⟨_, cap, rfl, hn, hm, fun i hi => ⟨g, 0, rfl, ?_⟩⟩
    have := h.cells (g := g) rfl i (.int .i64 zs[i]) (by simp [hi])
    simpa [Addr.add_lit] using this

def inB (n lo hi : Int) : Bool := decide (lo ≤ n) && decide (n ≤ hi)
def allIn : List Int → Int → Int → Bool
  | [], _, _ => true
  | z :: zs, lo, hi => inB z lo hi && allIn zs lo hi
theorem allIn_iff (zs : List Int) (lo hi : Int) : allIn zs lo hi = true ↔ ∀ z ∈ zs, lo ≤ z ∧ z ≤ hi := by
  induction zs with
  | nil => simp [allIn]
  | cons z zs ih => simp [allIn, ih, inB]
theorem not_true {b : Bool} (h : (!b) = true) : b = false := by simpa using h
theorem not_false {b : Bool} (h : (!b) = false) : b = true := by simpa using h
theorem inB_eq {n lo hi : Int} {b : Bool} (h : inB n lo hi = b) : (if b then lo ≤ n ∧ n ≤ hi else ¬ (lo ≤ n ∧ n ≤ hi)) := by
  subst h; unfold inB; by_cases h1 : lo ≤ n <;> by_cases h2 : n ≤ hi <;> simp [h1, h2] <;> omega
theorem ret_bool {a b : Bool} (h : a = b) : Ending.returned (.bool a) = .returned (.bool b) := by rw [h]
theorem ret_i64 {a b : Int} (h : a = b) : Ending.returned (.int .i64 a) = .returned (.int .i64 b) := by rw [h]

/-- A list that is filled from its beginning on: behind k rounds. -/
def fill {α : Type} (zs : List α) (d : α) (k : Nat) : List α := zs.take k ++ List.replicate (zs.length - k) d
theorem fill_zero {α : Type} (zs : List α) (d : α) : fill zs d 0 = List.replicate zs.length d := by simp [fill]
theorem fill_all {α : Type} (zs : List α) (d : α) (k : Nat) (h : zs.length ≤ k) : fill zs d k = zs := by
  unfold fill; rw [List.take_of_length_le h, Nat.sub_eq_zero_of_le h]; simp
theorem fill_get {α : Type} (zs : List α) (d : α) (k : Nat) (h : k < zs.length) : (fill zs d k)[k]? = some d := by
  unfold fill
  rw [List.getElem?_append_right (by simp; omega), List.length_take, Nat.min_eq_left (Nat.le_of_lt h), Nat.sub_self, List.getElem?_replicate, if_pos (by omega)]
theorem fill_set {α : Type} (zs : List α) (d : α) (k : Nat) (h : k < zs.length) : (fill zs d k).set k zs[k] = fill zs d (k + 1) := by
  unfold fill
  rw [List.set_append_right _ _ (by simp; omega), List.take_succ_eq_append_getElem h, List.append_assoc, List.length_take, Nat.min_eq_left (Nat.le_of_lt h), Nat.sub_self]
  obtain ⟨m, hm⟩ : ∃ m, zs.length - k = m + 1 := ⟨zs.length - k - 1, by omega⟩
  rw [hm, show zs.length - (k + 1) = m by omega, List.replicate_succ]
  rfl
theorem fill_len {α : Type} (zs : List α) (d : α) (k : Nat) (h : k ≤ zs.length) : (fill zs d k).length = zs.length := by
  unfold fill; simp; omega

theorem info_int : (Try.prog.info? 2).map (fun i => (i.zero, i.size, i.bytes)) = some (some (.int .i64 0), 1, 8) := by kernel_rfl
end Go.Proofs.Ytpdebndkmdkmmaa
