/- Lists that are made row by row. Plain; no conditions. -/
import Derived.Test.YtiejljlmbpgbiaaRowQ
namespace Go.Proofs.Ytiejljlmbpgbiaa
set_option maxRecDepth 100000
set_option linter.unusedVariables false
set_option linter.unusedSimpArgs false

/-- The first i rows of m each, and k of the next. -/
def gridL (f : Nat → Nat → Nat) (m i k : Nat) : List Nat := ((List.range i).flatMap fun j => (List.range m).map (f j)) ++ (List.range k).map (f i)
theorem grid_snoc (f : Nat → Nat → Nat) (m i k : Nat) : gridL f m i (k + 1) = gridL f m i k ++ [f i k] := by simp [gridL, List.range_succ]
theorem grid_row (f : Nat → Nat → Nat) (m i : Nat) : gridL f m i m = gridL f m (i + 1) 0 := by simp [gridL, List.range_succ]
theorem grid_len (f : Nat → Nat → Nat) (m i k : Nat) : (gridL f m i k).length = i * m + k := by
  induction i with
  | zero => simp [gridL]
  | succ i ih =>
    have e : gridL f m (i + 1) k = gridL f m i m ++ (List.range k).map (f (i + 1)) := by simp [gridL, List.range_succ]
    rw [e, List.length_append, ← Nat.add_zero (gridL f m i m).length, grid_row, List.length_map, List.length_range]
    have : (gridL f m (i + 1) 0).length = (i + 1) * m := by
      rw [← grid_row]
      have h2 : (gridL f m i m).length = (gridL f m i k).length + m - k := by simp [gridL]; omega
      rw [h2, ih, Nat.add_mul]; omega
    rw [this]; omega
/-- The whole. -/
def gridA (f : Nat → Nat → Nat) (n m : Nat) : List Nat := gridL f m n 0
theorem gridA_len (f : Nat → Nat → Nat) (n m : Nat) : (gridA f n m).length = n * m := by rw [gridA, grid_len]; rfl
theorem gridL_pre (f : Nat → Nat → Nat) (m n i : Nat) (h : i ≤ n) : ∃ t, gridL f m n 0 = gridL f m i 0 ++ t := by
  induction n with
  | zero => obtain rfl : i = 0 := by omega
            exact ⟨[], by simp⟩
  | succ n ih =>
    by_cases e : i = n + 1
    · subst e; exact ⟨[], by simp⟩
    · obtain ⟨t, ht⟩ := ih (by omega)
      refine ⟨t ++ (List.range m).map (f n), ?_⟩
      have : gridL f m (n + 1) 0 = gridL f m n 0 ++ (List.range m).map (f n) := by simp [gridL, List.range_succ]
      rw [this, ht, List.append_assoc]
theorem gridA_get (f : Nat → Nat → Nat) (n m i k : Nat) (hi : i < n) (hk : k < m) : (gridA f n m).getD (i * m + k) 0 = f i k := by
  obtain ⟨t, ht⟩ := gridL_pre f m n (i + 1) hi
  have h1 : gridL f m (i + 1) 0 = gridL f m i 0 ++ (List.range m).map (f i) := by simp [gridL, List.range_succ]
  have hl := grid_len f m i 0
  rw [Nat.add_zero] at hl
  rw [gridA, ht, h1, List.append_assoc, List.getD_eq_getElem?_getD, List.getElem?_append_right (by omega), hl, Nat.add_sub_cancel_left, List.getElem?_append_left (by simpa using hk)]
  simp [hk]
theorem gridA_row (f : Nat → Nat → Nat) (n m i : Nat) (hi : i < n) : rowL (gridA f n m) m i = (List.range m).map (f i) := by
  refine List.ext_getElem? fun k => ?_
  by_cases hk : k < m
  · rw [rowL_get (gridA_len f n m) hi hk, gridA_get f n m i k hi hk]
    simp [hk]
  · rw [List.getElem?_eq_none (by rw [rowL_len (gridA_len f n m) hi]; omega), List.getElem?_eq_none (by simp; omega)]
theorem gridA_mem (f : Nat → Nat → Nat) (n m x : Nat) (h : x ∈ gridA f n m) : ∃ i k, i < n ∧ k < m ∧ x = f i k := by
  simp only [gridA, gridL, List.range_zero, List.map_nil, List.append_nil, List.mem_flatMap, List.mem_range, List.mem_map] at h
  obtain ⟨i, hi, k, hk, e⟩ := h
  exact ⟨i, k, hi, hk, e.symm⟩
/-- Rows and columns exchanged. -/
def turnL (xs : List Nat) (n m : Nat) : List Nat := gridA (fun k i => xs.getD (i * m + k) 0) m n
end Go.Proofs.Ytiejljlmbpgbiaa
