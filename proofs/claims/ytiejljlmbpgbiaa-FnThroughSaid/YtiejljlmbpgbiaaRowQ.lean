/- Rows of chances and channels as lists of words. Plain; conditions: what each theorem names. -/
import Derived.Test.YtiejljlmbpgbiaaEF
import Derived.Test.YtiejljlmbpgbiaaRowP
import Derived.Test.YtiejljlmbpgbiaaLg
import Derived.Test.YtiejljlmbpgbiaaText
namespace Go.Proofs.Ytiejljlmbpgbiaa
open Ieee
set_option maxRecDepth 100000
set_option linter.unusedVariables false
set_option linter.unusedSimpArgs false

def geZ (x : Nat) : Bool := FloatKind.f32.format.order x 0 == some .gt || FloatKind.f32.format.order x 0 == some .eq
theorem geZ_num {x : Nat} {a : Rat} (h : Num .f32 x a) : geZ x = decide (0 ≤ a) := by
  unfold geZ; rw [order_num h (num_zero .f32)]
  rcases (show a < 0 ∨ a = 0 ∨ 0 < a by grind) with h | h | h
  · rw [cmp_lt.2 h, decide_eq_false (by grind)]; rfl
  · rw [cmp_eq.2 h, decide_eq_true (by grind)]; rfl
  · rw [cmp_gt.2 h, decide_eq_true (by grind)]; rfl
/-- Finite and not below nought. -/
def leastW (x : Nat) : Bool := finW x && geZ x
theorem least_num {x : Nat} (h : leastW x = true) : ∃ a, Num .f32 x a ∧ 0 ≤ a := by
  unfold leastW at h
  rw [Bool.and_eq_true] at h
  obtain ⟨a, ha⟩ := num_fin h.1
  rw [geZ_num ha] at h
  exact ⟨a, ha, of_decide_eq_true h.2⟩
def sumF (s : Nat) (xs : List Nat) : Nat := xs.foldl (fadd .f32) s
theorem sum_step (xs : List Nat) (k : Nat) (h : k < xs.length) : sumF 0 (xs.take (k + 1)) = fadd .f32 (sumF 0 (xs.take k)) xs[k] := by
  unfold sumF
  rw [List.take_succ_eq_append_getElem h, List.foldl_append]; rfl
def AllNum (xs : List Nat) : Prop := ∀ x ∈ xs, ∃ a, Num .f32 x a
theorem AllNum.take {xs : List Nat} (h : AllNum xs) (k : Nat) : AllNum (xs.take k) := fun x hx => h x (List.mem_of_mem_take hx)
theorem sum_nn : ∀ (xs : List Nat) (s : Nat), AllNum xs → NN s → NN (sumF s xs)
  | [], s, _, hs => hs
  | x :: xs, s, h, hs => by
    obtain ⟨a, ha⟩ := h x (by simp)
    exact sum_nn xs _ (fun y hy => h y (List.mem_cons_of_mem _ hy)) (nn_add hs ha).2
theorem nn_zero : NN 0 := .inl ⟨0, num_zero .f32⟩
/-- Each of what is summed up is not above the sum. -/
theorem sum_ge {S : Rat} : ∀ (xs : List Nat) (s : Nat), (∀ x ∈ xs, ∃ a, Num .f32 x a ∧ 0 ≤ a) → ((∃ A, Num .f32 s A ∧ 0 ≤ A) ∨ ∃ t, Inf .f32 s t) → Num .f32 (sumF s xs) S →
    (∃ A, Num .f32 s A ∧ 0 ≤ A ∧ A ≤ S) ∧ ∀ x ∈ xs, ∃ a, Num .f32 x a ∧ 0 ≤ a ∧ a ≤ S
  | [], s, _, hs, h => by
    rcases hs with ⟨A, hA, h0⟩ | ⟨t, hi⟩
    · have := hA.unique h
      exact ⟨⟨A, hA, h0, by rw [this]; exact Rat.le_refl⟩, fun x hx => by cases hx⟩
    · have h' : Num .f32 s S := h
      obtain ⟨t', m, e, hr, -⟩ := h'
      rw [Inf, hr] at hi; cases hi
  | x :: xs, s, hx, hs, h => by
    obtain ⟨a, ha, a0⟩ := hx x (by simp)
    have hx' : ∀ y ∈ xs, ∃ a, Num .f32 y a ∧ 0 ≤ a := fun y hy => hx y (List.mem_cons_of_mem _ hy)
    have h' : Num .f32 (sumF (fadd .f32 s x) xs) S := h
    rcases hs with ⟨A, hA, h0⟩ | ⟨t, hi⟩
    · rcases (add_out hA ha).2 with ⟨r, hr, rr⟩ | ⟨t, hi, -⟩
      · obtain ⟨⟨A', hA', b0, b1⟩, h3⟩ := sum_ge xs _ hx' (.inl ⟨r, hr, rr.nonneg (by grind)⟩) h'
        have e := hA'.unique hr
        subst e
        have g1 := rr.dn A hA.rep (by grind)
        have g2 := rr.dn a ha.rep (by grind)
        refine ⟨⟨A, hA, h0, by grind⟩, fun y hy => ?_⟩
        rcases List.mem_cons.1 hy with rfl | hy
        · exact ⟨a, ha, a0, by grind⟩
        · exact h3 y hy
      · obtain ⟨⟨A', hA', -, -⟩, -⟩ := sum_ge xs _ hx' (.inr ⟨t, hi⟩) h'
        exact (num_not_inf hA' hi).elim
    · obtain ⟨⟨A', hA', -, -⟩, -⟩ := sum_ge xs _ hx' (.inr ⟨t, (add_inf hi ha).2⟩) h'
      exact (num_not_inf hA' (add_inf hi ha).2).elim
def oneW (xs : List Nat) : Bool := xs.all leastW && okS (sumF 0 xs)
theorem all_least {xs : List Nat} (h : xs.all leastW = true) : ∀ x ∈ xs, ∃ a, Num .f32 x a ∧ 0 ≤ a := fun x hx => least_num (List.all_eq_true.1 h x hx)
theorem all_num {xs : List Nat} (h : xs.all leastW = true) : AllNum xs := fun x hx => by obtain ⟨a, ha, -⟩ := all_least h x hx; exact ⟨a, ha⟩
/-- From nought to two. -/
def Ch (x : Nat) : Prop := ∃ a, Num .f32 x a ∧ 0 ≤ a ∧ a ≤ 2
theorem one_num {xs : List Nat} (h : oneW xs = true) : ∀ x ∈ xs, Ch x := by
  unfold oneW at h
  rw [Bool.and_eq_true] at h
  obtain ⟨S, hS, h2⟩ := ok_sum (sum_nn xs 0 (all_num h.1) nn_zero) h.2
  obtain ⟨-, h3⟩ := sum_ge xs 0 (all_least h.1) (.inl ⟨0, num_zero .f32, by decide⟩) hS
  intro x hx
  obtain ⟨a, ha, a0, a1⟩ := h3 x hx
  exact ⟨a, ha, a0, by grind⟩
def isRowW (xs : List Nat) : Bool := decide (1 ≤ xs.length) && decide (xs.length ≤ 32) && oneW xs
theorem row_num {xs : List Nat} (h : isRowW xs = true) : ∀ x ∈ xs, Ch x := by
  unfold isRowW at h
  rw [Bool.and_eq_true] at h
  exact one_num h.2
theorem row_len {xs : List Nat} (h : isRowW xs = true) : 1 ≤ xs.length ∧ xs.length ≤ 32 := by
  unfold isRowW at h
  simp only [Bool.and_eq_true, decide_eq_true_eq] at h
  exact h.1
/-- A row of a channel. -/
def rowL (xs : List Nat) (m i : Nat) : List Nat := (xs.drop (i * m)).take m
theorem rowL_len {xs : List Nat} {n m i : Nat} (h : xs.length = n * m) (hi : i < n) : (rowL xs m i).length = m := by
  have : (i + 1) * m ≤ n * m := Nat.mul_le_mul_right _ hi
  rw [Nat.add_mul] at this
  simp [rowL]; omega
theorem rowL_get {xs : List Nat} {n m i k : Nat} (h : xs.length = n * m) (hi : i < n) (hk : k < m) : (rowL xs m i)[k]? = some (xs.getD (i * m + k) 0) := by
  have : (i + 1) * m ≤ n * m := Nat.mul_le_mul_right _ hi
  rw [Nat.add_mul] at this
  simp only [rowL, List.getElem?_take, if_pos hk, List.getElem?_drop, List.getD]
  rw [List.getElem?_eq_getElem (by omega)]; rfl
def chanW (n m : Int) (xs : List Nat) : Bool := inB n 1 8 && inB m 1 8 && decide ((xs.length : Int) = n * m) && (List.range n.toNat).all fun i => isRowW (rowL xs m.toNat i)
structure ChanOk (n m : Nat) (xs : List Nat) : Prop where
  n1 : 1 ≤ n
  n8 : n ≤ 8
  m1 : 1 ≤ m
  m8 : m ≤ 8
  len : xs.length = n * m
  row : ∀ i, i < n → isRowW (rowL xs m i) = true
theorem chan_ok {n m : Int} {xs : List Nat} (h : chanW n m xs = true) : ∃ a b : Nat, n = a ∧ m = b ∧ ChanOk a b xs := by
  simp only [chanW, inB, Bool.and_eq_true, decide_eq_true_eq, List.all_eq_true, List.mem_range] at h
  obtain ⟨⟨⟨⟨h1, h2⟩, h3, h4⟩, h5⟩, h6⟩ := h
  obtain ⟨a, rfl⟩ := Int.eq_ofNat_of_zero_le (show 0 ≤ n by omega)
  obtain ⟨b, rfl⟩ := Int.eq_ofNat_of_zero_le (show 0 ≤ m by omega)
  refine ⟨a, b, rfl, rfl, by omega, by omega, by omega, by omega, ?_, h6⟩
  have e : ((a * b : Nat) : Int) = (a : Int) * b := Int.natCast_mul a b
  omega
theorem chan_of {n m : Nat} {xs : List Nat} (h : ChanOk n m xs) : chanW n m xs = true := by
  simp only [chanW, inB, Bool.and_eq_true, decide_eq_true_eq, List.all_eq_true, List.mem_range]
  have e : ((n * m : Nat) : Int) = (n : Int) * m := Int.natCast_mul n m
  have := h.n1; have := h.n8; have := h.m1; have := h.m8; have := h.len
  exact ⟨⟨⟨⟨by omega, by omega⟩, by omega, by omega⟩, by omega⟩, h.row⟩
theorem ChanOk.sz {n m : Nat} {xs : List Nat} (h : ChanOk n m xs) : n * m ≤ 64 := Nat.mul_le_mul h.n8 h.m8
theorem ChanOk.ch {n m : Nat} {xs : List Nat} (h : ChanOk n m xs) {i k : Nat} (hi : i < n) (hk : k < m) : Ch (xs.getD (i * m + k) 0) :=
  row_num (h.row i hi) _ (List.mem_of_getElem? (rowL_get h.len hi hk))
theorem at_lt {n m i k : Nat} (hi : i < n) (hk : k < m) : i * m + k < n * m := by
  have : (i + 1) * m ≤ n * m := Nat.mul_le_mul_right _ hi
  rw [Nat.add_mul] at this; omega
/-- What comes out at a place, from the first letters that go in. -/
def thP (row xs : List Nat) (m k i : Nat) : Nat := fmul .f32 (row.getD i 0) (xs.getD (i * m + k) 0)
def thS (row xs : List Nat) (m k : Nat) : Nat → Nat
  | 0 => 0
  | i + 1 => fadd .f32 (thS row xs m k i) (thP row xs m k i)
def thW (row xs : List Nat) (n m : Nat) : List Nat := (List.range m).map fun k => thS row xs m k n
theorem thW_len (row xs : List Nat) (n m : Nat) : (thW row xs n m).length = m := by simp [thW]
theorem ch_mul {x y : Nat} (hx : Ch x) (hy : Ch y) : floatBits .mul .f32 x y = some (fmul .f32 x y) ∧ ∃ r, Num .f32 (fmul .f32 x y) r ∧ 0 ≤ r ∧ r ≤ 4 := by
  obtain ⟨a, ha, a0, a2⟩ := hx
  obtain ⟨b, hb, b0, b2⟩ := hy
  have h1 : a * b ≤ 2 * b := Rat.mul_le_mul_of_nonneg_right a2 b0
  have h2 := Rat.mul_nonneg a0 b0
  have hbd : Bd 2 (a * b) := by rw [Bd, show two 2 = 4 from rfl]; constructor <;> grind
  obtain ⟨g, r, hr, rr⟩ := mul_o ha hb (k0 := 2) (by decide) hbd
  exact ⟨g, r, hr, rr.nonneg h2, by have := (rr.bd (by decide) hbd).2; rwa [show two 2 = 4 from rfl] at this⟩
theorem th_step {row xs : List Nat} {n m k : Nat} (hrow : ∀ i, i < n → Ch (row.getD i 0)) (hc : ChanOk n m xs) (hk : k < m) (i : Nat) (hi : i < n) :
    floatBits .mul .f32 (row.getD i 0) (xs.getD (i * m + k) 0) = some (thP row xs m k i) ∧ ∃ r, Num .f32 (thP row xs m k i) r ∧ 0 ≤ r ∧ r ≤ 4 := ch_mul (hrow i hi) (hc.ch hi hk)
theorem th_acc {row xs : List Nat} {n m k : Nat} (hrow : ∀ i, i < n → Ch (row.getD i 0)) (hc : ChanOk n m xs) (hk : k < m) (i : Nat) (hi : i ≤ n) : Acc (thS row xs m k i) i := by
  have h8 := hc.n8
  induction i with
  | zero => exact acc_zero
  | succ i ih =>
    obtain ⟨-, r, hr, r0, r4⟩ := th_step hrow hc hk i (by omega)
    exact (acc_step (ih (by omega)) hr (by rw [Bd, show two 10 = 1024 from by decide +kernel]; constructor <;> grind) (by omega)).2
theorem th_add {row xs : List Nat} {n m k : Nat} (hrow : ∀ i, i < n → Ch (row.getD i 0)) (hc : ChanOk n m xs) (hk : k < m) (i : Nat) (hi : i < n) :
    floatBits .add .f32 (thS row xs m k i) (thP row xs m k i) = some (thS row xs m k (i + 1)) := by
  have h8 := hc.n8
  obtain ⟨-, r, hr, r0, r4⟩ := th_step hrow hc hk i hi
  exact (acc_step (th_acc hrow hc hk i (by omega)) hr (by rw [Bd, show two 10 = 1024 from by decide +kernel]; constructor <;> grind) (by omega)).1
theorem row_ch {row : List Nat} {n : Nat} (h : isRowW row = true) (hn : row.length = n) : ∀ i, i < n → Ch (row.getD i 0) := by
  intro i hi
  refine row_num h _ ?_
  rw [List.getD, List.getElem?_eq_getElem (by omega)]
  exact List.getElem_mem _
end Go.Proofs.Ytiejljlmbpgbiaa
