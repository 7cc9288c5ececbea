/- Entropies of rows as words, and their sum. Plain; conditions: what each theorem names. -/
import Derived.Test.YteejcdfmpmcmlaaRsP
namespace Go.Proofs.Yteejcdfmpmcmlaa
open Ieee
set_option maxRecDepth 100000
set_option linter.unusedVariables false
set_option linter.unusedSimpArgs false

/-- A sum of at most n numbers, none greater than 2^e. -/
def AccE (e : Int) (s n : Nat) : Prop := ∃ q, Num .f32 s q ∧ -((n : Rat) * two e) ≤ q ∧ q ≤ (n : Rat) * two e
theorem accE_zero (e : Int) : AccE e 0 0 := ⟨0, num_zero .f32, by simp, by simp⟩
theorem accE_step {e : Int} (e0 : 0 ≤ e) (e1 : e ≤ 60) {s n t : Nat} {c : Rat} (h : AccE e s n) (ht : Num .f32 t c) (hc : Bd e c) (hn : n < 16777215) : floatBits .add .f32 s t = some (fadd .f32 s t) ∧ AccE e (fadd .f32 s t) (n + 1) := by
  obtain ⟨q, hs, h1, h2⟩ := h
  obtain ⟨h3, h4⟩ := hc
  have hh : hiK .f32 = 127 := rfl
  have hlo : loK .f32 = -149 := rfl
  have ee : ((n + 1 : Nat) : Rat) * two e = n * two e + two e := by rw [Rat.natCast_add]; grind
  have hb : Bd (24 + e) (q + c) := by
    have : ((n + 1 : Nat) : Rat) * two e ≤ ((2 ^ 24 : Nat) : Rat) * two e := cast_mul_le.2 (by omega)
    rw [← two_nat, ← two_add, show ((24 : Nat) : Int) + e = 24 + e from rfl] at this
    constructor <;> grind
  obtain ⟨g, r, hr, rr⟩ := add_o hs ht (k0 := 24 + e) (by omega) hb
  have hrep : Rep .f32 (((n + 1 : Nat) : Rat) * two e) := ⟨n + 1, e, by have : 2 * binK .f32 = 16777216 := rfl; omega, by omega, .inl rfl⟩
  refine ⟨g, r, hr, ?_, ?_⟩
  · exact rr.dn _ hrep.neg (by grind)
  · exact rr.up _ hrep (by grind)
theorem AccE.bd {e : Int} {s n : Nat} (h : AccE e s n) (j : Nat) (hn : n ≤ 2 ^ j) : ∃ q, Num .f32 s q ∧ Bd (j + e) q := by
  obtain ⟨q, h1, h2, h3⟩ := h
  have : (n : Rat) * two e ≤ ((2 ^ j : Nat) : Rat) * two e := cast_mul_le.2 hn
  rw [← two_nat, ← two_add] at this
  exact ⟨q, h1, by unfold Bd; constructor <;> grind⟩
/-- The bits of a number greater than 0. -/
def bitW (x : Nat) : Nat := fdiv .f32 (LOG x) 1060205080
theorem bit_num {x : Nat} {a : Rat} (h : Num .f32 x a) (h0 : 0 < a) : floatBits .quo .f32 (LOG x) 1060205080 = some (bitW x) ∧ ∃ c, Num .f32 (bitW x) c ∧ Bd 10 c := by
  obtain ⟨-, l, hl, hb⟩ := log_num h h0
  have hd : Bd 10 (l / lnbQ) := div_half hb lnb_bd.1
  obtain ⟨g, c, h1, h2⟩ := div_o hl num_lnb (by have := lnb_bd; grind) (k0 := 10) (by decide) (by decide) hd
  exact ⟨g, c, h1, h2.bd (by decide) hd⟩
def zeroW (x : Nat) : Bool := FloatKind.f32.format.order x 0 == some .eq
theorem zero_numW {x : Nat} {a : Rat} (h : Num .f32 x a) : zeroW x = decide (a = 0) := by
  unfold zeroW; rw [order_num h (num_zero .f32)]
  by_cases ha : a = 0
  · rw [cmp_eq.2 ha, decide_eq_true ha]; rfl
  · rw [decide_eq_false ha]
    have : cmpQ a 0 ≠ .eq := fun e => ha (cmp_eq.1 e)
    revert this; cases cmpQ a 0 <;> simp
/-- The sum of the first chances' products with their bits. -/
def xbW (xs : List Nat) (k : Nat) : Nat := fmul .f32 (xs.getD k 0) (bitW (xs.getD k 0))
def enS (xs : List Nat) : Nat → Nat
  | 0 => 0
  | k + 1 => if zeroW (xs.getD k 0) = true then enS xs k else fadd .f32 (enS xs k) (xbW xs k)
theorem xb_num {xs : List Nat} {k : Nat} (h : Ch (xs.getD k 0)) (hz : zeroW (xs.getD k 0) = false) : ∃ a, Num .f32 (xs.getD k 0) a ∧ 0 < a ∧ floatBits .quo .f32 (LOG (xs.getD k 0)) 1060205080 = some (bitW (xs.getD k 0)) ∧ floatBits .mul .f32 (xs.getD k 0) (bitW (xs.getD k 0)) = some (xbW xs k) ∧ ∃ c, Num .f32 (xbW xs k) c ∧ Bd 11 c := by
  obtain ⟨a, ha, a0, a2⟩ := h
  rw [zero_numW ha] at hz
  have hne : a ≠ 0 := of_decide_eq_false hz
  have hp : 0 < a := by grind
  obtain ⟨g1, c, hc, bc⟩ := bit_num ha hp
  have ba : Bd 1 a := by rw [Bd, show two 1 = 2 from rfl]; constructor <;> grind
  obtain ⟨g2, r, hr, rr⟩ := mul_o ha hc (k0 := 11) (by decide) (ba.mul bc)
  exact ⟨a, ha, hp, g1, g2, r, hr, rr.bd (by decide) (ba.mul bc)⟩
theorem AccE.more {e : Int} {s n m : Nat} (h : AccE e s n) (hm : n ≤ m) : AccE e s m := by
  obtain ⟨q, h1, h2, h3⟩ := h
  have : (n : Rat) * two e ≤ (m : Rat) * two e := cast_mul_le.2 hm
  exact ⟨q, h1, by grind, by grind⟩
theorem en_acc {xs : List Nat} {n : Nat} (h : ∀ i, i < n → Ch (xs.getD i 0)) (k : Nat) (hk : k ≤ n) (hn : n ≤ 32) : AccE 11 (enS xs k) k := by
  induction k with
  | zero => exact accE_zero 11
  | succ k ih =>
    rw [enS]
    cases hz : zeroW (xs.getD k 0)
    · obtain ⟨a, -, -, -, -, c, hc, bc⟩ := xb_num (h k (by omega)) hz
      rw [if_neg (by simp)]
      exact (accE_step (by decide) (by decide) (ih (by omega)) hc bc (by omega)).2
    · rw [if_pos rfl]; exact (ih (by omega)).more (by omega)
theorem en_add {xs : List Nat} {n : Nat} (h : ∀ i, i < n → Ch (xs.getD i 0)) (k : Nat) (hk : k < n) (hn : n ≤ 32) (hz : zeroW (xs.getD k 0) = false) : floatBits .add .f32 (enS xs k) (xbW xs k) = some (fadd .f32 (enS xs k) (xbW xs k)) := by
  obtain ⟨a, -, -, -, -, c, hc, bc⟩ := xb_num (h k hk) hz
  exact (accE_step (by decide) (by decide) (en_acc h k (by omega) hn) hc bc (by omega)).1
def entW (xs : List Nat) : Nat := fsub .f32 0 (enS xs xs.length)
theorem ent_num {xs : List Nat} {n : Nat} (hl : xs.length = n) (h : ∀ i, i < n → Ch (xs.getD i 0)) (hn : n ≤ 32) : floatBits .sub .f32 0 (enS xs xs.length) = some (entW xs) ∧ ∃ q, Num .f32 (entW xs) q ∧ Bd 16 q := by
  have hh := en_acc h n (Nat.le_refl _) hn
  rw [← hl] at hh
  obtain ⟨q, hq, bq⟩ := hh.bd 5 (by omega)
  have hb : Bd 16 (0 - q) := by rw [show (0 : Rat) - q = -q by grind]; exact bq.neg
  obtain ⟨g, r, hr, rr⟩ := sub_o (num_zero .f32) hq (k0 := 16) (by decide) hb
  exact ⟨g, r, hr, rr.bd (by decide) hb⟩
/-- The entropy of a source, by the first letters. -/
def seW (row xs : List Nat) (m i : Nat) : Nat := fmul .f32 (row.getD i 0) (entW (rowL xs m i))
def seS (row xs : List Nat) (m : Nat) : Nat → Nat
  | 0 => 0
  | i + 1 => fadd .f32 (seS row xs m i) (seW row xs m i)
theorem row_getD {xs : List Nat} {n m i : Nat} (hc : ChanOk n m xs) (hi : i < n) : ∀ j, j < m → Ch ((rowL xs m i).getD j 0) := row_ch (hc.row i hi) (rowL_len hc.len hi)
theorem se_num {row xs : List Nat} {n m : Nat} (hr : ∀ i, i < n → Ch (row.getD i 0)) (hc : ChanOk n m xs) (i : Nat) (hi : i < n) : floatBits .mul .f32 (row.getD i 0) (entW (rowL xs m i)) = some (seW row xs m i) ∧ ∃ c, Num .f32 (seW row xs m i) c ∧ Bd 17 c := by
  obtain ⟨a, ha, a0, a2⟩ := hr i hi
  have hm8 := hc.m8
  obtain ⟨-, q, hq, bq⟩ := ent_num (rowL_len hc.len hi) (row_getD hc hi) (by omega)
  have ba : Bd 1 a := by rw [Bd, show two 1 = 2 from rfl]; constructor <;> grind
  obtain ⟨g, r, hr, rr⟩ := mul_o ha hq (k0 := 17) (by decide) (ba.mul bq)
  exact ⟨g, r, hr, rr.bd (by decide) (ba.mul bq)⟩
theorem se_acc {row xs : List Nat} {n m : Nat} (hr : ∀ i, i < n → Ch (row.getD i 0)) (hc : ChanOk n m xs) (i : Nat) (hi : i ≤ n) : AccE 17 (seS row xs m i) i := by
  have hn8 := hc.n8
  induction i with
  | zero => exact accE_zero 17
  | succ i ih =>
    obtain ⟨-, c, hcn, bc⟩ := se_num hr hc i (by omega)
    exact (accE_step (by decide) (by decide) (ih (by omega)) hcn bc (by omega)).2
theorem se_add {row xs : List Nat} {n m : Nat} (hr : ∀ i, i < n → Ch (row.getD i 0)) (hc : ChanOk n m xs) (i : Nat) (hi : i < n) : floatBits .add .f32 (seS row xs m i) (seW row xs m i) = some (seS row xs m (i + 1)) := by
  have hn8 := hc.n8
  obtain ⟨-, c, hcn, bc⟩ := se_num hr hc i hi
  exact (accE_step (by decide) (by decide) (se_acc hr hc i (by omega)) hcn bc (by omega)).1
theorem rs_parts {n m : Int} {xs : List Nat} {near : Nat} {most : Int} {out : List Nat} {k : Nat} (h : rsR n m xs near most = some (out, k)) : ∃ a : Nat, n = a ∧ m = a ∧ ChanOk a a xs ∧ isRowW out = true ∧ out.length = a := by
  unfold rsR at h
  split at h
  · rename_i hc
    have hr := rs_row _ _ _ _ _ _ _ _ h
    simp only [rsC, Bool.and_eq_true, decide_eq_true_eq] at hc
    obtain ⟨a, b, rfl, rfl, hok⟩ := chan_ok hc.1.1.1.1
    have hab : a = b := by omega
    subst hab
    rw [Int.toNat_natCast] at hr
    exact ⟨a, rfl, rfl, hok, hr.1, hr.2⟩
  · cases h
def sbV (n m : Int) (xs : List Nat) (near : Nat) (most : Int) : Nat := match rsR n m xs near most with | some q => seS q.1 xs n.toNat n.toNat | none => 0
theorem sbV_num (n m : Int) (xs : List Nat) (near : Nat) (most : Int) : ∃ q, Num .f32 (sbV n m xs near most) q := by
  unfold sbV
  cases h : rsR n m xs near most with
  | none => exact ⟨0, num_zero .f32⟩
  | some q =>
    obtain ⟨out, k⟩ := q
    obtain ⟨a, rfl, -, hc, hr, hl⟩ := rs_parts h
    obtain ⟨x, hx, -⟩ := (se_acc (row_ch hr hl) hc a (Nat.le_refl _)).bd 3 hc.n8
    exact ⟨x, hx⟩
end Go.Proofs.Yteejcdfmpmcmlaa
