/- Positive floats as words: order, doubling, halving. Plain; conditions: what each theorem names. -/
import Derived.Laws.FloatArith
namespace Go.Proofs.Ytiejljlmbpgbiaa
open Ieee
set_option maxRecDepth 100000
set_option linter.unusedVariables false
set_option linter.unusedSimpArgs false

/-- A positive number in the double format. -/
def PosW (b : Nat) : Prop := 2 ^ 52 ≤ b ∧ b < 9218868437227405312
theorem read_pos {b : Nat} (h : PosW b) : double.read b = .number false (2 ^ 52 + b % 2 ^ 52) (-1074 + ((b / 2 ^ 52 - 1 : Nat) : Int)) := by
  have e1 : double.signWeight = 2 ^ 63 := rfl
  have e2 : double.binade = 2 ^ 52 := rfl
  have e3 : double.infRung = 9218868437227405312 := rfl
  have e4 : double.leastPlace = -1074 := by decide
  obtain ⟨h1, h2⟩ := h
  unfold Format.read
  rw [e1, e2, e3, e4]
  have d1 : b / 2 ^ 63 = 0 := Nat.div_eq_of_lt (by omega)
  have d2 : b % 2 ^ 63 = b := Nat.mod_eq_of_lt (by omega)
  simp only [d1, d2]
  rw [if_neg (by omega), if_pos h2]
  rfl
/-- A number of 53 digits and noughts behind it is kept as it is. -/
theorem nearest_exact (m s q : Nat) (h1 : 2 ^ 52 ≤ m) (h2 : m < 2 ^ 53) (hi : q * 2 ^ 52 + m ≤ 9218868437227405312) : double.nearest false (m * 2 ^ s) (-1074 + (q : Int) - (s : Int)) = q * 2 ^ 52 + m := by
  have e1 : double.fractionBits = 52 := rfl
  have e2 : double.binade = 2 ^ 52 := rfl
  have e3 : double.infRung = 9218868437227405312 := rfl
  have e4 : double.leastPlace = -1074 := by decide
  have hp : 0 < 2 ^ s := Nat.two_pow_pos s
  have hm0 : m * 2 ^ s ≠ 0 := Nat.ne_of_gt (Nat.mul_pos (by omega) hp)
  have hlg : (m * 2 ^ s).log2 = 52 + s := by
    rw [Nat.log2_eq_iff hm0]
    refine ⟨?_, ?_⟩
    · rw [Nat.pow_add]; exact Nat.mul_le_mul_right _ h1
    · rw [show 52 + s + 1 = 53 + s by omega, Nat.pow_add]; exact Nat.mul_lt_mul_of_pos_right h2 hp
  unfold Format.nearest
  rw [if_neg hm0, hlg, e1, e2, e3, e4]
  have hl : max (-1074 + (q : Int) - (s : Int) + ((52 + s : Nat) : Int) - ((52 : Nat) : Int)) (-1074) = -1074 + (q : Int) := by omega
  simp only [hl]
  have a1 : (-1074 + (q : Int) - (s : Int) - (-1074 + (q : Int))).toNat = 0 := by omega
  have a2 : (-1074 + (q : Int) - (-1074 + (q : Int) - (s : Int))).toNat = s := by omega
  have a3 : (-1074 + (q : Int) - -1074).toNat = q := by omega
  rw [a1, a2, a3]
  have hc : Toward.even.cut false ((m * 2 ^ s) <<< 0) s = m := by
    unfold Toward.cut
    rw [Nat.shiftLeft_zero, hlg, Nat.min_eq_left (by omega), Nat.one_shiftLeft]
    have d1 : m * 2 ^ s / 2 ^ s = m := Nat.mul_div_cancel _ hp
    have d2 : m * 2 ^ s % 2 ^ s = 0 := Nat.mul_mod_left _ _
    have d3 : ((2 ^ s : Nat) == 0) = false := by simp
    simp only [d1, d2, Nat.mul_zero, Nat.not_lt_zero, decide_false, Bool.false_or, d3, Bool.false_and]
    rfl
  rw [hc, Nat.min_eq_left hi]
  rfl
theorem pos_two : PosW 4611686018427387904 := by unfold PosW; omega
/-- Doubling. -/
theorem mul_two {b : Nat} (h : PosW b) (hi : b + 2 ^ 52 ≤ 9218868437227405312) : double.mul b 4611686018427387904 = some (b + 2 ^ 52) := by
  unfold Format.mul
  rw [read_pos h, read_pos pos_two]
  have hb := h.1
  have t1 : 4611686018427387904 % 2 ^ 52 = 0 := by decide
  have t2 : 4611686018427387904 / 2 ^ 52 - 1 = 1023 := by decide
  rw [t1, t2]
  simp only [Datum.product, Option.map_some, Format.write, Bool.xor_false, Nat.add_zero]
  have hk : 1 ≤ b / 2 ^ 52 := by omega
  have hp : (-1074 + ((b / 2 ^ 52 - 1 : Nat) : Int) + (-1074 + ((1023 : Nat) : Int))) = -1074 + ((b / 2 ^ 52 : Nat) : Int) - ((52 : Nat) : Int) := by omega
  rw [hp, nearest_exact (2 ^ 52 + b % 2 ^ 52) 52 (b / 2 ^ 52) (by omega) (by omega) (by omega)]
  congr 1
  omega
/-- Halving. -/
theorem div_two {b : Nat} (h : PosW b) (hi : 2 ^ 53 ≤ b) : double.div b 4611686018427387904 = some (b - 2 ^ 52) := by
  unfold Format.div
  rw [read_pos h, read_pos pos_two]
  have hb := h.2
  have t1 : 4611686018427387904 % 2 ^ 52 = 0 := by decide
  have t2 : 4611686018427387904 / 2 ^ 52 - 1 = 1023 := by decide
  have e1 : double.fractionBits = 52 := rfl
  rw [t1, t2, e1]
  have hr : b % 2 ^ 52 < 2 ^ 52 := Nat.mod_lt _ (by decide)
  have l1 : (2 ^ 52 + b % 2 ^ 52).log2 = 52 := by
    rw [Nat.log2_eq_iff (by omega)]; omega
  have l2 : (2 ^ 52 + 0).log2 = 52 := by decide
  have l3 : ¬ (2 ^ 52 + 0 = 0) := by decide
  simp only [Datum.quotient, if_neg l3, l1, l2, Option.map_some, Format.write, Bool.xor_false]
  have hd : (2 ^ 52 + b % 2 ^ 52) <<< (52 + 2 + 52 - 52) = (2 ^ 52 + b % 2 ^ 52) * 4 * (2 ^ 52 + 0) := by
    rw [Nat.shiftLeft_eq]; omega
  have q1 : (2 ^ 52 + b % 2 ^ 52) * 4 * (2 ^ 52 + 0) / (2 ^ 52 + 0) = (2 ^ 52 + b % 2 ^ 52) * 4 := Nat.mul_div_cancel _ (by decide)
  have q2 : (2 ^ 52 + b % 2 ^ 52) * 4 * (2 ^ 52 + 0) % (2 ^ 52 + 0) = 0 := Nat.mul_mod_left _ _
  rw [hd, q1, q2]
  have hm : 2 * ((2 ^ 52 + b % 2 ^ 52) * 4) + (0 != 0).toNat = (2 ^ 52 + b % 2 ^ 52) * 2 ^ 3 := by
    show 2 * ((2 ^ 52 + b % 2 ^ 52) * 4) + 0 = _
    omega
  have hp : (-1074 + ((b / 2 ^ 52 - 1 : Nat) : Int) - (-1074 + ((1023 : Nat) : Int)) - ((52 + 2 + 52 - 52 : Nat) : Int) - 1) = -1074 + ((b / 2 ^ 52 - 2 : Nat) : Int) - ((3 : Nat) : Int) := by omega
  rw [hm, hp, nearest_exact (2 ^ 52 + b % 2 ^ 52) 3 (b / 2 ^ 52 - 2) (by omega) (by omega) (by omega)]
  exact congrArg some (by omega)
/-- What a positive word stands for, over the least place. -/
def val (b : Nat) : Nat := (2 ^ 52 + b % 2 ^ 52) * 2 ^ (b / 2 ^ 52 - 1)
theorem val_lt {b c : Nat} (hb : PosW b) (h : b < c) : val b < val c := by
  have h1 := hb.1
  unfold val
  by_cases hk : b / 2 ^ 52 = c / 2 ^ 52
  · rw [hk]
    exact Nat.mul_lt_mul_of_pos_right (by omega) (Nat.two_pow_pos _)
  · have hlt : b / 2 ^ 52 < c / 2 ^ 52 := by omega
    have hk1 : 1 ≤ b / 2 ^ 52 := by omega
    have hr : b % 2 ^ 52 < 2 ^ 52 := Nat.mod_lt _ (by decide)
    refine Nat.lt_of_lt_of_le (Nat.mul_lt_mul_of_pos_right (show 2 ^ 52 + b % 2 ^ 52 < 2 ^ 52 * 2 by omega) (Nat.two_pow_pos _)) ?_
    rw [Nat.mul_assoc, ← Nat.pow_succ', show Nat.succ (b / 2 ^ 52 - 1) = b / 2 ^ 52 from by omega]
    exact Nat.mul_le_mul (Nat.le_add_right _ _) (Nat.pow_le_pow_right (by decide) (by omega))
theorem val_eq {b c : Nat} (hb : PosW b) (hc : PosW c) : compare (val b) (val c) = compare b c := by
  rcases Nat.lt_trichotomy b c with h | rfl | h
  · rw [Nat.compare_eq_lt.2 h, Nat.compare_eq_lt.2 (val_lt hb h)]
  · simp
  · rw [Nat.compare_eq_gt.2 h, Nat.compare_eq_gt.2 (val_lt hc h)]
/-- Positive words stand to each other as numbers. -/
theorem order_pos {b c : Nat} (hb : PosW b) (hc : PosW c) : double.order b c = some (compare b c) := by
  unfold Format.order
  rw [read_pos hb, read_pos hc]
  simp only [Datum.order, signed, Bool.false_eq_true, if_false]
  have h1 := hb.1
  have h2 := hc.1
  rw [← val_eq hb hc]
  congr 1
  generalize hi : b / 2 ^ 52 - 1 = i
  generalize hj : c / 2 ^ 52 - 1 = j
  have e1 : (-1074 + (i : Int) - min (-1074 + (i : Int)) (-1074 + (j : Int))).toNat = i - min i j := by omega
  have e2 : (-1074 + (j : Int) - min (-1074 + (i : Int)) (-1074 + (j : Int))).toNat = j - min i j := by omega
  rw [e1, e2]
  unfold val
  rw [hi, hj, Nat.shiftLeft_eq, Nat.shiftLeft_eq]
  generalize 2 ^ 52 + b % 2 ^ 52 = m
  generalize 2 ^ 52 + c % 2 ^ 52 = n
  have s1 : m * 2 ^ i = m * 2 ^ (i - min i j) * 2 ^ min i j := by rw [Nat.mul_assoc, ← Nat.pow_add, Nat.sub_add_cancel (Nat.min_le_left _ _)]
  have s2 : n * 2 ^ j = n * 2 ^ (j - min i j) * 2 ^ min i j := by rw [Nat.mul_assoc, ← Nat.pow_add, Nat.sub_add_cancel (Nat.min_le_right _ _)]
  rw [s1, s2]
  generalize m * 2 ^ (i - min i j) = x
  generalize n * 2 ^ (j - min i j) = y
  have hp : 0 < 2 ^ min i j := Nat.two_pow_pos _
  rcases Nat.lt_trichotomy x y with h | rfl | h
  · rw [Nat.compare_eq_lt.2 (Nat.mul_lt_mul_of_pos_right h hp)]
    exact Int.compare_eq_lt.2 (by omega)
  · simp
  · rw [Nat.compare_eq_gt.2 (Nat.mul_lt_mul_of_pos_right h hp)]
    exact Int.compare_eq_gt.2 (by omega)
end Go.Proofs.Ytiejljlmbpgbiaa
