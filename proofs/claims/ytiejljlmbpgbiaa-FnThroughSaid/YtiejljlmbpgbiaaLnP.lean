/- The logarithm as an exact rational function: how its differences lie between quotients. Plain; conditions: what each theorem names. -/
import Derived.Test.YtiejljlmbpgbiaaLgP
namespace Go.Proofs.Ytiejljlmbpgbiaa
open Ieee
set_option maxRecDepth 100000
set_option linter.unusedVariables false
set_option linter.unusedSimpArgs false

def pw (u : Rat) : Nat → Rat
  | 0 => 1
  | n + 1 => pw u n * u
theorem pw_nonneg {u : Rat} (h : 0 ≤ u) (n : Nat) : 0 ≤ pw u n := by
  induction n with
  | zero => show (0 : Rat) ≤ 1; decide
  | succ n ih => exact Rat.mul_nonneg ih h
theorem pw_mono {u v : Rat} (h : 0 ≤ u) (h' : u ≤ v) (n : Nat) : pw u n ≤ pw v n := by
  induction n with
  | zero => exact Rat.le_refl
  | succ n ih =>
    have h1 := Rat.mul_le_mul_of_nonneg_right ih h
    have h2 := Rat.mul_le_mul_of_nonneg_left h' (pw_nonneg (show 0 ≤ v by grind) n)
    show pw u n * u ≤ pw v n * v
    grind
theorem sq_mono {a b : Rat} (hb : 0 ≤ b) (h : b ≤ a) : b * b ≤ a * a := by
  have h1 := Rat.mul_le_mul_of_nonneg_right h hb
  have h2 := Rat.mul_le_mul_of_nonneg_left h (show 0 ≤ a by grind)
  grind
/-- The difference of two odd powers. -/
theorem odd_up {a b : Rat} (hb : 0 ≤ b) (h : b ≤ a) (i : Nat) : pw (a * a) i * a - pw (b * b) i * b ≤ (2 * (i : Rat) + 1) * ((a - b) * pw (a * a) i) := by
  induction i with
  | zero => show (1 : Rat) * a - 1 * b ≤ (2 * ((0 : Nat) : Rat) + 1) * ((a - b) * 1); have : ((0 : Nat) : Rat) = 0 := rfl; grind
  | succ i ih =>
    have ha : 0 ≤ a := by grind
    have haa : 0 ≤ a * a := Rat.mul_nonneg ha ha
    have hA := pw_nonneg haa i
    have hB := pw_nonneg (Rat.mul_nonneg hb hb) i
    have hBA := pw_mono (Rat.mul_nonneg hb hb) (sq_mono hb h) i
    have e : ((i + 1 : Nat) : Rat) = (i : Rat) + 1 := by rw [Rat.natCast_add]; rfl
    rw [e]
    show pw (a * a) i * (a * a) * a - pw (b * b) i * (b * b) * b ≤ (2 * ((i : Rat) + 1) + 1) * ((a - b) * (pw (a * a) i * (a * a)))
    generalize pw (a * a) i = A at *
    generalize pw (b * b) i = B at *
    have k1 := Rat.mul_le_mul_of_nonneg_left ih haa
    have d0 : 0 ≤ a - b := by grind
    have k2 : (a + b) * b ≤ 2 * (a * a) := by
      have h1 := Rat.mul_le_mul_of_nonneg_left h hb
      have h2 := sq_mono hb h
      have h3 := Rat.mul_le_mul_of_nonneg_right h ha
      grind
    have k3 : B * ((a + b) * b) ≤ A * (2 * (a * a)) := by
      have h1 := Rat.mul_le_mul_of_nonneg_left k2 hA
      have h2 := Rat.mul_le_mul_of_nonneg_right hBA (show 0 ≤ (a + b) * b from Rat.mul_nonneg (by grind) hb)
      grind
    have k4 := Rat.mul_le_mul_of_nonneg_left k3 d0
    grind
theorem odd_lo {a b : Rat} (hb : 0 ≤ b) (h : b ≤ a) (i : Nat) : (2 * (i : Rat) + 1) * ((a - b) * pw (b * b) i) ≤ pw (a * a) i * a - pw (b * b) i * b := by
  induction i with
  | zero => show (2 * ((0 : Nat) : Rat) + 1) * ((a - b) * 1) ≤ (1 : Rat) * a - 1 * b; have : ((0 : Nat) : Rat) = 0 := rfl; grind
  | succ i ih =>
    have ha : 0 ≤ a := by grind
    have hbb : 0 ≤ b * b := Rat.mul_nonneg hb hb
    have hA := pw_nonneg (Rat.mul_nonneg ha ha) i
    have hB := pw_nonneg hbb i
    have hBA := pw_mono hbb (sq_mono hb h) i
    have e : ((i + 1 : Nat) : Rat) = (i : Rat) + 1 := by rw [Rat.natCast_add]; rfl
    rw [e]
    show (2 * ((i : Rat) + 1) + 1) * ((a - b) * (pw (b * b) i * (b * b))) ≤ pw (a * a) i * (a * a) * a - pw (b * b) i * (b * b) * b
    generalize pw (a * a) i = A at *
    generalize pw (b * b) i = B at *
    have k1 := Rat.mul_le_mul_of_nonneg_left ih hbb
    have d0 : 0 ≤ a - b := by grind
    have k2 : 2 * (b * b) ≤ (a + b) * a := by
      have h1 := Rat.mul_le_mul_of_nonneg_left h hb
      have h2 := sq_mono hb h
      grind
    have k3 : B * (2 * (b * b)) ≤ A * ((a + b) * a) := by
      have h1 := Rat.mul_le_mul_of_nonneg_left k2 hB
      have h2 := Rat.mul_le_mul_of_nonneg_right hBA (show 0 ≤ (a + b) * a from Rat.mul_nonneg (by grind) ha)
      grind
    have k4 := Rat.mul_le_mul_of_nonneg_left k3 d0
    grind
/-- The series. -/
def P13 (s : Rat) : Nat → Rat
  | 0 => 0
  | i + 1 => P13 s i + pw (s * s) i * s / (2 * (i : Rat) + 1)
def G13 (u : Rat) : Nat → Rat
  | 0 => 0
  | i + 1 => G13 u i + pw u i
theorem g_tel (u : Rat) (n : Nat) : G13 u n * (1 - u) = 1 - pw u n := by
  induction n with
  | zero => show (0 : Rat) * (1 - u) = 1 - 1; grind
  | succ n ih => show (G13 u n + pw u n) * (1 - u) = 1 - pw u n * u; grind
theorem odd_pos (i : Nat) : (0 : Rat) < 2 * (i : Rat) + 1 := by
  have : (0 : Rat) ≤ (i : Rat) := Rat.natCast_nonneg
  grind
theorem pdiv_le {x y c : Rat} (hc : 0 < c) (h : x ≤ c * y) : x / c ≤ y := by
  have h1 := Rat.div_mul_cancel (a := x) (b := c) (by grind)
  refine Rat.not_lt.1 fun hn => ?_
  have := Rat.mul_lt_mul_of_pos_right hn hc
  grind
theorem ple_div {x y c : Rat} (hc : 0 < c) (h : c * y ≤ x) : y ≤ x / c := by
  have h1 := Rat.div_mul_cancel (a := x) (b := c) (by grind)
  refine Rat.not_lt.1 fun hn => ?_
  have := Rat.mul_lt_mul_of_pos_right hn hc
  grind
theorem sub_div' (x y c : Rat) : x / c - y / c = (x - y) / c := by rw [Rat.div_def, Rat.div_def, Rat.div_def]; grind
theorem p_up {a b : Rat} (hb : 0 ≤ b) (h : b ≤ a) (n : Nat) : P13 a n - P13 b n ≤ (a - b) * G13 (a * a) n := by
  induction n with
  | zero => show (0 : Rat) - 0 ≤ (a - b) * 0; grind
  | succ n ih =>
    have h1 := pdiv_le (odd_pos n) (odd_up hb h n)
    rw [← sub_div'] at h1
    show P13 a n + pw (a * a) n * a / (2 * (n : Rat) + 1) - (P13 b n + pw (b * b) n * b / (2 * (n : Rat) + 1)) ≤ (a - b) * (G13 (a * a) n + pw (a * a) n)
    grind
theorem p_lo {a b : Rat} (hb : 0 ≤ b) (h : b ≤ a) (n : Nat) : (a - b) * G13 (b * b) n ≤ P13 a n - P13 b n := by
  induction n with
  | zero => show (a - b) * 0 ≤ (0 : Rat) - 0; grind
  | succ n ih =>
    have h1 := ple_div (odd_pos n) (odd_lo hb h n)
    rw [← sub_div'] at h1
    show (a - b) * (G13 (b * b) n + pw (b * b) n) ≤ P13 a n + pw (a * a) n * a / (2 * (n : Rat) + 1) - (P13 b n + pw (b * b) n * b / (2 * (n : Rat) + 1))
    grind
theorem p_neg (s : Rat) (n : Nat) : P13 (-s) n = -P13 s n := by
  induction n with
  | zero => show (0 : Rat) = -0; grind
  | succ n ih =>
    show P13 (-s) n + pw (-s * -s) n * -s / (2 * (n : Rat) + 1) = -(P13 s n + pw (s * s) n * s / (2 * (n : Rat) + 1))
    rw [ih, show -s * -s = s * s by grind, Rat.div_def, Rat.div_def]
    grind
theorem p_zero (n : Nat) : P13 0 n = 0 := by
  have := p_neg 0 n
  rw [show (-0 : Rat) = 0 by grind] at this
  grind
end Go.Proofs.Ytiejljlmbpgbiaa
