/- What a number costs in bits, and sums of such. Plain; conditions: what each theorem names. -/
import Derived.Test.YtiejljlmbpgbiaaLgP
namespace Go.Proofs.Ytiejljlmbpgbiaa
open Ieee
set_option maxRecDepth 100000
set_option linter.unusedVariables false
set_option linter.unusedSimpArgs false

abbrev fneg (x : Nat) : Nat := Op.negFloat .f32 x
abbrev I32 (n : Int) : Nat := floatOfInt .f32 n
theorem i32_num (n : Int) (h : n.natAbs < 2 ^ 24) : Num .f32 (I32 n) n := int_exact .f32 n h
def lnbQ : Rat := 11629080 * two (-24)
theorem num_lnb : Num .f32 1060205080 lnbQ := ⟨false, 11629080, -24, by decide +kernel, rfl⟩
theorem lnb_bd : (1 : Rat) / 2 ≤ lnbQ ∧ lnbQ ≤ 1 := by constructor <;> decide +kernel
/-- A quotient by something not below a half. -/
theorem div_half {a b : Rat} {k0 : Int} (ha : Bd k0 a) (hb : 1 / 2 ≤ b) : Bd (k0 + 1) (a / b) := by
  have e : a / b = (2 * a) / (2 * b) := by
    have h0 := Rat.div_mul_cancel (a := a) (b := b) (by grind)
    have h1 := Rat.div_mul_cancel (a := 2 * a) (b := 2 * b) (by grind)
    generalize a / b = q at *
    generalize (2 * a) / (2 * b) = q' at *
    have : (q' - q) * (2 * b) = 0 := by grind
    rcases Rat.mul_eq_zero.1 this with h | h
    · grind
    · grind
  rw [e]
  refine div_bd ?_ (by grind)
  have := ha.add ha
  rwa [show a + a = 2 * a by grind] at this
/-- The opposite of the bits of a number. -/
def costW (x : Nat) : Nat := fdiv .f32 (fneg (LOG x)) 1060205080
theorem cost_num {x : Nat} {a : Rat} (h : Num .f32 x a) (h0 : 0 < a) : floatBits .quo .f32 (fneg (LOG x)) 1060205080 = some (costW x) ∧ ∃ c, Num .f32 (costW x) c ∧ Bd 10 c := by
  obtain ⟨-, l, hl, hb⟩ := log_num h h0
  have hd : Bd 10 (-l / lnbQ) := div_half hb.neg lnb_bd.1
  obtain ⟨g, c, h1, h2⟩ := div_o (neg_num hl) num_lnb (by have := lnb_bd; grind) (k0 := 10) (by decide) (by decide) hd
  exact ⟨g, c, h1, h2.bd (by decide) hd⟩
/-- A quotient of counts. -/
def ratW (c t : Int) : Nat := fdiv .f32 (I32 c) (I32 t)
theorem rat_num {c t : Int} (h1 : 1 ≤ c) (h2 : c ≤ t) (h3 : t ≤ 16384) : floatBits .quo .f32 (I32 c) (I32 t) = some (ratW c t) ∧ ∃ a, Num .f32 (ratW c t) a ∧ 0 < a ∧ Rnd .f32 ((c : Rat) / (t : Rat)) a := by
  have nc := i32_num c (by omega)
  have nt := i32_num t (by omega)
  have c1 : (1 : Rat) ≤ c := by rw [show (1 : Rat) = ((1 : Int) : Rat) from rfl, Rat.intCast_le_intCast]; exact h1
  have ct : (c : Rat) ≤ t := Rat.intCast_le_intCast.2 h2
  have t3 : (t : Rat) ≤ 16384 := by rw [show (16384 : Rat) = ((16384 : Int) : Rat) from rfl, Rat.intCast_le_intCast]; exact h3
  have hq := Rat.div_mul_cancel (a := (c : Rat)) (b := (t : Rat)) (by grind)
  have hlow : two (-14) ≤ (c : Rat) / t := by
    refine Rat.not_lt.1 fun hn => ?_
    have k1 := Rat.mul_lt_mul_of_pos_right hn (show (0 : Rat) < t by grind)
    have k2 : two (-14) * (t : Rat) ≤ two (-14) * 16384 := Rat.mul_le_mul_of_nonneg_left t3 (Rat.le_of_lt (two_pos _))
    have k3 : two (-14) * 16384 = 1 := by decide +kernel
    grind
  have hup : (c : Rat) / t ≤ two 0 := by
    rw [show two 0 = 1 from rfl]
    refine Rat.not_lt.1 fun hn => ?_
    have k1 := Rat.mul_lt_mul_of_pos_right hn (show (0 : Rat) < t by grind)
    grind
  have hp := two_pos (-14)
  have hb : Bd 0 ((c : Rat) / t) := ⟨by rw [show two 0 = 1 from rfl]; grind, hup⟩
  obtain ⟨g, a, n, r⟩ := div_o nc nt (by grind) (k0 := 0) (by decide) (by decide) hb
  refine ⟨g, a, n, ?_, r⟩
  have := r.dn (two (-14)) (rep_two _ _ (by decide)) hlow
  grind

/-- A sum of at most n numbers, none greater than 2^10. -/
def Acc (s n : Nat) : Prop := ∃ q, Num .f32 s q ∧ -((n : Rat) * two 10) ≤ q ∧ q ≤ (n : Rat) * two 10
theorem acc_zero : Acc 0 0 := ⟨0, num_zero .f32, by simp, by simp⟩
theorem acc_step {s n t : Nat} {c : Rat} (h : Acc s n) (ht : Num .f32 t c) (hc : Bd 10 c) (hn : n < 16777215) : floatBits .add .f32 s t = some (fadd .f32 s t) ∧ Acc (fadd .f32 s t) (n + 1) := by
  obtain ⟨q, hs, h1, h2⟩ := h
  obtain ⟨h3, h4⟩ := hc
  have e : ((n + 1 : Nat) : Rat) * two 10 = n * two 10 + two 10 := by rw [Rat.natCast_add]; grind
  have hb : Bd 34 (q + c) := by
    have : ((n + 1 : Nat) : Rat) * two 10 ≤ ((2 ^ 24 : Nat) : Rat) * two 10 := cast_mul_le.2 (by omega)
    rw [← two_nat, ← two_add, show ((24 : Nat) : Int) + 10 = 34 from rfl] at this
    constructor <;> grind
  obtain ⟨g, r, hr, rr⟩ := add_o hs ht (k0 := 34) (by decide) hb
  have hrep : Rep .f32 (((n + 1 : Nat) : Rat) * two 10) := ⟨n + 1, 10, by have : 2 * binK .f32 = 16777216 := rfl; omega, by decide, .inl rfl⟩
  refine ⟨g, r, hr, ?_, ?_⟩
  · exact rr.dn _ hrep.neg (by grind)
  · exact rr.up _ hrep (by grind)
end Go.Proofs.Ytiejljlmbpgbiaa
