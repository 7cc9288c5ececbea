/- The logarithm as an exact rational function: L(x) - L(y) <= x/y - 1, nearly. Plain; conditions: what each theorem names. -/
import Derived.Test.YtiejljlmbpgbiaaLnP
namespace Go.Proofs.Ytiejljlmbpgbiaa
open Ieee
set_option maxRecDepth 100000
set_option linter.unusedVariables false
set_option linter.unusedSimpArgs false

def sM (m : Rat) : Rat := (m - 1) / (m + 1)
def FM (m : Rat) : Rat := 2 * P13 (sM m) 13
theorem s_eq {m : Rat} (h : 0 < m) : sM m * (m + 1) = m - 1 := Rat.div_mul_cancel (by grind)
theorem s_one {m : Rat} (h : 0 < m) : (1 - sM m * sM m) * ((m + 1) * (m + 1)) = 4 * m := by
  have h1 := s_eq h
  have : sM m * sM m * ((m + 1) * (m + 1)) = (m - 1) * (m - 1) := by
    have e : sM m * sM m * ((m + 1) * (m + 1)) = (sM m * (m + 1)) * (sM m * (m + 1)) := by grind
    rw [e, h1]
  grind
theorem s_diff {x y : Rat} (hx : 0 < x) (hy : 0 < y) : (sM x - sM y) * ((x + 1) * (y + 1)) = 2 * (x - y) := by
  have h1 := s_eq hx
  have h2 := s_eq hy
  have e : (sM x - sM y) * ((x + 1) * (y + 1)) = (sM x * (x + 1)) * (y + 1) - (sM y * (y + 1)) * (x + 1) := by grind
  rw [e, h1, h2]; grind
theorem s_le {x y : Rat} (hx : 0 < x) (hy : 0 < y) (h : y ≤ x) : sM y ≤ sM x := by
  have h1 := s_diff hx hy
  have h2 : 0 < (x + 1) * (y + 1) := Rat.mul_pos (by grind) (by grind)
  refine Rat.not_lt.1 fun hn => ?_
  have := Rat.mul_lt_mul_of_pos_right (show sM x - sM y < 0 by grind) h2
  grind
theorem s_pos {m : Rat} (h : 1 ≤ m) : 0 ≤ sM m := by
  have := s_le (x := m) (y := 1) (by grind) (by decide) h
  have e : sM 1 = 0 := by decide +kernel
  grind
theorem s_neg {m : Rat} (h0 : 0 < m) (h : m ≤ 1) : sM m ≤ 0 := by
  have := s_le (x := 1) (y := m) (by decide) h0 h
  have e : sM 1 = 0 := by decide +kernel
  grind
/-- How little the series leaves out. -/
def dl0 : Rat := pw (1 / 25) 13
theorem cancel_le {a b c : Rat} (hc : 0 < c) (h : a * c ≤ b * c) : a ≤ b := Rat.le_of_mul_le_mul_right h hc
section
variable {x y a b X : Rat}
/-- From the difference of the series to the quotient: above. -/
theorem quo_up (hx : 0 < x) (hy : 0 < y) (h : y ≤ x) (X0 : 0 ≤ X) (h1 : 2 * X * (x * (y + 1)) ≤ (x - y) * (x + 1)) : 2 * X * y ≤ x - y := by
  refine cancel_le (c := x + 1) (by grind) ?_
  have k : y * (x + 1) ≤ x * (y + 1) := by grind
  have := Rat.mul_le_mul_of_nonneg_left k (show 0 ≤ 2 * X by grind)
  grind
theorem quo_lo {t : Rat} (hx : 0 < x) (hy : 0 < y) (h : y ≤ x) (X0 : 0 ≤ X) (h1 : (x - y) * (y + 1) * t ≤ 2 * X * (y * (x + 1))) : (x - y) * t ≤ 2 * X * x := by
  refine cancel_le (c := y + 1) (by grind) ?_
  have k : y * (x + 1) ≤ x * (y + 1) := by grind
  have := Rat.mul_le_mul_of_nonneg_left k (show 0 ≤ 2 * X by grind)
  grind
end
theorem pw_le_one {u : Rat} (h0 : 0 ≤ u) (h1 : u ≤ 1) (n : Nat) : pw u n ≤ 1 := by
  have := pw_mono h0 h1 n
  have e : pw 1 n = 1 := by
    induction n with
    | zero => rfl
    | succ n ih => show pw 1 n * 1 = 1; have := ih (pw_mono h0 h1 n); grind
  grind
theorem g_nonneg {u : Rat} (h : 0 ≤ u) (n : Nat) : 0 ≤ G13 u n := by
  induction n with
  | zero => show (0 : Rat) ≤ 0; exact Rat.le_refl
  | succ n ih => show 0 ≤ G13 u n + pw u n; have := pw_nonneg h n; grind
/-- Bounds of the difference of the series at a greater and a less place. -/
theorem dif_bounds {a b : Rat} (hb : 0 ≤ b) (h : b ≤ a) (ha : a ≤ 1 / 5) : 0 ≤ P13 a 13 - P13 b 13 ∧ (P13 a 13 - P13 b 13) * (1 - a * a) ≤ a - b ∧ (a - b) * (1 - dl0) ≤ (P13 a 13 - P13 b 13) * (1 - b * b) := by
  have h0 : 0 ≤ a := by grind
  have haa : 0 ≤ a * a := Rat.mul_nonneg h0 h0
  have hbb : 0 ≤ b * b := Rat.mul_nonneg hb hb
  have sq := sq_mono h0 ha
  have sqb := sq_mono hb h
  have k1 := p_up hb h 13
  have k2 := p_lo hb h 13
  have t1 := g_tel (a * a) 13
  have t2 := g_tel (b * b) 13
  have gp := g_nonneg hbb 13
  have d0 : 0 ≤ a - b := by grind
  have w0 := pw_nonneg haa 13
  have w1 : pw (b * b) 13 ≤ dl0 := pw_mono hbb (by grind) 13
  generalize P13 a 13 - P13 b 13 = X at *
  have e25 : (1 : Rat) / 5 * (1 / 5) ≤ 1 := by decide +kernel
  have p0 := Rat.mul_nonneg d0 gp
  refine ⟨by grind, ?_, ?_⟩
  · have m1 := Rat.mul_le_mul_of_nonneg_right k1 (show 0 ≤ 1 - a * a by grind)
    have m2 := Rat.mul_nonneg d0 w0
    have e : (a - b) * G13 (a * a) 13 * (1 - a * a) = (a - b) * (1 - pw (a * a) 13) := by rw [Rat.mul_assoc, t1]
    rw [e] at m1
    grind
  · have m1 := Rat.mul_le_mul_of_nonneg_right k2 (show 0 ≤ 1 - b * b by grind)
    have m2 := Rat.mul_le_mul_of_nonneg_left (show 1 - dl0 ≤ 1 - pw (b * b) 13 by grind) d0
    have e : (a - b) * G13 (b * b) 13 * (1 - b * b) = (a - b) * (1 - pw (b * b) 13) := by rw [Rat.mul_assoc, t2]
    rw [e] at m1
    grind
theorem s_top {x : Rat} (h0 : 0 < x) (h : x ≤ 3 / 2) : sM x ≤ 1 / 5 := by
  have := s_le (x := 3 / 2) (y := x) (by decide +kernel) h0 h
  have e : sM (3 / 2) = 1 / 5 := by decide +kernel
  grind
theorem s_bot {x : Rat} (h : 3 / 4 ≤ x) : -(1 / 5) ≤ sM x := by
  have := s_le (x := x) (y := 3 / 4) (by grind) (by decide +kernel) h
  have e : sM (3 / 4) = -(1 / 7) := by decide +kernel
  have : (1 : Rat) / 7 ≤ 1 / 5 := by decide +kernel
  grind
theorem dl0_bd : 0 ≤ dl0 ∧ dl0 ≤ 1 := by constructor <;> decide +kernel
/-- Above 1. -/
theorem f_above {x y : Rat} (hy : 1 ≤ y) (h : y ≤ x) (hx : x ≤ 3 / 2) : 0 ≤ FM x - FM y ∧ (FM x - FM y) * y ≤ x - y ∧ (x - y) * (1 - dl0) ≤ (FM x - FM y) * x := by
  have y0 : 0 < y := by grind
  have x0 : 0 < x := by grind
  obtain ⟨X0, k1, k2⟩ := dif_bounds (s_pos hy) (s_le x0 y0 h) (s_top x0 hx)
  have e1 := s_one x0
  have e2 := s_one y0
  have e3 := s_diff x0 y0
  have hf : FM x - FM y = 2 * (P13 (sM x) 13 - P13 (sM y) 13) := by unfold FM; grind
  rw [hf]
  have hdl := dl0_bd
  generalize P13 (sM x) 13 - P13 (sM y) 13 = X at *
  generalize sM x = a at *
  generalize sM y = b at *
  refine ⟨by grind, quo_up x0 y0 h X0 ?_, ?_⟩
  · have m := Rat.mul_le_mul_of_nonneg_right k1 (show 0 ≤ (x + 1) * (x + 1) * (y + 1) from Rat.mul_nonneg (Rat.mul_nonneg (by grind) (by grind)) (by grind))
    have r1 : X * (1 - a * a) * ((x + 1) * (x + 1) * (y + 1)) = X * (y + 1) * ((1 - a * a) * ((x + 1) * (x + 1))) := by grind
    have r2 : (a - b) * ((x + 1) * (x + 1) * (y + 1)) = (x + 1) * ((a - b) * ((x + 1) * (y + 1))) := by grind
    rw [r1, r2, e1, e3] at m
    grind
  · refine quo_lo x0 y0 h X0 ?_
    have m := Rat.mul_le_mul_of_nonneg_right k2 (show 0 ≤ (y + 1) * (y + 1) * (x + 1) from Rat.mul_nonneg (Rat.mul_nonneg (by grind) (by grind)) (by grind))
    have r1 : X * (1 - b * b) * ((y + 1) * (y + 1) * (x + 1)) = X * (x + 1) * ((1 - b * b) * ((y + 1) * (y + 1))) := by grind
    have r2 : (a - b) * (1 - dl0) * ((y + 1) * (y + 1) * (x + 1)) = (1 - dl0) * (y + 1) * ((a - b) * ((x + 1) * (y + 1))) := by grind
    rw [r1, r2, e2, e3] at m
    grind
/-- Below 1. -/
theorem f_under {x y : Rat} (hy : 3 / 4 ≤ y) (h : y ≤ x) (hx : x ≤ 1) : 0 ≤ FM x - FM y ∧ (FM x - FM y) * y ≤ x - y ∧ (x - y) * (1 - dl0) ≤ (FM x - FM y) * x := by
  have y0 : 0 < y := by grind
  have x0 : 0 < x := by grind
  have hxn := s_neg x0 hx
  have hle := s_le x0 y0 h
  have hbot := s_bot hy
  obtain ⟨X0, k1, k2⟩ := dif_bounds (a := -sM y) (b := -sM x) (by grind) (by grind) (by grind)
  rw [p_neg, p_neg] at X0 k1 k2
  have e1 := s_one x0
  have e2 := s_one y0
  have e3 := s_diff x0 y0
  have hf : FM x - FM y = 2 * (P13 (sM x) 13 - P13 (sM y) 13) := by unfold FM; grind
  rw [hf]
  have hdl := dl0_bd
  rw [show -P13 (sM y) 13 - -P13 (sM x) 13 = P13 (sM x) 13 - P13 (sM y) 13 by grind] at X0 k1 k2
  generalize P13 (sM x) 13 - P13 (sM y) 13 = X at *
  generalize sM x = a at *
  generalize sM y = b at *
  have d0 : 0 ≤ x - y := by grind
  refine ⟨by grind, ?_, ?_⟩
  · refine cancel_le (c := x + 1) (by grind) ?_
    have m := Rat.mul_le_mul_of_nonneg_right k1 (show 0 ≤ (y + 1) * (y + 1) * (x + 1) from Rat.mul_nonneg (Rat.mul_nonneg (by grind) (by grind)) (by grind))
    have r1 : X * (1 - -b * -b) * ((y + 1) * (y + 1) * (x + 1)) = X * (x + 1) * ((1 - b * b) * ((y + 1) * (y + 1))) := by grind
    have r2 : (-b - -a) * ((y + 1) * (y + 1) * (x + 1)) = (y + 1) * ((a - b) * ((x + 1) * (y + 1))) := by grind
    rw [r1, r2, e2, e3] at m
    have := Rat.mul_le_mul_of_nonneg_left (show y + 1 ≤ x + 1 by grind) d0
    grind
  · refine cancel_le (c := y + 1) (by grind) ?_
    have m := Rat.mul_le_mul_of_nonneg_right k2 (show 0 ≤ (x + 1) * (x + 1) * (y + 1) from Rat.mul_nonneg (Rat.mul_nonneg (by grind) (by grind)) (by grind))
    have r1 : X * (1 - -a * -a) * ((x + 1) * (x + 1) * (y + 1)) = X * (y + 1) * ((1 - a * a) * ((x + 1) * (x + 1))) := by grind
    have r2 : (-b - -a) * (1 - dl0) * ((x + 1) * (x + 1) * (y + 1)) = (1 - dl0) * (x + 1) * ((a - b) * ((x + 1) * (y + 1))) := by grind
    rw [r1, r2, e1, e3] at m
    have := Rat.mul_le_mul_of_nonneg_left (show y + 1 ≤ x + 1 by grind) (Rat.mul_nonneg d0 (show 0 ≤ 1 - dl0 by grind))
    grind
/-- On the whole. -/
theorem f_all {x y : Rat} (hy : 3 / 4 ≤ y) (h : y ≤ x) (hx : x ≤ 3 / 2) : 0 ≤ FM x - FM y ∧ (FM x - FM y) * y ≤ x - y ∧ (x - y) * (1 - dl0) ≤ (FM x - FM y) * x := by
  rcases (show 1 ≤ y ∨ y < 1 by grind) with h1 | h1
  · exact f_above h1 h hx
  · rcases (show x ≤ 1 ∨ 1 < x by grind) with h2 | h2
    · exact f_under hy h h2
    · obtain ⟨a0, a1, a2⟩ := f_above (x := x) (y := 1) Rat.le_refl (by grind) hx
      obtain ⟨b0, b1, b2⟩ := f_under (x := 1) (y := y) hy (by grind) Rat.le_refl
      have hdl := dl0_bd
      have e : FM x - FM y = (FM x - FM 1) + (FM 1 - FM y) := by grind
      rw [e]
      generalize FM x - FM 1 = A at *
      generalize FM 1 - FM y = B at *
      refine ⟨by grind, ?_, ?_⟩
      · have := Rat.mul_le_mul_of_nonneg_left (show y ≤ 1 by grind) (show 0 ≤ A from a0)
        grind
      · have m := Rat.mul_le_mul_of_nonneg_left (show 1 ≤ x by grind) (show 0 ≤ B from b0)
        grind
/-- One number in two forms. -/
def ep0 : Rat := two (-50)
theorem cross : FM (3 / 2) - (ln2Q + FM (3 / 4)) ≤ ep0 ∧ ln2Q + FM (3 / 4) - FM (3 / 2) ≤ ep0 ∧ dl0 ≤ ep0 := by refine ⟨?_, ?_, ?_⟩ <;> decide +kernel
end Go.Proofs.Ytiejljlmbpgbiaa
