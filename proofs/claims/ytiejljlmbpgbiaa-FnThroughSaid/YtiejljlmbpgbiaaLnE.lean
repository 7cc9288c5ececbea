/- The logarithm as a function of rationals, and how far from it the computed one is. Plain; conditions: what each theorem names. -/
import Derived.Test.YtiejljlmbpgbiaaLnR
import Derived.Test.YtiejljlmbpgbiaaLgS
namespace Go.Proofs.Ytiejljlmbpgbiaa
open Ieee
set_option maxRecDepth 100000
set_option linter.unusedVariables false
set_option linter.unusedSimpArgs false

theorem near64 (e : Int) (he : loK .f64 ≤ e) {x r : Rat} (h : Rnd .f64 x r) (h1 : -two (e + 53) < x) (h2 : x < two (e + 53)) : r ≤ x + two e ∧ x ≤ r + two e := by
  have t : e + (pB .f64 : Int) + 1 = e + 53 := by have : (pB .f64 : Int) = 52 := rfl; omega
  by_cases h0 : 0 ≤ x
  · exact h.grid h0 e he (by rw [t]; exact h2)
  · have := h.neg.grid (by grind) e he (by rw [t]; grind)
    constructor <;> grind
theorem near32 (e : Int) (he : loK .f32 ≤ e) {x r : Rat} (h : Rnd .f32 x r) (h1 : -two (e + 24) < x) (h2 : x < two (e + 24)) : r ≤ x + two e ∧ x ≤ r + two e := by
  have t : e + (pB .f32 : Int) + 1 = e + 24 := by have : (pB .f32 : Int) = 23 := rfl; omega
  by_cases h0 : 0 ≤ x
  · exact h.grid h0 e he (by rw [t]; exact h2)
  · have := h.neg.grid (by grind) e he (by rw [t]; grind)
    constructor <;> grind
/-- a and b are no more than d apart. -/
def Ab (d a b : Rat) : Prop := a ≤ b + d ∧ b ≤ a + d
theorem Ab.more {d d' a b : Rat} (h : Ab d a b) (hd : d ≤ d') : Ab d' a b := by
  obtain ⟨h1, h2⟩ := h; constructor <;> grind
theorem Ab.trans {d d' a b c : Rat} (h : Ab d a b) (h' : Ab d' b c) : Ab (d + d') a c := by
  obtain ⟨h1, h2⟩ := h; obtain ⟨h3, h4⟩ := h'; constructor <;> grind
theorem Ab.symm {d a b : Rat} (h : Ab d a b) : Ab d b a := ⟨h.2, h.1⟩
/-- Products of near numbers. -/
theorem Ab.mul {d d' a a' b b' A B : Rat} (h : Ab d a a') (h' : Ab d' b b') (hA : -A ≤ a ∧ a ≤ A) (hB : -B ≤ b' ∧ b' ≤ B) (d0 : 0 ≤ d) (d0' : 0 ≤ d') : Ab (A * d' + B * d) (a * b) (a' * b') := by
  obtain ⟨h1, h2⟩ := h; obtain ⟨h3, h4⟩ := h'; obtain ⟨a1, a2⟩ := hA; obtain ⟨b1, b2⟩ := hB
  -- a b - a' b' = a (b - b') + (a - a') b'
  have p1 : a * (b - b') ≤ A * d' ∧ -(A * d') ≤ a * (b - b') := by
    have k1 := Rat.mul_nonneg (show 0 ≤ A - a by grind) (show 0 ≤ d' - (b - b') by grind)
    have k2 := Rat.mul_nonneg (show 0 ≤ A + a by grind) (show 0 ≤ d' + (b - b') by grind)
    have k3 := Rat.mul_nonneg (show 0 ≤ A - a by grind) (show 0 ≤ d' + (b - b') by grind)
    have k4 := Rat.mul_nonneg (show 0 ≤ A + a by grind) (show 0 ≤ d' - (b - b') by grind)
    constructor <;> grind
  have p2 : (a - a') * b' ≤ B * d ∧ -(B * d) ≤ (a - a') * b' := by
    have k1 := Rat.mul_nonneg (show 0 ≤ B - b' by grind) (show 0 ≤ d - (a - a') by grind)
    have k2 := Rat.mul_nonneg (show 0 ≤ B + b' by grind) (show 0 ≤ d + (a - a') by grind)
    have k3 := Rat.mul_nonneg (show 0 ≤ B - b' by grind) (show 0 ≤ d + (a - a') by grind)
    have k4 := Rat.mul_nonneg (show 0 ≤ B + b' by grind) (show 0 ≤ d - (a - a') by grind)
    constructor <;> grind
  constructor <;> grind
/-- The series by Horner's way. -/
def HQ (u : Rat) : Nat → Rat
  | 0 => 0
  | j + 1 => 1 / ((25 - 2 * (j : Int) : Int) : Rat) + u * HQ u j
def HS (u : Rat) : Nat → Rat
  | 0 => 0
  | i + 1 => HS u i + pw u i / (2 * (i : Rat) + 1)
theorem p_hs (s : Rat) (n : Nat) : P13 s n = s * HS (s * s) n := by
  induction n with
  | zero => show (0 : Rat) = s * 0; grind
  | succ n ih =>
    show P13 s n + pw (s * s) n * s / (2 * (n : Rat) + 1) = s * (HS (s * s) n + pw (s * s) n / (2 * (n : Rat) + 1))
    rw [ih, Rat.div_def, Rat.div_def]; grind
theorem h_tel (u : Rat) (j : Nat) (hj : j ≤ 13) : pw u (13 - j) * HQ u j + HS u (13 - j) = HS u 13 := by
  induction j with
  | zero => show pw u 13 * 0 + HS u 13 = HS u 13; grind
  | succ j ih =>
    have ih := ih (by omega)
    obtain ⟨n, hn⟩ : ∃ n, 13 - (j + 1) = n := ⟨_, rfl⟩
    have h1 : 13 - j = n + 1 := by omega
    rw [h1] at ih
    rw [hn, ← ih]
    have e : ((25 - 2 * (j : Int) : Int) : Rat) = 2 * (n : Rat) + 1 := by
      rw [show (25 - 2 * (j : Int)) = 2 * (n : Int) + 1 by omega, Rat.intCast_add, Rat.intCast_mul]; rfl
    show pw u n * (1 / ((25 - 2 * (j : Int) : Int) : Rat) + u * HQ u j) + HS u n = pw u n * u * HQ u j + (HS u n + pw u n / (2 * (n : Rat) + 1))
    rw [e, Rat.div_def, Rat.div_def]; grind
theorem h_all (u : Rat) : HQ u 13 = HS u 13 := by
  have := h_tel u 13 (Nat.le_refl _)
  have e : pw u (13 - 13) * HQ u 13 + HS u (13 - 13) = 1 * HQ u 13 + 0 := rfl
  rw [e] at this; grind
theorem hq_bd {u : Rat} (h0 : 0 ≤ u) (h1 : u ≤ 11 / 128) (j : Nat) (hj : j ≤ 13) : 0 ≤ HQ u j ∧ HQ u j ≤ 3 / 2 := by
  induction j with
  | zero => exact ⟨by show (0:Rat) ≤ 0; grind, by show (0:Rat) ≤ 3/2; decide +kernel⟩
  | succ j ih =>
    obtain ⟨a, b⟩ := ih (by omega)
    have hge : (1 : Rat) ≤ ((25 - 2 * (j : Int) : Int) : Rat) := by
      rw [show (1 : Rat) = ((1 : Int) : Rat) from rfl, Rat.intCast_le_intCast]; omega
    have c0 : 0 ≤ 1 / ((25 - 2 * (j : Int) : Int) : Rat) := le_div_of (by grind) (by grind)
    have c1 : 1 / ((25 - 2 * (j : Int) : Int) : Rat) ≤ 1 := div_le_of (by grind) (by grind)
    have k0 := Rat.mul_nonneg h0 a
    have k1 := Rat.mul_le_mul_of_nonneg_right h1 a
    show 0 ≤ 1 / ((25 - 2 * (j : Int) : Int) : Rat) + u * HQ u j ∧ 1 / ((25 - 2 * (j : Int) : Int) : Rat) + u * HQ u j ≤ 3 / 2
    constructor <;> grind
/-- The words of the series are near the series. -/
theorem lq_near {w : Nat} {U u : Rat} (hw : Num .f64 w U) (hb : Bd (-2) U) (U0 : 0 ≤ U) (U1 : U ≤ 11 / 128) (u0 : 0 ≤ u) (u1 : u ≤ 11 / 128) (hu : Ab (two (-50)) U u) (j : Nat) (hj : j ≤ 13) :
    ∃ q, Num .f64 (lQ w j) q ∧ Bd 1 q ∧ 0 ≤ q ∧ Ab (two (-48)) q (HQ u j) := by
  have t : two (-50) = 8 * two (-53) ∧ two (-48) = 32 * two (-53) ∧ two (-52) = 2 * two (-53) := by refine ⟨?_, ?_, ?_⟩ <;> decide +kernel
  have tp := two_pos (-53)
  have t1 : two (-53) ≤ 1 / 1000 := by decide +kernel
  induction j with
  | zero =>
    refine ⟨0, num_zero .f64, by unfold Bd; have := two_pos 1; constructor <;> grind, by decide, ?_⟩
    show Ab _ 0 0
    unfold Ab
    constructor <;> grind
  | succ j ih =>
    obtain ⟨q, nq, bq, q0, aq⟩ := ih (by omega)
    obtain ⟨h0, h1⟩ := hq_bd u0 u1 j (by omega)
    obtain ⟨-, -, -, c, M, q', rc, rM, rq, hq'⟩ := lq_step hw hb j (by omega) nq bq
    obtain ⟨q'', n2, b2, p2⟩ := lq_nonneg hw hb U0 (j + 1) hj
    have : q'' = q' := n2.unique hq'
    subst this
    refine ⟨q'', n2, b2, p2, ?_⟩
    have hge : (1 : Rat) ≤ ((25 - 2 * (j : Int) : Int) : Rat) := by
      rw [show (1 : Rat) = ((1 : Int) : Rat) from rfl, Rat.intCast_le_intCast]; omega
    have c0 : 0 ≤ 1 / ((25 - 2 * (j : Int) : Int) : Rat) := le_div_of (by grind) (by grind)
    have c1 : 1 / ((25 - 2 * (j : Int) : Int) : Rat) ≤ 1 := div_le_of (by grind) (by grind)
    have q2 : q ≤ 2 := by have := bq.2; rw [show two 1 = 2 from rfl] at this; exact this
    have m0 := Rat.mul_nonneg U0 q0
    have m1 := Rat.mul_le_mul_of_nonneg_right U1 q0
    have t0' : two (-53 + 53) = 1 := rfl
    have t1' : two (-52 + 53) = 2 := by decide +kernel
    have ec := near64 (-52) (by decide) rc (by rw [t1']; grind) (by rw [t1']; grind)
    have eM := near64 (-53) (by decide) rM (by rw [t0']; grind) (by rw [t0']; grind)
    have eq := near64 (-52) (by decide) rq (by rw [t1']; grind) (by rw [t1']; grind)
    have aq2 : Ab (11 / 128 * two (-48) + 3 / 2 * two (-50)) (U * q) (u * HQ u j) := Ab.mul hu aq ⟨by grind, by grind⟩ ⟨by grind, by grind⟩ (Rat.le_of_lt (two_pos _)) (Rat.le_of_lt (two_pos _))
    unfold Ab at aq2 ⊢
    show q'' ≤ 1 / ((25 - 2 * (j : Int) : Int) : Rat) + u * HQ u j + _ ∧ 1 / ((25 - 2 * (j : Int) : Int) : Rat) + u * HQ u j ≤ q'' + _
    generalize u * HQ u j = Z at *
    generalize U * q = Y at *
    generalize 1 / ((25 - 2 * (j : Int) : Int) : Rat) = C at *
    constructor <;> grind
/-- The quotient is near its exact value. -/
theorem s_near {x : Nat} {X X1 X2 S U : Rat} (h : LgV x X X1 X2 S U) (h1 : 3 / 4 ≤ X) (h2 : X ≤ 3 / 2) : Ab (two (-51)) S (sM X) ∧ Ab (two (-50)) U (sM X * sM X) := by
  obtain ⟨s1, s2, s3, s4, u0, u1⟩ := s_small h h1 h2
  have t1' : two (-52 + 53) = 2 := by decide +kernel
  have t2' : two (-51 + 53) = 4 := by decide +kernel
  have tm : two (-54 + 53) = 1 / 2 := by decide +kernel
  have t : two (-51) = 8 * two (-54) ∧ two (-52) = 4 * two (-54) ∧ two (-50) = 16 * two (-54) ∧ two (-53) = 2 * two (-54) := by refine ⟨?_, ?_, ?_, ?_⟩ <;> decide +kernel
  have tp := two_pos (-54)
  have t3 : two (-54) ≤ 1 / 1000 := by decide +kernel
  have e2 := near64 (-51) (by decide) h.r2 (by rw [t2']; grind) (by rw [t2']; grind)
  have e1 : Ab (two (-53)) X1 (X - 1) := by
    have t0' : two (-53 + 53) = 1 := rfl
    exact near64 (-53) (by decide) h.r1 (by rw [t0']; grind) (by rw [t0']; grind)
  have x2 : 7 / 4 - 8 * two (-54) ≤ X2 := by grind
  have x2p : 0 < X2 := by grind
  have hsm := s_eq (m := X) (by grind)
  have sb1 := s_top (x := X) (by grind) h2
  have sb2 := s_bot h1
  -- the exact quotient of the words
  have hq := Rat.div_mul_cancel (a := X1) (b := X2) (by grind)
  obtain ⟨Q, hQ⟩ : ∃ Q, X1 / X2 = Q := ⟨_, rfl⟩
  have r3 := h.r3
  rw [hQ] at hq r3
  have dq : Ab (5 / 2 * two (-54)) Q (sM X) := by
    -- (Q - s) X2 = X1 - (X - 1) - s (X2 - (X + 1))
    have k : (Q - sM X) * X2 = (X1 - (X - 1)) - sM X * (X2 - (X + 1)) := by grind
    have m1 := Rat.mul_nonneg (show 0 ≤ 1 / 5 - sM X by grind) (show 0 ≤ two (-51) - (X2 - (X + 1)) by grind)
    have m2 := Rat.mul_nonneg (show 0 ≤ 1 / 5 + sM X by grind) (show 0 ≤ two (-51) + (X2 - (X + 1)) by grind)
    have m3 := Rat.mul_nonneg (show 0 ≤ 1 / 5 - sM X by grind) (show 0 ≤ two (-51) + (X2 - (X + 1)) by grind)
    have m4 := Rat.mul_nonneg (show 0 ≤ 1 / 5 + sM X by grind) (show 0 ≤ two (-51) - (X2 - (X + 1)) by grind)
    obtain ⟨e11, e12⟩ := e1
    have b1 : (Q - sM X) * X2 ≤ 18 / 5 * two (-54) := by grind
    have b2 : -(18 / 5 * two (-54)) ≤ (Q - sM X) * X2 := by grind
    have b3 : 18 / 5 * two (-54) ≤ 5 / 2 * two (-54) * X2 := by
      have := Rat.mul_le_mul_of_nonneg_left x2 (show 0 ≤ 5 / 2 * two (-54) by grind)
      have t54 : two (-54) * two (-54) ≤ two (-54) * (1 / 1000) := Rat.mul_le_mul_of_nonneg_left t3 (Rat.le_of_lt tp)
      grind
    constructor
    · have := le_mul_cancel (a := Q - sM X) (b := 5 / 2 * two (-54)) x2p
      have := this.1 (by grind); grind
    · have := le_mul_cancel (a := -(5 / 2 * two (-54))) (b := Q - sM X) x2p
      have := this.1 (by grind); grind
  have es := near64 (-54) (by decide) r3 (by rw [tm]; obtain ⟨a, b⟩ := dq; grind) (by rw [tm]; obtain ⟨a, b⟩ := dq; grind)
  have hS : Ab (two (-51)) S (sM X) := by obtain ⟨a, b⟩ := dq; constructor <;> grind
  refine ⟨hS, ?_⟩
  have hSS : Ab (37 / 128 * two (-51) + 1 / 5 * two (-51)) (S * S) (sM X * sM X) := Ab.mul hS hS ⟨s1, s2⟩ ⟨sb2, sb1⟩ (Rat.le_of_lt (two_pos _)) (Rat.le_of_lt (two_pos _))
  have ss : S * S ≤ 11 / 128 := by
    have k1 := Rat.mul_nonneg (show 0 ≤ 37 / 128 - S by grind) (show 0 ≤ 37 / 128 + S by grind)
    grind
  have ss0 : 0 ≤ S * S := by
    by_cases hs : 0 ≤ S
    · exact Rat.mul_nonneg hs hs
    · have := Rat.mul_nonneg (show 0 ≤ -S by grind) (show 0 ≤ -S by grind); grind
  have eu := near64 (-54) (by decide) h.r4 (by rw [tm]; grind) (by rw [tm]; grind)
  obtain ⟨a, b⟩ := hSS
  constructor <;> grind
theorem ss_bd {s : Rat} (h1 : -(1 / 5) ≤ s) (h2 : s ≤ 1 / 5) : 0 ≤ s * s ∧ s * s ≤ 11 / 128 := by
  have k1 := Rat.mul_nonneg (show 0 ≤ 1 / 5 - s by grind) (show 0 ≤ 1 / 5 + s by grind)
  refine ⟨?_, by grind⟩
  by_cases hs : 0 ≤ s
  · exact Rat.mul_nonneg hs hs
  · have := Rat.mul_nonneg (show 0 ≤ -s by grind) (show 0 ≤ -s by grind); grind
theorem exp_bd {E : Int} {X a : Rat} (hs : a = X * two E) (g1 : 3 / 4 ≤ X) (g2 : X ≤ 3 / 2) (h1 : two (-25) ≤ a) (h2 : a ≤ two 25) : -26 ≤ E ∧ E ≤ 26 := by
  have te := two_pos E
  constructor
  · refine Int.not_lt.1 fun hn => ?_
    have t1 := two_le (show E ≤ -27 by omega)
    have k1 := Rat.mul_le_mul_of_nonneg_right g2 (Rat.le_of_lt te)
    have k2 : two (-25) = 4 * two (-27) := by decide +kernel
    have := two_pos (-27)
    clear hn
    generalize two E = s at *
    generalize two (-27) = t at *
    grind
  · refine Int.not_lt.1 fun hn => ?_
    have t1 := two_le (show 27 ≤ E by omega)
    have k1 := Rat.mul_le_mul_of_nonneg_right g1 (Rat.le_of_lt te)
    have k2 : two 27 = 4 * two 25 := by decide +kernel
    have := two_pos 25
    clear hn
    generalize two E = s at *
    generalize two 25 = t at *
    grind
theorem lg_sum {Y Z p p2 p3 r w : Rat} (aP : Ab (37 / 128 * two (-48) + 3 / 2 * two (-51)) Y Z) (pb : -(11 / 20) ≤ Z ∧ Z ≤ 11 / 20) (el : -26 ≤ w ∧ w ≤ 26) (rp : Rnd .f64 Y p) (rp2 : Rnd .f64 (2 * p) p2) (rp3 : Rnd .f64 w p3) (rr : Rnd .f64 (p2 + p3) r) : Ab (two (-40)) r (w + 2 * Z) := by
  have t : two (-40) = 2048 * two (-51) ∧ two (-48) = 8 * two (-51) ∧ two (-46) = 32 * two (-51) ∧ two (-52) * 2 = two (-51) := by refine ⟨?_, ?_, ?_, ?_⟩ <;> decide +kernel
  have tp := two_pos (-51)
  have t3 : two (-51) ≤ 1 / 10000 := by decide +kernel
  have q1 : two (-52 + 53) = 2 := by decide +kernel
  have q2 : two (-46 + 53) = 128 := by decide +kernel
  obtain ⟨ap1, ap2⟩ := aP
  have c1 := near64 (-52) (by decide) rp (by rw [q1]; grind) (by rw [q1]; grind)
  have c2 := near64 (-52) (by decide) rp2 (by rw [q1]; grind) (by rw [q1]; grind)
  have c3 := near64 (-46) (by decide) rp3 (by rw [q2]; grind) (by rw [q2]; grind)
  have c4 := near64 (-46) (by decide) rr (by rw [q2]; grind) (by rw [q2]; grind)
  constructor <;> grind
/-- The logarithm in 64 bits is near the exact one. -/
theorem lg_near {z : Nat} (h : PosW z) {a : Rat} (ha : Num .f64 z a) (h1 : two (-25) ≤ a) (h2 : a ≤ two 25) :
    ∃ E m r, Num .f64 (LG z) r ∧ a = two E * m ∧ 3 / 4 ≤ m ∧ m ≤ 3 / 2 ∧ -26 ≤ E ∧ E ≤ 26 ∧ Ab (two (-40)) r (Lx E m) := by
  have he := le_small h ha (Rat.le_trans (two_le (by decide)) h1) (Rat.le_trans h2 (two_le (by decide)))
  obtain ⟨X, hX, g1, g2⟩ := lr_num h
  have hs := val_split h (by omega) ha hX
  obtain ⟨X1, X2, S, U, hv⟩ := lg_vals hX g1 g2
  obtain ⟨s1, s2, s3, s4, u0, u1⟩ := s_small hv g1 g2
  obtain ⟨aS, aU⟩ := s_near hv g1 g2
  have X0 : 0 < X := Rat.not_le.1 fun hn => absurd (Rat.le_trans g1 hn) (by decide +kernel)
  have sb1 := s_top X0 g2
  have sb2 := s_bot g1
  obtain ⟨v0, v1⟩ := ss_bd sb2 sb1
  obtain ⟨q, nq, bq, q0, aq⟩ := lq_near hv.n4 hv.b4 u0 u1 v0 v1 aU 13 (Nat.le_refl _)
  obtain ⟨k0, k1⟩ := hq_bd v0 v1 13 (Nat.le_refl _)
  obtain ⟨E1, E2⟩ := exp_bd hs g1 g2 h1 h2
  obtain ⟨-, -, -, -, p, p2, p3, r, rp, rp2, rp3, rr, hr, -⟩ := lg_end hv nq bq (lE z) (by omega)
  refine ⟨lE z, X, r, hr, by rw [hs, Rat.mul_comm], g1, g2, E1, E2, ?_⟩
  clear hr hs he h hX hv nq ha
  generalize lE z = E at *
  have hF : FM X = 2 * (sM X * HQ (sM X * sM X) 13) := by unfold FM; rw [p_hs, h_all]
  have aP : Ab (37 / 128 * two (-48) + 3 / 2 * two (-51)) (S * q) (sM X * HQ (sM X * sM X) 13) := Ab.mul aS aq ⟨s1, s2⟩ ⟨by grind, k1⟩ (Rat.le_of_lt (two_pos _)) (Rat.le_of_lt (two_pos _))
  have pb : -(11 / 20) ≤ sM X * HQ (sM X * sM X) 13 ∧ sM X * HQ (sM X * sM X) 13 ≤ 11 / 20 := by
    have k2 := Rat.mul_le_mul_of_nonneg_right sb1 k0
    have k3 := Rat.mul_le_mul_of_nonneg_right sb2 k0
    constructor <;> grind
  have l0 : 0 ≤ ln2Q := by decide +kernel
  have l1 : ln2Q ≤ 1 := by decide +kernel
  have E1 : (-26 : Rat) ≤ (E : Rat) := by rw [show (-26 : Rat) = ((-26 : Int) : Rat) from rfl, Rat.intCast_le_intCast]; exact E1
  have E2 : (E : Rat) ≤ 26 := by rw [show (26 : Rat) = ((26 : Int) : Rat) from rfl, Rat.intCast_le_intCast]; exact E2
  have el : -26 ≤ (E : Rat) * ln2Q ∧ (E : Rat) * ln2Q ≤ 26 := by
    have m1 := Rat.mul_le_mul_of_nonneg_right E1 l0
    have m2 := Rat.mul_le_mul_of_nonneg_right E2 l0
    constructor <;> grind
  have := lg_sum aP pb el rp rp2 rp3 rr
  unfold Lx
  rw [hF, Rat.mul_comm ln2Q]
  exact this
end Go.Proofs.Ytiejljlmbpgbiaa
