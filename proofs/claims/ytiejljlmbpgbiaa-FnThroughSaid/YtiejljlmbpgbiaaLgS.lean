/- The signs of the logarithm, and how small it is at least. Plain; conditions: what each theorem names. -/
import Derived.Test.YtiejljlmbpgbiaaLgP
import Derived.Test.YtiejljlmbpgbiaaCotP
namespace Go.Proofs.Ytiejljlmbpgbiaa
open Ieee
set_option maxRecDepth 100000
set_option linter.unusedVariables false
set_option linter.unusedSimpArgs false

/-- A positive word is what is left times a power of two. -/
theorem val_split {z : Nat} (h : PosW z) (he : (lE z).natAbs ≤ 200) {a X : Rat} (ha : Num .f64 z a) (hX : Num .f64 (lR z) X) : a = X * two (lE z) := by
  obtain ⟨h1, h2⟩ := lr_bd z
  have hp : PosW (lR z) := by unfold PosW; omega
  have e1 := (pos_val h).unique ha
  have e2 := (pos_val hp).unique hX
  have hz := h.1
  have hm : lR z % 2 ^ 52 = z % 2 ^ 52 := by
    have := lr_eq z
    omega
  have hd : ((lR z / 2 ^ 52 : Nat) : Int) = ((z / 2 ^ 52 : Nat) : Int) - lE z := by
    have := lr_eq z
    omega
  rw [← e1, ← e2, hm, Rat.mul_assoc, ← two_add]
  have k1 : 1 ≤ z / 2 ^ 52 := by omega
  have k2 : 1 ≤ lR z / 2 ^ 52 := by omega
  have k3 : (-1074 : Int) + ((z / 2 ^ 52 - 1 : Nat) : Int) = -1074 + ((lR z / 2 ^ 52 - 1 : Nat) : Int) + lE z := by omega
  rw [k3]
theorem rep_128 (m : Nat) (h : m < 2 ^ 20) : Rep .f64 ((m : Rat) * two (-7)) := ⟨m, -7, by have : 2 * binK .f64 = 2 ^ 53 := rfl; omega, by decide, .inl rfl⟩
theorem t7 : two (-7) = 1 / 128 := by decide +kernel
theorem div_le_of {a b c : Rat} (hb : 0 < b) (h : a ≤ c * b) : a / b ≤ c := by
  have h0 := Rat.div_mul_cancel (a := a) (b := b) (by grind)
  refine Rat.not_lt.1 fun hn => ?_
  have := Rat.mul_lt_mul_of_pos_right hn hb
  grind
theorem le_div_of {a b c : Rat} (hb : 0 < b) (h : c * b ≤ a) : c ≤ a / b := by
  have h0 := Rat.div_mul_cancel (a := a) (b := b) (by grind)
  refine Rat.not_lt.1 fun hn => ?_
  have := Rat.mul_lt_mul_of_pos_right hn hb
  grind
/-- The quotient, small and of its sign. -/
theorem s_small {x : Nat} {X X1 X2 S U : Rat} (h : LgV x X X1 X2 S U) (h1 : 3 / 4 ≤ X) (h2 : X ≤ 3 / 2) :
    -(37 / 128) ≤ S ∧ S ≤ 37 / 128 ∧ (X ≤ 1 → S ≤ 0) ∧ (1 ≤ X → 0 ≤ S) ∧ 0 ≤ U ∧ U ≤ 11 / 128 := by
  have a1 : X2 ≥ 7 / 4 := by
    have := h.r2.dn (((224 : Nat) : Rat) * two (-7)) (rep_128 _ (by decide)) (by rw [t7]; grind)
    rw [t7] at this; grind
  have a2 : X1 ≤ 1 / 2 := by
    have := h.r1.up (((64 : Nat) : Rat) * two (-7)) (rep_128 _ (by decide)) (by rw [t7]; grind)
    rw [t7] at this; grind
  have a3 : -(1 / 4) ≤ X1 := by
    have := h.r1.dn (-(((32 : Nat) : Rat) * two (-7))) (rep_128 _ (by decide)).neg (by rw [t7]; grind)
    rw [t7] at this; grind
  have p2 : 0 < X2 := by grind
  have s1 : S ≤ 37 / 128 := by
    have := h.r3.up (((37 : Nat) : Rat) * two (-7)) (rep_128 _ (by decide)) (by
      rw [t7]; exact div_le_of p2 (by grind))
    rw [t7] at this; grind
  have s2 : -(37 / 128) ≤ S := by
    have := h.r3.dn (-(((37 : Nat) : Rat) * two (-7))) (rep_128 _ (by decide)).neg (by
      rw [t7]; exact le_div_of p2 (by grind))
    rw [t7] at this; grind
  have ss : S * S ≤ 11 / 128 := by
    have k1 := Rat.mul_nonneg (show 0 ≤ 37 / 128 - S by grind) (show 0 ≤ 37 / 128 + S by grind)
    grind
  have s0 : 0 ≤ S * S := by
    by_cases hs : 0 ≤ S
    · exact Rat.mul_nonneg hs hs
    · have := Rat.mul_nonneg (show 0 ≤ -S by grind) (show 0 ≤ -S by grind); grind
  refine ⟨s2, s1, fun hx => ?_, fun hx => ?_, h.r4.nonneg s0, ?_⟩
  · exact h.r3.nonpos (div_le_of p2 (by have := h.r1.nonpos (by grind); grind))
  · exact h.r3.nonneg (le_div_of p2 (by have := h.r1.nonneg (by grind); grind))
  · have := h.r4.up (((11 : Nat) : Rat) * two (-7)) (rep_128 _ (by decide)) (by rw [t7]; grind)
    rw [t7] at this; grind
/-- The series is not below nought, and at its end little above one. -/
theorem lq_nonneg {u : Nat} {U : Rat} (hu : Num .f64 u U) (hb : Bd (-2) U) (h0 : 0 ≤ U) (j : Nat) (hj : j ≤ 13) : ∃ q, Num .f64 (lQ u j) q ∧ Bd 1 q ∧ 0 ≤ q := by
  induction j with
  | zero => exact ⟨0, num_zero .f64, by unfold Bd; have := two_pos 1; constructor <;> grind, by decide⟩
  | succ j ih =>
    obtain ⟨q, h1, h2, h3⟩ := ih (by omega)
    obtain ⟨-, -, -, c, M, q', rc, rM, rq, hq'⟩ := lq_step hu hb j (by omega) h1 h2
    obtain ⟨q'', n2, b2⟩ := lq_num hu hb (j + 1) hj
    have : q'' = q' := n2.unique hq'
    subst this
    refine ⟨q'', n2, b2, rq.nonneg ?_⟩
    have c0 : 0 ≤ c := rc.nonneg (by
      have hge : (1 : Rat) ≤ ((25 - 2 * (j : Int) : Int) : Rat) := by
        rw [show (1 : Rat) = ((1 : Int) : Rat) from rfl, Rat.intCast_le_intCast]; omega
      exact le_div_of (by grind) (by grind))
    have m0 : 0 ≤ M := rM.nonneg (Rat.mul_nonneg h0 h3)
    grind
theorem lq_end {u : Nat} {U : Rat} (hu : Num .f64 u U) (hb : Bd (-2) U) (h0 : 0 ≤ U) (h1 : U ≤ 11 / 128) : ∃ q, Num .f64 (lQ u 13) q ∧ Bd 1 q ∧ 0 ≤ q ∧ q ≤ 151 / 128 := by
  obtain ⟨q, n1, b1, p1⟩ := lq_nonneg hu hb h0 12 (by decide)
  obtain ⟨-, -, -, c, M, q', rc, rM, rq, hq'⟩ := lq_step hu hb 12 (by decide) n1 b1
  obtain ⟨q'', n2, b2, p2⟩ := lq_nonneg hu hb h0 13 (by decide)
  have : q'' = q' := n2.unique hq'
  subst this
  refine ⟨q'', n2, b2, p2, ?_⟩
  have hc : c ≤ 1 := by
    have := rc.up (((128 : Nat) : Rat) * two (-7)) (rep_128 _ (by decide)) (by rw [t7]; decide +kernel)
    rw [t7] at this; grind
  have hM : M ≤ 22 / 128 := by
    have := rM.up (((22 : Nat) : Rat) * two (-7)) (rep_128 _ (by decide)) (by
      rw [t7]
      obtain ⟨-, bb⟩ := b1
      rw [show two 1 = 2 from rfl] at bb
      have k1 := Rat.mul_le_mul_of_nonneg_right h1 p1
      grind)
    rw [t7] at this; grind
  have := rq.up (((151 : Nat) : Rat) * two (-7)) (rep_128 _ (by decide)) (by rw [t7]; grind)
  rw [t7] at this; grind
/-- The part of the logarithm that the series tells. -/
structure LgW (z : Nat) (E : Int) (X p2 p3 r : Rat) : Prop where
  x1 : 3 / 4 ≤ X
  x2 : X ≤ 3 / 2
  a1 : -(88 / 128) ≤ p2
  a2 : p2 ≤ 88 / 128
  a3 : X ≤ 1 → p2 ≤ 0
  a4 : 1 ≤ X → 0 ≤ p2
  r3 : Rnd .f64 ((E : Rat) * ln2Q) p3
  rr : Rnd .f64 (p2 + p3) r
  n : Num .f64 (LG z) r
  b : Bd 9 r
theorem lg_w {z : Nat} (h : PosW z) (he : (lE z).natAbs ≤ 150) {a : Rat} (ha : Num .f64 z a) : ∃ E X p2 p3 r, LgW z E X p2 p3 r ∧ a = X * two E ∧ E.natAbs ≤ 150 := by
  obtain ⟨X, hX, g1, g2⟩ := lr_num h
  obtain ⟨X1, X2, S, U, hv⟩ := lg_vals hX g1 g2
  obtain ⟨s1, s2, s3, s4, u0, u1⟩ := s_small hv g1 g2
  obtain ⟨q, hq, hqb, q0, q1⟩ := lq_end hv.n4 hv.b4 u0 u1
  obtain ⟨-, -, -, -, p, p2, p3, r, rp, rp2, rp3, rr, hr, hrb⟩ := lg_end hv hq hqb (lE z) (by omega)
  have k1 : S * q ≤ 44 / 128 := by
    have k1 := Rat.mul_le_mul_of_nonneg_right s2 q0
    grind
  have k2 : -(44 / 128) ≤ S * q := by
    have k1 := Rat.mul_le_mul_of_nonneg_right s1 q0
    grind
  have p1 : p ≤ 44 / 128 := by
    have := rp.up (((44 : Nat) : Rat) * two (-7)) (rep_128 _ (by decide)) (by rw [t7]; grind)
    rw [t7] at this; grind
  have p1' : -(44 / 128) ≤ p := by
    have := rp.dn (-(((44 : Nat) : Rat) * two (-7))) (rep_128 _ (by decide)).neg (by rw [t7]; grind)
    rw [t7] at this; grind
  refine ⟨lE z, X, p2, p3, r, ⟨g1, g2, ?_, ?_, fun hx => ?_, fun hx => ?_, rp3, rr, hr, hrb⟩, val_split h (by omega) ha hX, he⟩
  · have := rp2.dn (-(((88 : Nat) : Rat) * two (-7))) (rep_128 _ (by decide)).neg (by rw [t7]; grind)
    rw [t7] at this; grind
  · have := rp2.up (((88 : Nat) : Rat) * two (-7)) (rep_128 _ (by decide)) (by rw [t7]; grind)
    rw [t7] at this; grind
  · have e1 := rp.nonpos (by have := Rat.mul_nonneg (show 0 ≤ -S by have := s3 hx; grind) q0; grind)
    exact rp2.nonpos (by grind)
  · have e1 := rp.nonneg (Rat.mul_nonneg (s4 hx) q0)
    exact rp2.nonneg (by grind)
theorem rep_ln2 : Rep .f64 ln2Q := num_ln2.rep
theorem ln2_lo : 88 / 128 < ln2Q := by decide +kernel
theorem ln2_hi : ln2Q < 1 := by decide +kernel
theorem rep_ints (j : Nat) (h : j < 1000) (k : FloatKind) : Rep k (-(j : Rat)) := by
  have := rep_int k (-(j : Int)) (by have : 1000 < 2 * binK k := by cases k <;> decide
                                     omega)
  rwa [Rat.intCast_neg, Rat.intCast_natCast] at this
theorem two_m1 : two (-1) = 1 / 2 := by decide +kernel
theorem cast_m1 {i : Int} (h : i ≤ -1) : (i : Rat) ≤ -1 := by
  rw [show (-1 : Rat) = ((-1 : Int) : Rat) from rfl, Rat.intCast_le_intCast]; exact h
/-- The logarithm of what is not above one is not above nought. -/
theorem log_nonpos {x : Nat} {a : Rat} (h : Num .f32 x a) (h0 : 0 < a) (h1 : a ≤ 1) : ∃ l, Num .f32 (LOG x) l ∧ Bd 9 l ∧ l ≤ 0 := by
  obtain ⟨hp, he⟩ := up_pos h h0
  obtain ⟨E, X, p2, p3, r, w, hs, he'⟩ := lg_w hp he (up_o h).2
  clear he
  obtain ⟨g, l, n, rl⟩ := dn_o w.n (k0 := 9) (by decide) w.b
  refine ⟨l, n, rl.bd (by decide) w.b, rl.nonpos (w.rr.nonpos ?_)⟩
  have hx := w.x1
  have hE : E ≤ 0 := by
    refine Int.not_lt.1 fun hn => ?_
    have t1 := two_le (show (1 : Int) ≤ E by omega)
    rw [show two 1 = 2 from rfl] at t1
    have := Rat.mul_le_mul_of_nonneg_left t1 (show 0 ≤ X by grind)
    grind
  rcases Int.lt_or_eq_of_le hE with hE | hE
  · have c1 := cast_m1 (i := E) (by omega)
    have l0 := ln2_lo
    have := w.r3.up (-ln2Q) rep_ln2.neg (by
      have := Rat.mul_le_mul_of_nonneg_right c1 (show 0 ≤ ln2Q by grind)
      grind)
    have := w.a2
    grind
  · have h3 := w.r3
    rw [hE] at h3 hs
    rw [show two 0 = 1 from rfl] at hs
    have e3 : p3 ≤ 0 := h3.nonpos (by rw [show ((0 : Int) : Rat) = 0 from rfl]; grind)
    have := w.a3 (by grind)
    grind
/-- How small the logarithm is at least. -/
theorem log_least {x : Nat} {a : Rat} (h : Num .f32 x a) (j : Nat) (hj : j ≤ 120) (h0 : two (-j) ≤ a) : ∃ l, Num .f32 (LOG x) l ∧ -((j + 1 : Nat) : Rat) ≤ l := by
  obtain ⟨hp, he⟩ := up_pos h (by have := two_pos (-j); grind)
  obtain ⟨E, X, p2, p3, r, w, hs, he'⟩ := lg_w hp he (up_o h).2
  clear he
  obtain ⟨g, l, n, rl⟩ := dn_o w.n (k0 := 9) (by decide) w.b
  refine ⟨l, n, rl.dn _ (rep_ints (j + 1) (by omega) _) (w.rr.dn _ (rep_ints (j + 1) (by omega) _) ?_)⟩
  have hE : -(j : Int) ≤ E := by
    refine Int.not_lt.1 fun hn => ?_
    have t1 := two_le (show E ≤ -(j : Int) - 1 by omega)
    have k1 := Rat.mul_le_mul_of_nonneg_right w.x2 (Rat.le_of_lt (two_pos (E)))
    have k2 : two (-(j : Int) - 1) = two (-j) * (1 / 2) := by rw [show -(j : Int) - 1 = -(j : Int) + -1 by omega, two_add, two_m1]
    have := two_pos (-(j : Int))
    grind
  have c1 : -(j : Rat) ≤ (E : Rat) := by
    rw [← Rat.intCast_natCast, ← Rat.intCast_neg, Rat.intCast_le_intCast]; exact hE
  have l0 := ln2_lo
  have l1 := ln2_hi
  have j0 : (0 : Rat) ≤ (j : Rat) := Rat.natCast_nonneg
  have := w.r3.dn (-(j : Rat)) (rep_ints _ (by omega) _) (by
    have k1 := Rat.mul_le_mul_of_nonneg_right c1 (show 0 ≤ ln2Q by grind)
    have k2 := Rat.mul_le_mul_of_nonneg_left (show ln2Q ≤ 1 by grind) j0
    grind)
  have := w.a1
  rw [Rat.natCast_add, show ((1 : Nat) : Rat) = 1 from rfl]
  grind
/-- The logarithm of a half and more. -/
theorem log_half {x : Nat} {a : Rat} (h : Num .f32 x a) (h0 : 1 / 2 ≤ a) : ∃ l, Num .f32 (LOG x) l ∧ -lnbQ ≤ l := by
  obtain ⟨hp, he⟩ := up_pos h (by grind)
  obtain ⟨E, X, p2, p3, r, w, hs, he'⟩ := lg_w hp he (up_o h).2
  clear he
  obtain ⟨g, l, n, rl⟩ := dn_o w.n (k0 := 9) (by decide) w.b
  have lb : ln2Q ≤ lnbQ := by decide +kernel
  refine ⟨l, n, rl.dn _ num_lnb.rep.neg (Rat.le_trans (b := -ln2Q) (by grind) (w.rr.dn _ rep_ln2.neg ?_))⟩
  have l0 := ln2_lo
  have l1 := ln2_hi
  have hE : -1 ≤ E := by
    refine Int.not_lt.1 fun hn => ?_
    have t1 := two_le (show E ≤ -2 by omega)
    rw [show two (-2) = 1 / 4 by decide +kernel] at t1
    have k1 := Rat.mul_le_mul_of_nonneg_right w.x2 (Rat.le_of_lt (two_pos (E)))
    grind
  rcases Int.lt_or_eq_of_le hE with hE | hE
  · have c1 : (0 : Rat) ≤ (E : Rat) := by
      rw [show (0 : Rat) = ((0 : Int) : Rat) from rfl, Rat.intCast_le_intCast]; omega
    have := w.r3.nonneg (Rat.mul_nonneg c1 (by grind))
    have := w.a1
    grind
  · have h3 := w.r3
    rw [← hE] at h3 hs
    rw [two_m1] at hs
    have := h3.dn (-ln2Q) rep_ln2.neg (by rw [show ((-1 : Int) : Rat) = -1 from rfl]; grind)
    have := w.a4 (by grind)
    grind
end Go.Proofs.Ytiejljlmbpgbiaa
