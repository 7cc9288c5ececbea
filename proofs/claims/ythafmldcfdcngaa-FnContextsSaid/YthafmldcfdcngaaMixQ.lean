/- The mixture of chances and what is learned. Plain; conditions: what each theorem names. -/
import Derived.Test.YthafmldcfdcngaaMixP
namespace Go.Proofs.Ythafmldcfdcngaa
open Ieee
set_option maxRecDepth 100000
set_option linter.unusedVariables false
set_option linter.unusedSimpArgs false

theorem nearF (e : Int) (he : loK .f32 ≤ e) {x r : Rat} (h : Rnd .f32 x r) (h1 : -two (e + pB .f32 + 1) < x) (h2 : x < two (e + pB .f32 + 1)) : r ≤ x + two e ∧ x ≤ r + two e := by
  by_cases h0 : 0 ≤ x
  · exact h.grid h0 e he h2
  · have := h.neg.grid (by grind) e he (by grind)
    constructor <;> grind
theorem num_onef : Num .f32 1065353216 1 := ⟨false, 2 ^ 23, -23, by decide +kernel, by decide +kernel⟩
theorem num_eighth : Num .f32 1040187392 (1 / 8) := ⟨false, 2 ^ 23, -26, by decide +kernel, by decide +kernel⟩
/-- One over one and the exponential. -/
def mxW (s : Nat) : Nat := fdiv .f32 1065353216 (fadd .f32 1065353216 (EXw (fneg s)))
theorem rep32 (m : Nat) (e : Int) (h : m < 2 ^ 24) (he : -149 ≤ e) : Rep .f32 ((m : Rat) * two e) := ⟨m, e, by have : 2 * binK .f32 = 2 ^ 24 := rfl; omega, he, .inl rfl⟩
theorem inv_bd {A : Rat} (h1 : 1 ≤ A) : 0 < 1 / A ∧ 1 / A ≤ 1 := by
  have h0 := Rat.div_mul_cancel (a := 1) (b := A) (by grind)
  refine ⟨?_, div_le_of (by grind) (by grind)⟩
  refine Rat.not_le.1 fun hn => ?_
  have := Rat.mul_nonneg (show 0 ≤ -(1 / A) by grind) (show 0 ≤ A by grind)
  grind
theorem mx_num {s : Nat} {q : Rat} (h : Num .f32 s q) (h1 : -16 ≤ q) (h2 : q ≤ 16) : ExOk (fneg s) ∧ floatBits .add .f32 1065353216 (EXw (fneg s)) = some (fadd .f32 1065353216 (EXw (fneg s))) ∧ floatBits .quo .f32 1065353216 (fadd .f32 1065353216 (EXw (fneg s))) = some (mxW s) ∧
    ∃ r A m, Num .f32 (EXw (fneg s)) r ∧ 0 < r ∧ Rnd .f32 (1 + r) A ∧ 1 ≤ A ∧ Rnd .f32 (1 / A) m ∧ Num .f32 (mxW s) m ∧ two (-40) ≤ 1 / A ∧ 0 < m ∧ m ≤ 1 ∧ (q ≤ 11 → m < 1) := by
  obtain ⟨ok, r, nr, r0, r1, r2⟩ := ex_near (neg_num h) (by grind) (by grind)
  have tp := two_pos (-61)
  have rp : 0 < r := by grind
  have b : Bd 31 (1 + r) := by
    have t : two 31 = 2 * two 30 := by decide +kernel
    have t1 : 1 ≤ two 30 := by decide +kernel
    unfold Bd; constructor <;> grind
  obtain ⟨g1, A, nA, rA⟩ := add_o num_onef nr (k0 := 31) (by decide) b
  have A1 : 1 ≤ A := rA.dn 1 num_onef.rep (by grind)
  have A2 := (rA.bd (by decide) b).2
  obtain ⟨i0, i1⟩ := inv_bd A1
  have ib : Bd 0 (1 / A) := by rw [Bd, show two 0 = 1 from rfl]; constructor <;> grind
  obtain ⟨g2, m, nm, rm⟩ := div_o num_onef nA (by grind) (k0 := 0) (by decide) (by decide) ib
  have lo : two (-40) ≤ 1 / A := by
    refine le_div_of (by grind) ?_
    have k1 := Rat.mul_le_mul_of_nonneg_left A2 (Rat.le_of_lt (two_pos (-40)))
    have k2 : two (-40) * two 31 ≤ 1 := by decide +kernel
    grind
  refine ⟨ok, g1, g2, r, A, m, nr, rp, rA, A1, rm, nm, lo, ?_, (rm.bd (by decide) ib).2, fun hq => ?_⟩
  · have := rm.dn _ (rep_two _ _ (by decide)) lo
    have := two_pos (-40)
    grind
  · have r3 := r2 (by grind)
    have a3 := rA.dn (((2 ^ 18 + 1 : Nat) : Rat) * two (-18)) (rep32 _ _ (by decide) (by decide)) (by
      have : ((2 ^ 18 + 1 : Nat) : Rat) * two (-18) = 1 + two (-18) := by decide +kernel
      grind)
    have m3 := rm.up (((2 ^ 19 - 1 : Nat) : Rat) * two (-19)) (rep32 _ _ (by decide) (by decide)) (by
      refine div_le_of (by grind) ?_
      have k1 := Rat.mul_le_mul_of_nonneg_left a3 (show 0 ≤ ((2 ^ 19 - 1 : Nat) : Rat) * two (-19) by decide +kernel)
      have k2 : (1 : Rat) ≤ ((2 ^ 19 - 1 : Nat) : Rat) * two (-19) * (((2 ^ 18 + 1 : Nat) : Rat) * two (-18)) := by decide +kernel
      grind)
    have k3 : ((2 ^ 19 - 1 : Nat) : Rat) * two (-19) < 1 := by decide +kernel
    grind
/-- A greater sum, or one that is hardly less, gives a chance that is hardly less. -/
theorem mx_mono {s s' : Nat} {q q' : Rat} (h : Num .f32 s q) (h' : Num .f32 s' q') (h1 : -16 ≤ q) (h2 : q ≤ 16) (h1' : -16 ≤ q') (h2' : q' ≤ 16) (hle : q ≤ q' + two (-16)) :
    ∃ m m', Num .f32 (mxW s) m ∧ Num .f32 (mxW s') m' ∧ m ≤ m' + 1 / 15000 := by
  obtain ⟨-, -, -, r, A, m, nr, r0, rA, A1, rm, nm, lo, m0, m1, -⟩ := mx_num h h1 h2
  obtain ⟨-, -, -, r', A', m', nr', r0', rA', A1', rm', nm', lo', m0', m1', -⟩ := mx_num h' h1' h2'
  obtain ⟨x, x', nx, nx', -, -, hx⟩ := ex_mono (neg_num h) (neg_num h') (by grind) (by grind) (by grind) (by grind) (by grind)
  have := nx.unique nr
  have := nx'.unique nr'
  subst_vars
  refine ⟨m, m', nm, nm', ?_⟩
  have t1 : two (-100) ≤ two (-40) := two_le (by decide)
  have t2 : two (-40) ≤ 1 := by decide +kernel
  obtain ⟨-, a2, -⟩ := rel32 rA (by grind)
  obtain ⟨b1, -, -⟩ := rel32 rA' (by grind)
  obtain ⟨c1, -, -⟩ := rel32 rm (by grind)
  obtain ⟨-, d2, -⟩ := rel32 rm' (by grind)
  have iA := Rat.div_mul_cancel (a := 1) (b := A) (by grind)
  have iA' := Rat.div_mul_cancel (a := 1) (b := A') (by grind)
  generalize 1 / A = y at *
  generalize 1 / A' = y' at *
  have kp : 0 < k22 := by decide +kernel
  have kk : (1 + k22) * (1 + k22) * ((1 + k22) * (1 + k22)) * (1 + 1 / 20000) ≤ 1 + 1 / 15000 := by decide +kernel
  generalize k22 = k at *
  have e1 : m * A ≤ 1 + k := by
    have f1 := Rat.mul_le_mul_of_nonneg_right c1 (show 0 ≤ A by grind)
    rw [show y * (1 + k) * A = y * A * (1 + k) by grind, iA, Rat.one_mul] at f1
    exact f1
  have e2 : m * (1 + x) ≤ (1 + k) * (1 + k) := by
    have f1 := Rat.mul_le_mul_of_nonneg_left a2 (Rat.le_of_lt m0)
    have f2 := Rat.mul_le_mul_of_nonneg_right e1 (show 0 ≤ 1 + k by grind)
    grind
  have e3 : 1 ≤ m' * (1 + k) * ((1 + x') * (1 + k)) := by
    have f1 := Rat.mul_le_mul_of_nonneg_right d2 (show 0 ≤ A' by grind)
    have f2 := Rat.mul_le_mul_of_nonneg_left b1 (show 0 ≤ m' * (1 + k) from Rat.mul_nonneg (by grind) (by grind))
    rw [iA'] at f1
    exact Rat.le_trans f1 f2
  have e4 : 1 + x' ≤ (1 + 1 / 20000) * (1 + x) := by grind
  have e5 : 1 ≤ m' * ((1 + k) * (1 + k)) * ((1 + 1 / 20000) * (1 + x)) := by
    have f1 := Rat.mul_le_mul_of_nonneg_left e4 (show 0 ≤ m' * ((1 + k) * (1 + k)) from Rat.mul_nonneg (by grind) (Rat.mul_nonneg (by grind) (by grind)))
    grind
  have e6 : m * (1 + x) ≤ (m' + 1 / 15000) * (1 + x) := by
    have kk0 : 0 ≤ (1 + k) * (1 + k) := Rat.mul_nonneg (by grind) (by grind)
    have f1 := Rat.mul_le_mul_of_nonneg_left e5 kk0
    rw [Rat.mul_one] at f1
    have mx : 0 ≤ m' * (1 + x) := Rat.mul_nonneg (by grind) (by grind)
    have f2 := Rat.mul_le_mul_of_nonneg_left kk mx
    have f3 := Rat.mul_le_mul_of_nonneg_right m1' (show 0 ≤ 1 + x by grind)
    have f4 : (1 + k) * (1 + k) * (m' * ((1 + k) * (1 + k)) * ((1 + 1 / 20000) * (1 + x))) = m' * (1 + x) * ((1 + k) * (1 + k) * ((1 + k) * (1 + k)) * (1 + 1 / 20000)) := by grind
    rw [f4] at f1
    have f5 : m' * (1 + x) * (1 + 1 / 15000) = m' * (1 + x) + m' * (1 + x) * (1 / 15000) := by grind
    have f6 : (m' + 1 / 15000) * (1 + x) = m' * (1 + x) + (1 / 15000) * (1 + x) := by grind
    rw [f6]
    rw [f5] at f2
    refine Rat.le_trans e2 (Rat.le_trans f1 (Rat.le_trans f2 ?_))
    grind
  exact (le_mul_cancel (show 0 < 1 + x by grind)).1 e6
/-- The sum of weighed numbers. -/
def muW (ws ss : Nat → Nat) : Nat → Nat
  | 0 => 0
  | i + 1 => fadd .f32 (muW ws ss i) (fmul .f32 (ws i) (ss i))
def muQ (W S : Nat → Rat) : Nat → Rat
  | 0 => 0
  | i + 1 => muQ W S i + W i * S i
structure MuOk (ws ss : Nat → Nat) (n : Nat) : Prop where
  m : ∀ i, i < n → floatBits .mul .f32 (ws i) (ss i) = some (fmul .f32 (ws i) (ss i))
  a : ∀ i, i < n → floatBits .add .f32 (muW ws ss i) (fmul .f32 (ws i) (ss i)) = some (muW ws ss (i + 1))
theorem mu_near {ws ss : Nat → Nat} {W S : Nat → Rat} {n : Nat} {B : Rat} (hn : n ≤ 4) (hB : B ≤ 27 / 20) (hw : ∀ i, i < n → Num .f32 (ws i) (W i) ∧ -B ≤ W i ∧ W i ≤ B) (hs : ∀ i, i < n → Num .f32 (ss i) (S i) ∧ -(271 / 100) ≤ S i ∧ S i ≤ 271 / 100) (i : Nat) (hi : i ≤ n) :
    MuOk ws ss i ∧ ∃ q, Num .f32 (muW ws ss i) q ∧ q ≤ muQ W S i + (i : Rat) * (5 * two (-22)) ∧ muQ W S i ≤ q + (i : Rat) * (5 * two (-22)) ∧ -((i : Rat) * (271 / 100 * B)) ≤ muQ W S i ∧ muQ W S i ≤ (i : Rat) * (271 / 100 * B) := by
  induction i with
  | zero => exact ⟨⟨fun i h => absurd h (Nat.not_lt_zero i), fun i h => absurd h (Nat.not_lt_zero i)⟩, 0, num_zero .f32, by rw [muQ, show ((0 : Nat) : Rat) = 0 from rfl]; refine ⟨?_, ?_, ?_, ?_⟩ <;> grind⟩
  | succ i ih =>
    obtain ⟨⟨k1, k2⟩, q, nq, q1, q2, q3, q4⟩ := ih (by omega)
    obtain ⟨nw, w1, w2⟩ := hw i (by omega)
    obtain ⟨ns, s1, s2⟩ := hs i (by omega)
    have B0 : 0 ≤ B := by grind
    have p := mul_abs w1 w2 s1 s2
    have i4 : (i : Rat) ≤ ((3 : Nat) : Rat) := Rat.natCast_le_natCast.2 (by omega)
    rw [show ((3 : Nat) : Rat) = 3 from rfl] at i4
    have i0 : (0 : Rat) ≤ (i : Rat) := Rat.natCast_nonneg
    have z := Rat.mul_le_mul_of_nonneg_right i4 (show 0 ≤ 271 / 100 * B by grind)
    have t22 : two (-22) ≤ 1 / 100000 := by decide +kernel
    have t22p := two_pos (-22)
    have t20 : two (-20) = 4 * two (-22) := by decide +kernel
    have ze := Rat.mul_le_mul_of_nonneg_right i4 (show 0 ≤ 5 * two (-22) by grind)
    have b1 : Bd 2 (W i * S i) := by rw [Bd, show two 2 = 4 from rfl]; constructor <;> grind
    obtain ⟨g1, M, nM, rM⟩ := mul_o nw ns (k0 := 2) (by decide) b1
    have eM := nearF (-22) (by decide) rM (by rw [show two (-22 + (pB .f32 : Int) + 1) = 4 by decide +kernel]; grind) (by rw [show two (-22 + (pB .f32 : Int) + 1) = 4 by decide +kernel]; grind)
    have b2 : Bd 4 (q + M) := by rw [Bd, show two 4 = 16 from rfl]; constructor <;> grind
    obtain ⟨g2, r, nr, rr⟩ := add_o nq nM (k0 := 4) (by decide) b2
    have er := nearF (-20) (by decide) rr (by rw [show two (-20 + (pB .f32 : Int) + 1) = 16 by decide +kernel]; grind) (by rw [show two (-20 + (pB .f32 : Int) + 1) = 16 by decide +kernel]; grind)
    refine ⟨⟨fun j hj => ?_, fun j hj => ?_⟩, r, nr, ?_⟩
    · rcases Nat.lt_succ_iff_lt_or_eq.1 hj with h | rfl
      · exact k1 j h
      · exact g1
    · rcases Nat.lt_succ_iff_lt_or_eq.1 hj with h | rfl
      · exact k2 j h
      · exact g2
    · rw [muQ, Rat.natCast_add, show ((1 : Nat) : Rat) = 1 from rfl]
      refine ⟨?_, ?_, ?_, ?_⟩ <;> grind
end Go.Proofs.Ythafmldcfdcngaa
