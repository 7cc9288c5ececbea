/- The logarithm of both packages as a function of words: what it is, that no operation on its way fails, how great it is at most. Plain; conditions: what each theorem names. -/
import Derived.Test.YtiejljlmbpgbiaaFp
import Derived.Test.YtiejljlmbpgbiaaFlt
namespace Go.Proofs.Ytiejljlmbpgbiaa
open Ieee
set_option maxRecDepth 100000
set_option linter.unusedVariables false
set_option linter.unusedSimpArgs false

def oW (x : Option Nat) : Nat := x.getD 0
theorem o_some {x : Option Nat} {z : Nat} (h : x = some z) : oW x = z := by rw [h]; rfl
def fadd (k : FloatKind) (x y : Nat) : Nat := oW (floatBits .add k x y)
def fsub (k : FloatKind) (x y : Nat) : Nat := oW (floatBits .sub k x y)
def fmul (k : FloatKind) (x y : Nat) : Nat := oW (floatBits .mul k x y)
def fdiv (k : FloatKind) (x y : Nat) : Nat := oW (floatBits .quo k x y)
def fup (x : Nat) : Nat := oW (floatToFloatBits .f32 x .f64)
def fdn (x : Nat) : Nat := oW (floatToFloatBits .f64 x .f32)
section
variable {k : FloatKind} {x y : Nat} {a b : Rat}
theorem add_o (hx : Num k x a) (hy : Num k y b) {k0 : Int} (hk : k0 ≤ hiK k) (h : Bd k0 (a + b)) : floatBits .add k x y = some (fadd k x y) ∧ ∃ r, Num k (fadd k x y) r ∧ Rnd k (a + b) r := by
  obtain ⟨z, r, h1, h2, h3⟩ := add_num hx hy hk h
  have h1 : floatBits .add k x y = some z := h1
  unfold fadd; rw [o_some h1]; exact ⟨h1, r, h2, h3⟩
theorem sub_o (hx : Num k x a) (hy : Num k y b) {k0 : Int} (hk : k0 ≤ hiK k) (h : Bd k0 (a - b)) : floatBits .sub k x y = some (fsub k x y) ∧ ∃ r, Num k (fsub k x y) r ∧ Rnd k (a - b) r := by
  obtain ⟨z, r, h1, h2, h3⟩ := sub_num hx hy hk h
  have h1 : floatBits .sub k x y = some z := h1
  unfold fsub; rw [o_some h1]; exact ⟨h1, r, h2, h3⟩
theorem mul_o (hx : Num k x a) (hy : Num k y b) {k0 : Int} (hk : k0 ≤ hiK k) (h : Bd k0 (a * b)) : floatBits .mul k x y = some (fmul k x y) ∧ ∃ r, Num k (fmul k x y) r ∧ Rnd k (a * b) r := by
  obtain ⟨z, r, h1, h2, h3⟩ := mul_num hx hy hk h
  have h1 : floatBits .mul k x y = some z := h1
  unfold fmul; rw [o_some h1]; exact ⟨h1, r, h2, h3⟩
theorem div_o (hx : Num k x a) (hy : Num k y b) (hb : b ≠ 0) {k0 : Int} (hl : loK k ≤ k0) (hk : k0 ≤ hiK k) (h : Bd k0 (a / b)) : floatBits .quo k x y = some (fdiv k x y) ∧ ∃ r, Num k (fdiv k x y) r ∧ Rnd k (a / b) r := by
  obtain ⟨z, r, h1, h2, h3⟩ := div_num hx hy hb hl hk h
  have h1 : floatBits .quo k x y = some z := h1
  unfold fdiv; rw [o_some h1]; exact ⟨h1, r, h2, h3⟩
theorem up_o (hx : Num .f32 x a) : floatToFloatBits .f32 x .f64 = some (fup x) ∧ Num .f64 (fup x) a := by
  obtain ⟨z, h1, h2⟩ := conv_up hx
  unfold fup; rw [o_some h1]; exact ⟨h1, h2⟩
theorem dn_o (hx : Num .f64 x a) {k0 : Int} (hk : k0 ≤ hiK .f32) (h : Bd k0 a) : floatToFloatBits .f64 x .f32 = some (fdn x) ∧ ∃ r, Num .f32 (fdn x) r ∧ Rnd .f32 a r := by
  obtain ⟨z, r, h1, h2, h3⟩ := conv_num (k' := .f32) hx hk h (by decide)
  unfold fdn; rw [o_some h1]; exact ⟨h1, r, h2, h3⟩
end
theorem fup_lt (x : Nat) : fup x < 2 ^ 64 := by
  unfold fup oW
  cases h : floatToFloatBits .f32 x .f64 with
  | none => decide
  | some z =>
    have : z < 2 ^ 64 := by
      unfold floatToFloatBits at h
      rw [if_neg (by decide)] at h
      split at h
      · cases h
      · cases h; exact Format.write_lt double _
      · split at h
        · cases h
        · cases h; exact Format.write_lt double _
    exact this

theorem num_one : Num .f64 4607182418800017408 1 := ⟨false, 2 ^ 52, -52, by decide +kernel, by decide +kernel⟩
theorem num_two : Num .f64 4611686018427387904 2 := ⟨false, 2 ^ 52, -51, by decide +kernel, by decide +kernel⟩
def ln2Q : Rat := 6243314768165359 * two (-53)
theorem num_ln2 : Num .f64 4604418534313441775 ln2Q := ⟨false, 6243314768165359, -53, by decide +kernel, rfl⟩
theorem num_75 : Num .f64 4604930618986332160 (3 / 4) := ⟨false, 6755399441055744, -53, by decide +kernel, by decide +kernel⟩
theorem num_15 : Num .f64 4609434218613702656 (3 / 2) := ⟨false, 6755399441055744, -52, by decide +kernel, by decide +kernel⟩

/-- The counter as a float. -/
def Fi (n : Int) : Nat := floatOfInt .f64 n
theorem fi_num (n : Int) (h : n.natAbs < 2 ^ 24) : Num .f64 (Fi n) n := int_exact .f64 n h
theorem fi_inc (n : Nat) (h : n < 200) : floatBits .add .f64 (Fi n) 4607182418800017408 = some (Fi (n + 1)) := by
  have key : ∀ n : Fin 200, floatBits .add .f64 (Fi (n.val : Int)) 4607182418800017408 = some (Fi ((n.val : Int) + 1)) := by decide +kernel
  exact key ⟨n, h⟩
theorem fi_dec (n : Nat) (h : n < 200) : floatBits .sub .f64 (Fi (-(n : Int))) 4607182418800017408 = some (Fi (-(n : Int) - 1)) := by
  have key : ∀ n : Fin 200, floatBits .sub .f64 (Fi (-(n.val : Int))) 4607182418800017408 = some (Fi (-(n.val : Int) - 1)) := by decide +kernel
  exact key ⟨n, h⟩
theorem fi_zero : Fi 0 = 0 := by decide +kernel

/-- The counter of the series. -/
def Kf (j : Nat) : Nat := Fi (25 - 2 * (j : Int))
theorem kf_zero : Kf 0 = 4627730092099895296 := by decide +kernel
theorem kf_next (j : Nat) (h : j < 13) : floatBits .sub .f64 (Kf j) 4611686018427387904 = some (Kf (j + 1)) := by
  have key : ∀ n : Fin 13, floatBits .sub .f64 (Kf n.val) 4611686018427387904 = some (Kf (n.val + 1)) := by decide +kernel
  exact key ⟨j, h⟩
theorem kf_ge (j : Nat) (h : j ≤ 13) : (FloatKind.f64.format.order (Kf j) 4607182418800017408 == some .gt || FloatKind.f64.format.order (Kf j) 4607182418800017408 == some .eq) = decide (j < 13) := by
  have key : ∀ n : Fin 14, (FloatKind.f64.format.order (Kf n.val) 4607182418800017408 == some .gt || FloatKind.f64.format.order (Kf n.val) 4607182418800017408 == some .eq) = decide (n.val < 13) := by decide +kernel
  exact key ⟨j, by omega⟩
def Kc (j : Nat) : Nat := fdiv .f64 4607182418800017408 (Kf j)
theorem kc_num (j : Nat) (h : j < 13) : floatBits .quo .f64 4607182418800017408 (Kf j) = some (Kc j) ∧ ∃ r, Num .f64 (Kc j) r ∧ Rnd .f64 (1 / ((25 - 2 * (j : Int) : Int) : Rat)) r ∧ Bd 0 r := by
  have hk := fi_num (25 - 2 * (j : Int)) (by omega)
  have hge : (1 : Rat) ≤ ((25 - 2 * (j : Int) : Int) : Rat) := by
    rw [show (1 : Rat) = ((1 : Int) : Rat) from rfl, Rat.intCast_le_intCast]; omega
  have hb : Bd 0 ((1 : Rat) / ((25 - 2 * (j : Int) : Int) : Rat)) := by
    have h0 := Rat.div_mul_cancel (a := 1) (b := ((25 - 2 * (j : Int) : Int) : Rat)) (by grind)
    generalize ((25 - 2 * (j : Int) : Int) : Rat) = d at *
    generalize (1 : Rat) / d = q at *
    have hq : 0 ≤ q := by
      refine Rat.not_lt.1 fun hn => ?_
      have := Rat.mul_lt_mul_of_pos_right hn (show 0 < d by grind)
      grind
    unfold Bd
    rw [show two 0 = 1 from rfl]
    refine ⟨by grind, ?_⟩
    have := Rat.mul_le_mul_of_nonneg_left hge hq
    grind
  obtain ⟨h1, r, h2, h3⟩ := div_o num_one hk (by grind) (k0 := 0) (by decide) (by decide) hb
  exact ⟨h1, r, h2, h3, h3.bd (by decide) hb⟩

def lx1 (x : Nat) : Nat := fsub .f64 x 4607182418800017408
def lx2 (x : Nat) : Nat := fadd .f64 x 4607182418800017408
def ls (x : Nat) : Nat := fdiv .f64 (lx1 x) (lx2 x)
def lu (x : Nat) : Nat := fmul .f64 (ls x) (ls x)
def lM (u q : Nat) : Nat := fmul .f64 u q
def lQ (u : Nat) : Nat → Nat
  | 0 => 0
  | j + 1 => fadd .f64 (Kc j) (lM u (lQ u j))
def lm1 (x : Nat) : Nat := fmul .f64 (ls x) (lQ (lu x) 13)
def lm2 (x : Nat) : Nat := fmul .f64 4611686018427387904 (lm1 x)
def lm3 (e : Int) : Nat := fmul .f64 (Fi e) 4604418534313441775
def LGr (x : Nat) (e : Int) : Nat := fadd .f64 (lm2 x) (lm3 e)

/-- What the words of the series stand for. -/
structure LgV (x : Nat) (X X1 X2 S U : Rat) : Prop where
  n0 : Num .f64 x X
  h1 : floatBits .sub .f64 x 4607182418800017408 = some (lx1 x)
  n1 : Num .f64 (lx1 x) X1
  r1 : Rnd .f64 (X - 1) X1
  h2 : floatBits .add .f64 x 4607182418800017408 = some (lx2 x)
  n2 : Num .f64 (lx2 x) X2
  r2 : Rnd .f64 (X + 1) X2
  h3 : floatBits .quo .f64 (lx1 x) (lx2 x) = some (ls x)
  n3 : Num .f64 (ls x) S
  r3 : Rnd .f64 (X1 / X2) S
  b3 : Bd (-1) S
  h4 : floatBits .mul .f64 (ls x) (ls x) = some (lu x)
  n4 : Num .f64 (lu x) U
  r4 : Rnd .f64 (S * S) U
  b4 : Bd (-2) U
theorem div_bd {a b : Rat} {k0 : Int} (ha : Bd k0 a) (hb : 1 ≤ b) : Bd k0 (a / b) := by
  have h0 := Rat.div_mul_cancel (a := a) (b := b) (by grind)
  generalize a / b = q at *
  obtain ⟨h1, h2⟩ := ha
  have ht := two_pos k0
  constructor
  · refine Rat.not_lt.1 fun hn => ?_
    have k1 := Rat.mul_lt_mul_of_pos_right hn (show 0 < b by grind)
    have k2 := Rat.mul_le_mul_of_nonneg_left hb (Rat.le_of_lt ht)
    grind
  · refine Rat.not_lt.1 fun hn => ?_
    have k1 := Rat.mul_lt_mul_of_pos_right hn (show 0 < b by grind)
    have k2 := Rat.mul_le_mul_of_nonneg_left hb (Rat.le_of_lt ht)
    grind
theorem lg_vals {x : Nat} {X : Rat} (hx : Num .f64 x X) (h1 : 3 / 4 ≤ X) (h2 : X ≤ 3 / 2) : ∃ X1 X2 S U, LgV x X X1 X2 S U := by
  have tm1 : two (-1) = 1 / 2 := by decide +kernel
  have t0 : two 0 = 1 := rfl
  have t2 : two 2 = 4 := rfl
  have b1 : Bd (-1) (X - 1) := by unfold Bd; rw [tm1]; constructor <;> grind
  obtain ⟨k1, X1, n1, r1⟩ := sub_o hx num_one (k0 := -1) (by decide) b1
  have b2 : Bd 2 (X + 1) := by unfold Bd; rw [t2]; constructor <;> grind
  obtain ⟨k2, X2, n2, r2⟩ := add_o hx num_one (k0 := 2) (by decide) b2
  have g2 : 1 ≤ X2 := by
    have := r2.dn 1 ⟨1, 0, by decide, by decide, .inl (by decide +kernel)⟩ (by grind)
    exact this
  have b3 : Bd (-1) (X1 / X2) := div_bd (r1.bd (by decide) b1) g2
  obtain ⟨k3, S, n3, r3⟩ := div_o n1 n2 (by grind) (k0 := -1) (by decide) (by decide) b3
  have b4 : Bd (-2) (S * S) := (r3.bd (by decide) b3).mul (r3.bd (by decide) b3)
  obtain ⟨k4, U, n4, r4⟩ := mul_o n3 n3 (k0 := -2) (by decide) b4
  exact ⟨X1, X2, S, U, hx, k1, n1, r1, k2, n2, r2, k3, n3, r3, r3.bd (by decide) b3, k4, n4, r4, r4.bd (by decide) b4⟩

/-- The series. -/
theorem lq_num {u : Nat} {U : Rat} (hu : Num .f64 u U) (hb : Bd (-2) U) (j : Nat) (hj : j ≤ 13) : ∃ q, Num .f64 (lQ u j) q ∧ Bd 1 q := by
  induction j with
  | zero => exact ⟨0, num_zero .f64, by unfold Bd; have := two_pos 1; constructor <;> grind⟩
  | succ j ih =>
    obtain ⟨q, h1, h2⟩ := ih (by omega)
    have b1 : Bd (-1) (U * q) := hb.mul h2
    obtain ⟨-, M, h3, h4⟩ := mul_o hu h1 (k0 := -1) (by decide) b1
    obtain ⟨-, c, h5, -, h6⟩ := kc_num j (by omega)
    have b2 : Bd 1 (c + M) := h6.add ((h4.bd (by decide) b1).mono (by decide))
    obtain ⟨-, r, h7, h8⟩ := add_o h5 h3 (k0 := 1) (by decide) b2
    exact ⟨r, h7, h8.bd (by decide) b2⟩
theorem lq_step {u : Nat} {U : Rat} (hu : Num .f64 u U) (hb : Bd (-2) U) (j : Nat) (hj : j < 13) {q : Rat} (hq : Num .f64 (lQ u j) q) (hqb : Bd 1 q) :
    floatBits .mul .f64 u (lQ u j) = some (lM u (lQ u j)) ∧ floatBits .quo .f64 4607182418800017408 (Kf j) = some (Kc j) ∧ floatBits .add .f64 (Kc j) (lM u (lQ u j)) = some (lQ u (j + 1)) ∧
    ∃ c M q', Rnd .f64 (1 / ((25 - 2 * (j : Int) : Int) : Rat)) c ∧ Rnd .f64 (U * q) M ∧ Rnd .f64 (c + M) q' ∧ Num .f64 (lQ u (j + 1)) q' := by
  have b1 : Bd (-1) (U * q) := hb.mul hqb
  obtain ⟨g1, M, h3, h4⟩ := mul_o hu hq (k0 := -1) (by decide) b1
  obtain ⟨g2, c, h5, h5', h6⟩ := kc_num j (by omega)
  have b2 : Bd 1 (c + M) := h6.add ((h4.bd (by decide) b1).mono (by decide))
  obtain ⟨g3, r, h7, h8⟩ := add_o h5 h3 (k0 := 1) (by decide) b2
  exact ⟨g1, g2, g3, c, M, r, h5', h4, h8, h7⟩
/-- Behind the series. -/
theorem lg_end {x : Nat} {X X1 X2 S U : Rat} (h : LgV x X X1 X2 S U) {q : Rat} (hq : Num .f64 (lQ (lu x) 13) q) (hqb : Bd 1 q) (e : Int) (he : e.natAbs ≤ 200) :
    floatBits .mul .f64 (ls x) (lQ (lu x) 13) = some (lm1 x) ∧ floatBits .mul .f64 4611686018427387904 (lm1 x) = some (lm2 x) ∧ floatBits .mul .f64 (Fi e) 4604418534313441775 = some (lm3 e) ∧ floatBits .add .f64 (lm2 x) (lm3 e) = some (LGr x e) ∧
    ∃ p p2 p3 r, Rnd .f64 (S * q) p ∧ Rnd .f64 (2 * p) p2 ∧ Rnd .f64 ((e : Rat) * ln2Q) p3 ∧ Rnd .f64 (p2 + p3) r ∧ Num .f64 (LGr x e) r ∧ Bd 9 r := by
  have b1 : Bd 0 (S * q) := h.b3.mul hqb
  obtain ⟨g1, p, n1, r1⟩ := mul_o h.n3 hq (k0 := 0) (by decide) b1
  have b2 : Bd 1 (2 * p) := by
    have := r1.bd (by decide) b1
    unfold Bd at this ⊢
    rw [show two 1 = 2 from rfl]
    rw [show two 0 = 1 from rfl] at this
    constructor <;> grind
  obtain ⟨g2, p2, n2, r2⟩ := mul_o num_two n1 (k0 := 1) (by decide) b2
  have hl : Bd 0 ln2Q := by unfold Bd; constructor <;> decide +kernel
  have he8 : Bd 8 (e : Rat) := bd_int (j := 8) (by omega)
  have b3 : Bd 8 ((e : Rat) * ln2Q) := he8.mul hl
  obtain ⟨g3, p3, n3, r3⟩ := mul_o (fi_num e (by omega)) num_ln2 (k0 := 8) (by decide) b3
  have b4 : Bd 9 (p2 + p3) := ((r2.bd (by decide) b2).mono (by decide)).add (r3.bd (by decide) b3)
  obtain ⟨g4, r, n4, r4⟩ := add_o n2 n3 (k0 := 9) (by decide) b4
  exact ⟨g1, g2, g3, g4, p, p2, p3, r, r1, r2, r3, r4, n4, r4.bd (by decide) b4⟩

/-- The place of a positive word: how often it is halved, and what is left. -/
def lE (z : Nat) : Int := ((z + 2 ^ 51) / 2 ^ 52 : Nat) - 1023
def lR (z : Nat) : Nat := (z + 2 ^ 51) % 2 ^ 52 + 4604930618986332160
theorem lr_eq (z : Nat) : (z : Int) = lR z + 2 ^ 52 * lE z := by
  unfold lR lE; omega
theorem lr_bd (z : Nat) : 4604930618986332160 ≤ lR z ∧ lR z < 4609434218613702656 := by
  unfold lR; omega
def LG (z : Nat) : Nat := LGr (lR z) (lE z)
def LOG (x : Nat) : Nat := fdn (LG (fup x))

theorem pos_val {z : Nat} (h : PosW z) : Num .f64 z (((2 ^ 52 + z % 2 ^ 52 : Nat) : Rat) * two (-1074 + ((z / 2 ^ 52 - 1 : Nat) : Int))) := ⟨_, _, _, read_pos h, rfl⟩
/-- A word with the sign below and a number not too small. -/
theorem pos_of_num {z : Nat} {q : Rat} (hz : z < 2 ^ 64) (h : Num .f64 z q) (hq : two (-1022) ≤ q) : PosW z := by
  obtain ⟨s, m, e, hr, hv⟩ := h
  have hp := two_pos (-1022)
  unfold Format.read at hr
  have e1 : FloatKind.f64.format.signWeight = 2 ^ 63 := rfl
  rw [c_bin, c_inf, c_lo, e1] at hr
  have e2 : binK .f64 = 2 ^ 52 := rfl
  have e3 : infR .f64 = 9218868437227405312 := rfl
  have e4 : loK .f64 = -1074 := rfl
  rw [e2, e3, e4] at hr
  dsimp only at hr
  have hmn : (0 : Rat) ≤ (m : Rat) * two e := Rat.mul_nonneg Rat.natCast_nonneg (Rat.le_of_lt (two_pos e))
  have hs : s = false := by
    cases s
    · rfl
    · unfold dv at hv; simp only [if_true] at hv; grind
  split at hr
  · rename_i hlt
    cases hr
    rw [hs] at hv
    unfold dv at hv
    simp only [Bool.false_eq_true, if_false] at hv
    have : ((z % 2 ^ 63 : Nat) : Rat) * two (-1074) < ((2 ^ 52 : Nat) : Rat) * two (-1074) := cast_mul_lt.2 hlt
    have h2 : ((2 ^ 52 : Nat) : Rat) * two (-1074) = two (-1022) := by rw [← two_nat, ← two_add]; rfl
    grind
  · split at hr
    · cases hr
      have : z / 2 ^ 63 % 2 = 0 := by
        have := Nat.mod_two_eq_zero_or_one (z / 2 ^ 63)
        rcases this with h | h
        · exact h
        · rw [h] at hs; cases hs
      unfold PosW
      omega
    · split at hr <;> cases hr
theorem cmp_lt {a b : Rat} : cmpQ a b = .lt ↔ a < b := by
  unfold cmpQ
  by_cases h : a < b
  · simp [h]
  · by_cases h' : a = b <;> simp [h, h', Rat.lt_irrefl]
theorem cmp_eq {a b : Rat} : cmpQ a b = .eq ↔ a = b := by
  unfold cmpQ
  by_cases h : a < b
  · simp [h, Rat.ne_of_lt h]
  · by_cases h' : a = b <;> simp [h, h', Rat.lt_irrefl]
theorem cmp_gt {a b : Rat} : cmpQ a b = .gt ↔ b < a := by
  unfold cmpQ
  by_cases h : a < b
  · simp [h]; exact Rat.not_lt.2 (Rat.le_of_lt h)
  · by_cases h' : a = b
    · subst h'; simp [Rat.lt_irrefl]
    · simp [h, h']; exact Rat.lt_of_le_of_ne (Rat.not_lt.1 h) (fun e => h' e.symm)
theorem pos_order {b c : Nat} (hb : PosW b) (hc : PosW c) {x y : Rat} (hx : Num .f64 b x) (hy : Num .f64 c y) : cmpQ x y = compare b c := by
  have h1 := order_pos hb hc
  have h2 : double.order b c = some (cmpQ x y) := order_num (k := .f64) hx hy
  rw [h1] at h2
  exact (Option.some.inj h2).symm
theorem lr_num {z : Nat} (h : PosW z) : ∃ X, Num .f64 (lR z) X ∧ 3 / 4 ≤ X ∧ X ≤ 3 / 2 := by
  obtain ⟨h1, h2⟩ := lr_bd z
  have hp : PosW (lR z) := by unfold PosW; omega
  refine ⟨_, pos_val hp, ?_, ?_⟩
  · have hq := pos_order hp (show PosW 4604930618986332160 by unfold PosW; omega) (pos_val hp) num_75
    refine Rat.not_lt.1 fun hn => ?_
    rw [cmp_lt.2 hn] at hq
    have := Nat.compare_eq_lt.1 hq.symm
    omega
  · have hq := pos_order hp (show PosW 4609434218613702656 by unfold PosW; omega) (pos_val hp) num_15
    rw [Nat.compare_eq_lt.2 h2] at hq
    exact Rat.le_of_lt (cmp_lt.1 hq)
/-- How often a number of the narrower kind is halved or doubled. -/
theorem le_small {z : Nat} {q : Rat} (h : PosW z) (hn : Num .f64 z q) (h1 : two (-149) ≤ q) (h2 : q ≤ two 128) : (lE z).natAbs ≤ 150 := by
  have hq := (pos_val h).unique hn
  have hz := h.1
  have hr : z % 2 ^ 52 < 2 ^ 52 := Nat.mod_lt _ (by decide)
  have c1 : z / 2 ^ 52 - 1 < 1074 + 128 := by
    refine Nat.not_le.1 fun hge => ?_
    have a1 : ((2 ^ 52 : Nat) : Rat) * two (-1074 + ((z / 2 ^ 52 - 1 : Nat) : Int)) ≤ q := by rw [← hq]; exact cast_mul_le.2 (by omega)
    rw [← two_nat, ← two_add] at a1
    have := two_le_iff (Rat.le_trans a1 h2)
    omega
  have c2 : 1074 - 149 ≤ z / 2 ^ 52 - 1 + 53 := by
    refine Nat.not_lt.1 fun hlt => ?_
    have a1 : q < ((2 ^ 53 : Nat) : Rat) * two (-1074 + ((z / 2 ^ 52 - 1 : Nat) : Int)) := by rw [← hq]; exact cast_mul_lt.2 (by omega)
    rw [← two_nat, ← two_add] at a1
    have := two_lt_iff (i := -149) (by grind : two (-149) < two (((53 : Nat) : Int) + (-1074 + ((z / 2 ^ 52 - 1 : Nat) : Int))))
    omega
  have c1' : z / 2 ^ 52 ≤ 1152 := by
    refine Nat.not_lt.1 fun hge => ?_
    have a1 : ((2 ^ 52 : Nat) : Rat) * two (-1074 + ((z / 2 ^ 52 - 1 : Nat) : Int)) ≤ q := by rw [← hq]; exact cast_mul_le.2 (by omega)
    rw [← two_nat, ← two_add] at a1
    have := two_le_iff (Rat.le_trans a1 h2)
    omega
  unfold lE
  omega
/-- What is above nought in the narrower kind is not too small. -/
theorem rep_least {q : Rat} (h : Rep .f32 q) (h0 : 0 < q) : two (-149) ≤ q := by
  obtain ⟨m, e, h1, h2, rfl | rfl⟩ := h
  · have hm : 1 ≤ m := by
      rcases Nat.eq_zero_or_pos m with rfl | hm
      · simp at h0
      · exact hm
    have a1 : ((1 : Nat) : Rat) * two e ≤ m * two e := cast_mul_le.2 hm
    have a2 := two_le h2
    have : loK .f32 = -149 := rfl
    rw [this] at a2
    simp at a1
    grind
  · have : (0 : Rat) ≤ m * two e := Rat.mul_nonneg Rat.natCast_nonneg (Rat.le_of_lt (two_pos e))
    grind
theorem up_pos {x : Nat} {a : Rat} (h : Num .f32 x a) (h0 : 0 < a) : PosW (fup x) ∧ (lE (fup x)).natAbs ≤ 150 := by
  have hl := rep_least h.rep h0
  have hu := (up_o h).2
  have hp := pos_of_num (fup_lt x) hu (Rat.le_trans (two_le (by decide)) hl)
  refine ⟨hp, le_small hp hu hl ?_⟩
  exact h.bd.2
/-- The logarithm of a positive number of the narrower kind. -/
theorem log_num {x : Nat} {a : Rat} (h : Num .f32 x a) (h0 : 0 < a) : floatToFloatBits .f64 (LG (fup x)) .f32 = some (LOG x) ∧ ∃ l, Num .f32 (LOG x) l ∧ Bd 9 l := by
  obtain ⟨hp, he⟩ := up_pos h h0
  obtain ⟨X, hX, g1, g2⟩ := lr_num hp
  obtain ⟨X1, X2, S, U, hv⟩ := lg_vals hX g1 g2
  obtain ⟨q, hq, hqb⟩ := lq_num hv.n4 hv.b4 13 (Nat.le_refl _)
  obtain ⟨-, -, -, -, p, p2, p3, r, -, -, -, -, hr, hrb⟩ := lg_end hv hq hqb (lE (fup x)) (by omega)
  obtain ⟨g, l, h1, h2⟩ := dn_o hr (k0 := 9) (by decide) hrb
  exact ⟨g, l, h1, h2.bd (by decide) hrb⟩
end Go.Proofs.Ytiejljlmbpgbiaa
