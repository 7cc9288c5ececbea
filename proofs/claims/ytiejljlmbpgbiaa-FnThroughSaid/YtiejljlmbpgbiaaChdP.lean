/- Chains and channels beside one another: the comparisons of the told words. Plain; conditions: what each theorem names. -/
import Derived.Test.YtiejljlmbpgbiaaDrwP
namespace Go.Proofs.Ytiejljlmbpgbiaa
open Ieee
set_option maxRecDepth 100000
set_option linter.unusedVariables false
set_option linter.unusedSimpArgs false

def milQ : Rat := 4611686018427388 * two (-62)
theorem num_mil : Num .f64 4562254508917369340 milQ := ⟨false, 4611686018427388, -62, by decide +kernel, by decide +kernel⟩
theorem num_mil2 : Num .f64 4566758108544739836 (2 * milQ) := ⟨false, 4611686018427388, -61, by decide +kernel, by decide +kernel⟩
theorem mil_bd : (999 : Rat) / 1000000 ≤ milQ ∧ milQ ≤ 1001 / 1000000 := by constructor <;> decide +kernel
/-- Rounding in 64 bits of what is not great. -/
theorem r64 {x r : Rat} (h : Rnd .f64 x r) (h1 : -256 < x) (h2 : x < 256) : Ab (two (-45)) r x := by
  have t : two (-45 + 53) = 256 := by decide +kernel
  exact near64 (-45) (by decide) h (by rw [t]; exact h1) (by rw [t]; exact h2)
theorem bd8 {x : Rat} (h1 : -256 ≤ x) (h2 : x ≤ 256) : Bd 8 x := by
  have : two 8 = 256 := by decide +kernel
  exact ⟨by rw [this]; exact h1, by rw [this]; exact h2⟩
/-- How far two numbers are apart. -/
def gapW (x y : Nat) : Nat := if (FloatKind.f64.format.order x y == some .lt) = true then fsub .f64 y x else fsub .f64 x y
theorem gap_num {x y : Nat} {a b d : Rat} (hx : Num .f64 x a) (hy : Num .f64 y b) (h : Ab d a b) (hd : d < 200) : ∃ g, Num .f64 (gapW x y) g ∧ g ≤ d + two (-45) := by
  obtain ⟨h1, h2⟩ := h
  unfold gapW
  rw [order_num hx hy]
  by_cases hl : a < b
  · rw [cmp_lt.2 hl, if_pos (by rfl)]
    obtain ⟨-, r, hr, rr⟩ := sub_o hy hx (k0 := 8) (by decide) (bd8 (by grind) (by grind))
    have := (r64 rr (by grind) (by grind)).1
    exact ⟨r, hr, by grind⟩
  · have : (some (cmpQ a b) == some Ordering.lt) = false := by
      rcases (show a = b ∨ b < a by grind) with e | e
      · rw [cmp_eq.2 e]; rfl
      · rw [cmp_gt.2 e]; rfl
    rw [if_neg (by rw [this]; simp)]
    obtain ⟨-, r, hr, rr⟩ := sub_o hx hy (k0 := 8) (by decide) (bd8 (by grind) (by grind))
    have := (r64 rr (by grind) (by grind)).1
    exact ⟨r, hr, by grind⟩
theorem lt_gt {a b : Rat} (h : a ≤ b) : (some (cmpQ a b) == some Ordering.gt) = false := by
  rcases (show a < b ∨ a = b by grind) with e | e
  · rw [cmp_lt.2 e]; rfl
  · rw [cmp_eq.2 e]; rfl
theorem lt_lt {a b : Rat} (h : a < b) : (some (cmpQ a b) == some Ordering.lt) = true := by rw [cmp_lt.2 h]; rfl
structure ChdOk (t f s u a : Nat) : Prop where
  ut : floatToFloatBits .f32 t .f64 = some (fup t)
  uf : floatToFloatBits .f32 f .f64 = some (fup f)
  us : floatToFloatBits .f32 s .f64 = some (fup s)
  uu : floatToFloatBits .f32 u .f64 = some (fup u)
  ua : floatToFloatBits .f32 a .f64 = some (fup a)
  a1 : floatBits .add .f64 (fup f) 4562254508917369340 = some (fadd .f64 (fup f) 4562254508917369340)
  c1 : (FloatKind.f64.format.order (fup t) (fadd .f64 (fup f) 4562254508917369340) == some .gt) = false
  a2 : floatBits .add .f64 (fup s) 4562254508917369340 = some (fadd .f64 (fup s) 4562254508917369340)
  c2 : (FloatKind.f64.format.order (fup t) (fadd .f64 (fup s) 4562254508917369340) == some .gt) = false
  a3 : floatBits .add .f64 (fup f) (fup a) = some (fadd .f64 (fup f) (fup a))
  g : ∃ x y, Num .f64 (fup u) x ∧ Num .f64 (fadd .f64 (fup f) (fup a)) y ∧ Ab 100 x y
  c3 : (FloatKind.f64.format.order (gapW (fup u) (fadd .f64 (fup f) (fup a))) 4566758108544739836 == some .lt) = true
/-- A word near what is told: not great. -/
theorem td_rng {q M e : Rat} (h : Ab e (q * lnbQ) M) (he : e ≤ 1 / 1000) (h1 : -1 ≤ M) (h2 : M ≤ 20) : -2 ≤ q ∧ q ≤ 32 := by
  obtain ⟨c1, c2⟩ := lnb_b
  obtain ⟨k1, k2⟩ := h
  constructor
  · exact Rat.not_lt.1 fun hn => by
      have := Rat.mul_lt_mul_of_pos_right hn (show 0 < lnbQ by grind); grind
  · exact Rat.not_lt.1 fun hn => by
      have := Rat.mul_lt_mul_of_pos_right hn (show 0 < lnbQ by grind); grind
/-- What is told is not great. -/
theorem mi_rng {X : Nat → Rat} {Y : Nat → Nat → Rat} {n m : Nat} (hX : Pr X n) (hY : ∀ i, i < n → Pr (Y i) m) : -1 ≤ MI X Y n m ∧ MI X Y n m ≤ 20 := by
  have h1 := mi_low hX hY
  have e : ep4 ≤ 1 / 1000 := by decide +kernel
  have hC := ou_pr hX hY
  refine ⟨by grind, ?_⟩
  have := sm_le2 (n := n) (m := m) (f := fun i k => X i * Y i k * (Lr (Y i k) - Lr (ou X Y n k))) (g := fun i k => 20 * (X i * Y i k)) fun i k hi hk => by
    obtain ⟨a, b⟩ := lr_lo8 ((hY i hi).lo k hk) ((hY i hi).le hk)
    obtain ⟨c, d⟩ := lr_lo8 (hC.lo k hk) (hC.le hk)
    have := Rat.mul_le_mul_of_nonneg_left (show Lr (Y i k) - Lr (ou X Y n k) ≤ 20 by grind) (Rat.le_of_lt (Rat.mul_pos (hX.pos hi) ((hY i hi).pos hk)))
    grind
  rw [sm_mul2, ou_all hX hY] at this
  unfold MI; grind
/-- Not much more: the words stand so too. -/
theorem le_mil {t f : Nat} {T F e : Rat} (ht : Num .f32 t T) (hf : Num .f32 f F) (h : T * lnbQ ≤ F * lnbQ + e) (he : e ≤ 68 / 100000) (h1 : -2 ≤ F) (h2 : F ≤ 32) :
    floatBits .add .f64 (fup f) 4562254508917369340 = some (fadd .f64 (fup f) 4562254508917369340) ∧ (FloatKind.f64.format.order (fup t) (fadd .f64 (fup f) 4562254508917369340) == some .gt) = false := by
  obtain ⟨m1, m2⟩ := mil_bd
  obtain ⟨c1, c2⟩ := lnb_b
  obtain ⟨g, r, hr, rr⟩ := add_o (up_o hf).2 num_mil (k0 := 8) (by decide) (bd8 (by grind) (by grind))
  refine ⟨g, ?_⟩
  have := (r64 rr (by grind) (by grind)).2
  have t45 : two (-45) ≤ 1 / 1000000 := by decide +kernel
  rw [order_num (up_o ht).2 hr]
  refine lt_gt ?_
  have k : T ≤ F + 68 / 69 / 1000 := Rat.not_lt.1 fun hn => by
    have := Rat.mul_lt_mul_of_pos_right hn (show 0 < lnbQ by grind); grind
  have : (68 : Rat) / 69 / 1000 ≤ 999 / 1000000 - 2 / 1000000 := by decide +kernel
  grind
theorem gap_mil {u f a : Nat} {U F A e : Rat} (hu : Num .f32 u U) (hf : Num .f32 f F) (ha : Num .f32 a A) (h : Ab e (U * lnbQ) (F * lnbQ + A * lnbQ)) (he : e ≤ 136 / 100000) (f1 : -2 ≤ F) (f2 : F ≤ 32) (a1 : -2 ≤ A) (a2 : A ≤ 32) :
    floatBits .add .f64 (fup f) (fup a) = some (fadd .f64 (fup f) (fup a)) ∧ (∃ x y, Num .f64 (fup u) x ∧ Num .f64 (fadd .f64 (fup f) (fup a)) y ∧ Ab 100 x y) ∧ (FloatKind.f64.format.order (gapW (fup u) (fadd .f64 (fup f) (fup a))) 4566758108544739836 == some .lt) = true := by
  obtain ⟨m1, m2⟩ := mil_bd
  obtain ⟨c1, c2⟩ := lnb_b
  obtain ⟨g, r, hr, rr⟩ := add_o (up_o hf).2 (up_o ha).2 (k0 := 8) (by decide) (bd8 (by grind) (by grind))
  obtain ⟨n1, n2⟩ := r64 rr (by grind) (by grind)
  have t45 : two (-45) ≤ 1 / 1000000 := by decide +kernel
  obtain ⟨k1, k2⟩ := h
  have b1 : U ≤ F + A + 136 / 69 / 1000 := Rat.not_lt.1 fun hn => by
    have := Rat.mul_lt_mul_of_pos_right hn (show 0 < lnbQ by grind); grind
  have b2 : F + A ≤ U + 136 / 69 / 1000 := Rat.not_lt.1 fun hn => by
    have := Rat.mul_lt_mul_of_pos_right hn (show 0 < lnbQ by grind); grind
  have b3 : (136 : Rat) / 69 / 1000 ≤ 1972 / 1000000 := by decide +kernel
  have hab : Ab (1974 / 1000000) U r := by constructor <;> grind
  obtain ⟨q, hq, q1⟩ := gap_num (up_o hu).2 hr hab (by decide +kernel)
  refine ⟨g, ⟨U, r, (up_o hu).2, hr, hab.more (by decide +kernel)⟩, ?_⟩
  rw [order_num hq num_mil2]
  exact lt_lt (by grind)
/-- The whole. -/
theorem chd_all {cs co : List Int} {ma : Nat} {ra rb : List (List Int)} (ha : Dr ra 2 ma) (hb : Dr rb ma 2) (hp : Prt cs) (hl : cs.length = 2) (hp' : Prt co) (hl' : co.length = ma) (m3 : ma ≤ 3) :
    ChdOk (tdW (rwL cs) (chL (rwsL ra) (rwsL rb) ma 2 2) 2 2) (tdW (rwL cs) (rwsL ra) 2 ma) (tdW (thL (rwL cs) (rwsL ra) 2 ma ma) (rwsL rb) ma 2)
      (tdW (gridA (bothF (rwL cs) (rwL co)) 2 ma) (gridA (sdF (rwsL ra) (rwsL rb) ma ma 2) (2 * ma) (ma * 2)) (2 * ma) (ma * 2)) (tdW (rwL co) (rwsL rb) ma 2) := by
  have m1 := ha.m1
  have h1 := tld_chain ha hb hp hl (by decide) (by decide) (by omega) (by decide)
  have h2 := tld_drawn ha hp hl (by decide) (by decide) (by omega)
  have h3 := tld_mid ha hb hp hl (by decide) (by decide) (by omega) (by omega)
  have h4 := tld_side ha hb hp hl hp' hl' m3
  have h5 := tld_drawn hb hp' hl' m1 (by omega) (by omega)
  obtain ⟨t, nt, at'⟩ := h1.near
  obtain ⟨f, nf, af⟩ := h2.near
  obtain ⟨s, ns, as'⟩ := h3.near
  obtain ⟨u, nu, au⟩ := h4.near
  obtain ⟨a, na, aa⟩ := h5.near
  have d1 := dp_out h2.pX h2.pY h3.pY
  have d2 := dp_in h2.pX h2.pY h3.pY
  have d3 := sd_add h2.pX h5.pX h2.pY h5.pY
  have rf := mi_rng h2.pX h2.pY
  have rs := mi_rng h3.pX h3.pY
  have ra' := mi_rng h5.pX h5.pY
  have cst : ∀ c : Nat, c ≤ 36 → dT + (c : Rat) * gT ≤ dT + 36 * gT := fun c hc => by
    have : (c : Rat) ≤ 36 := by rw [show (36 : Rat) = ((36 : Nat) : Rat) from rfl, Rat.natCast_le_natCast]; exact hc
    have := Rat.mul_le_mul_of_nonneg_right this (show 0 ≤ gT by decide +kernel)
    grind
  have cst6 : ∀ c : Nat, c ≤ 6 → dT + (c : Rat) * gT ≤ dT + 6 * gT := fun c hc => by
    have : (c : Rat) ≤ 6 := by rw [show (6 : Rat) = ((6 : Nat) : Rat) from rfl, Rat.natCast_le_natCast]; exact hc
    have := Rat.mul_le_mul_of_nonneg_right this (show 0 ≤ gT by decide +kernel)
    grind
  have at' := at'.more (cst6 _ (by omega))
  have af := af.more (cst6 _ (by omega))
  have as' := as'.more (cst6 _ (by omega))
  have aa := aa.more (cst6 _ (by omega))
  have au := au.more (cst _ (by have := Nat.mul_le_mul (show 2 * ma ≤ 6 by omega) (show ma * 2 ≤ 6 by omega); omega))
  have s6 : dT + 6 * gT ≤ 1 / 1000 := by decide +kernel
  have e1 : 2 * (dT + 6 * gT) + (2 * two (-15) + ep4) ≤ 68 / 100000 := by decide +kernel
  have e2 : 2 * (dT + 6 * gT) + ep4 ≤ 68 / 100000 := by decide +kernel
  have e3 : 2 * (dT + 6 * gT) + (dT + 36 * gT) + 2 * two (-15) ≤ 136 / 100000 := by decide +kernel
  obtain ⟨f1, f2⟩ := td_rng af s6 rf.1 rf.2
  obtain ⟨g1, g2⟩ := td_rng as' s6 rs.1 rs.2
  obtain ⟨i1, i2⟩ := td_rng aa s6 ra'.1 ra'.2
  obtain ⟨x1, x2⟩ := le_mil nt nf (e := 2 * (dT + 6 * gT) + (2 * two (-15) + ep4)) (by obtain ⟨p1, p2⟩ := at'; obtain ⟨p3, p4⟩ := af; grind) e1 f1 f2
  obtain ⟨x3, x4⟩ := le_mil nt ns (e := 2 * (dT + 6 * gT) + ep4) (by obtain ⟨p1, p2⟩ := at'; obtain ⟨p3, p4⟩ := as'; grind) e2 g1 g2
  obtain ⟨x5, x6, x7⟩ := gap_mil nu nf na (e := 2 * (dT + 6 * gT) + (dT + 36 * gT) + 2 * two (-15)) (by
    obtain ⟨p1, p2⟩ := au
    obtain ⟨p3, p4⟩ := af
    obtain ⟨p5, p6⟩ := aa
    obtain ⟨p7, p8⟩ := d3
    constructor <;> grind) e3 f1 f2 i1 i2
  exact ⟨(up_o nt).1, (up_o nf).1, (up_o ns).1, (up_o nu).1, (up_o na).1, x1, x2, x3, x4, x5, x6, x7⟩
end Go.Proofs.Ytiejljlmbpgbiaa
