/- What is learned, and the chances of FnContexts. Plain; conditions: what each theorem names. -/
import Derived.Test.YthafmldcfdcngaaMixQ
namespace Go.Proofs.Ythafmldcfdcngaa
open Ieee
set_option maxRecDepth 100000
set_option linter.unusedVariables false
set_option linter.unusedSimpArgs false

/-- What was missed. -/
def msW (bit : Bool) (m : Nat) : Nat := if bit then fsub .f32 1065353216 m else fsub .f32 0 m
theorem ms_num (bit : Bool) {x : Nat} {m : Rat} (h : Num .f32 x m) (h0 : 0 < m) (h1 : m ≤ 1) : floatBits .sub .f32 0 x = some (fsub .f32 0 x) ∧ floatBits .sub .f32 1065353216 x = some (fsub .f32 1065353216 x) ∧ ∃ M, Num .f32 (msW bit x) M ∧ -1 ≤ M ∧ M ≤ 1 ∧ (bit = true → 0 ≤ M) ∧ (bit = false → M ≤ 0) := by
  have b0 : Bd 0 (0 - m) := by rw [Bd, show two 0 = 1 from rfl]; constructor <;> grind
  have b1 : Bd 0 (1 - m) := by rw [Bd, show two 0 = 1 from rfl]; constructor <;> grind
  obtain ⟨g0, r0, n0, k0⟩ := sub_o (num_zero .f32) h (k0 := 0) (by decide) b0
  obtain ⟨g1, r1, n1, k1⟩ := sub_o num_onef h (k0 := 0) (by decide) b1
  refine ⟨g0, g1, ?_⟩
  have c0 := k0.bd (by decide) b0
  have c1 := k1.bd (by decide) b1
  rw [Bd, show two 0 = 1 from rfl] at c0 c1
  cases bit
  · exact ⟨r0, n0, c0.1, c0.2, fun h => absurd h (by decide), fun _ => k0.nonpos (by grind)⟩
  · exact ⟨r1, n1, c1.1, c1.2, fun _ => k1.nonneg (by grind), fun h => absurd h (by decide)⟩
/-- A learned weight. -/
def ulW (w m s : Nat) : Nat := fadd .f32 w (fmul .f32 1040187392 (fmul .f32 m s))
theorem ul_num {w m s : Nat} {W M S : Rat} (hw : Num .f32 w W) (hm : Num .f32 m M) (hs : Num .f32 s S) (w1 : -1 ≤ W) (w2 : W ≤ 1) (m1 : -1 ≤ M) (m2 : M ≤ 1) (s1 : -(271 / 100) ≤ S) (s2 : S ≤ 271 / 100) :
    floatBits .mul .f32 m s = some (fmul .f32 m s) ∧ floatBits .mul .f32 1040187392 (fmul .f32 m s) = some (fmul .f32 1040187392 (fmul .f32 m s)) ∧ floatBits .add .f32 w (fmul .f32 1040187392 (fmul .f32 m s)) = some (ulW w m s) ∧
    ∃ V, Num .f32 (ulW w m s) V ∧ -(27 / 20) ≤ V ∧ V ≤ 27 / 20 ∧ (0 ≤ M → W * S ≤ V * S + 3 * two (-23)) ∧ (M ≤ 0 → V * S ≤ W * S + 3 * two (-23)) := by
  have p := mul_abs m1 m2 s1 s2
  have b1 : Bd 2 (M * S) := by rw [Bd, show two 2 = 4 from rfl]; constructor <;> grind
  obtain ⟨g1, a, na, ra⟩ := mul_o hm hs (k0 := 2) (by decide) b1
  have r24 : Rep .f32 (((22 : Nat) : Rat) * two (-3)) := rep32 _ _ (by decide) (by decide)
  have e22 : ((22 : Nat) : Rat) * two (-3) = 11 / 4 := by decide +kernel
  have a2 : a ≤ 11 / 4 := by have := ra.up _ r24 (by rw [e22]; grind); rwa [e22] at this
  have a1 : -(11 / 4) ≤ a := by have := ra.dn _ r24.neg (by rw [e22]; grind); rwa [e22] at this
  have b2 : Bd (-1) (1 / 8 * a) := by rw [Bd, two_m1]; constructor <;> grind
  obtain ⟨g2, b, nb, rb⟩ := mul_o num_eighth na (k0 := -1) (by decide) b2
  have r26 : Rep .f32 (((22 : Nat) : Rat) * two (-6)) := rep32 _ _ (by decide) (by decide)
  have e26 : ((22 : Nat) : Rat) * two (-6) = 11 / 32 := by decide +kernel
  have b2' : b ≤ 11 / 32 := by have := rb.up _ r26 (by rw [e26]; grind); rwa [e26] at this
  have b1' : -(11 / 32) ≤ b := by have := rb.dn _ r26.neg (by rw [e26]; grind); rwa [e26] at this
  have b3 : Bd 1 (W + b) := by rw [Bd, show two 1 = 2 from rfl]; constructor <;> grind
  obtain ⟨g3, V, nV, rV⟩ := add_o hw nb (k0 := 1) (by decide) b3
  have t := nearF (-23) (by decide) rV (by rw [show two (-23 + (pB .f32 : Int) + 1) = 2 by decide +kernel]; grind) (by rw [show two (-23 + (pB .f32 : Int) + 1) = 2 by decide +kernel]; grind)
  have r43 : Rep .f32 (((43 : Nat) : Rat) * two (-5)) := rep32 _ _ (by decide) (by decide)
  have e43 : ((43 : Nat) : Rat) * two (-5) = 43 / 32 := by decide +kernel
  have v2 : V ≤ 43 / 32 := by have := rV.up _ r43 (by rw [e43]; grind); rwa [e43] at this
  have v1 : -(43 / 32) ≤ V := by have := rV.dn _ r43.neg (by rw [e43]; grind); rwa [e43] at this
  have tp := two_pos (-23)
  have err := mul_abs (a := V - W - b) (A := two (-23)) (by grind) (by grind) s1 s2
  have spos : ∀ x y : Rat, 0 ≤ x → 0 ≤ y → 0 ≤ x * y := fun x y => Rat.mul_nonneg
  refine ⟨g1, g2, g3, V, nV, by grind, by grind, fun h0 => ?_, fun h0 => ?_⟩
  · have bs : 0 ≤ b * S := by
      by_cases hS : 0 ≤ S
      · have := rb.nonneg (by have := ra.nonneg (spos _ _ h0 hS); grind)
        exact spos _ _ this hS
      · have := rb.nonpos (by have := ra.nonpos (by have := spos _ _ h0 (show 0 ≤ -S by grind); grind); grind)
        have := spos _ _ (show 0 ≤ -b by grind) (show 0 ≤ -S by grind)
        grind
    grind
  · have bs : b * S ≤ 0 := by
      by_cases hS : 0 ≤ S
      · have := rb.nonpos (by have := ra.nonpos (by have := spos _ _ (show 0 ≤ -M by grind) hS; grind); grind)
        have := spos _ _ (show 0 ≤ -b by grind) hS
        grind
      · have := rb.nonneg (by have := ra.nonneg (by have := spos _ _ (show 0 ≤ -M by grind) (show 0 ≤ -S by grind); grind); grind)
        have := spos _ _ this (show 0 ≤ -S by grind)
        grind
    grind
theorem muQ_up {W V S : Nat → Rat} {d : Rat} (n : Nat) (h : ∀ i, i < n → W i * S i ≤ V i * S i + d) : muQ W S n ≤ muQ V S n + (n : Rat) * d := by
  induction n with
  | zero => rw [muQ, muQ, show ((0 : Nat) : Rat) = 0 from rfl]; grind
  | succ n ih =>
    have := ih (fun i hi => h i (by omega))
    have := h n (by omega)
    rw [muQ, muQ, Rat.natCast_add, show ((1 : Nat) : Rat) = 1 from rfl]
    grind
/-- A chance stretched. -/
def stW (p : Nat) : Nat := LOG (fdiv .f32 p (fsub .f32 1065353216 p))
/-- The chances and weights of FnContexts. -/
def pcI (c : Int) : Nat := fdiv .f32 (I32 c) 1098907648
def wtI (c : Int) : Nat := fdiv .f32 (I32 c) 1082130432
theorem num_16f : Num .f32 1098907648 16 := ⟨false, 2 ^ 23, -19, by decide +kernel, by decide +kernel⟩
theorem num_4f : Num .f32 1082130432 4 := ⟨false, 2 ^ 23, -21, by decide +kernel, by decide +kernel⟩
theorem num_271 : Num .f32 1076717263 (11364047 * two (-22)) := ⟨false, 11364047, -22, by decide +kernel, by decide +kernel⟩
theorem num_271n : Num .f32 3224200911 (-(11364047 * two (-22))) := ⟨true, 11364047, -22, by decide +kernel, by decide +kernel⟩
theorem num_17f : Num .f32 1099431936 17 := ⟨false, 8912896, -19, by decide +kernel, by decide +kernel⟩
theorem wt_num (c : Int) (h : -4 ≤ c) (h' : c ≤ 4) : floatBits .quo .f32 (I32 c) 1082130432 = some (wtI c) ∧ ∃ W, Num .f32 (wtI c) W ∧ -1 ≤ W ∧ W ≤ 1 := by
  have nc := i32_num c (by omega)
  have c1 : (-4 : Rat) ≤ c := by rw [show (-4 : Rat) = ((-4 : Int) : Rat) from rfl, Rat.intCast_le_intCast]; exact h
  have c2 : (c : Rat) ≤ 4 := by rw [show (4 : Rat) = ((4 : Int) : Rat) from rfl, Rat.intCast_le_intCast]; exact h'
  have b : Bd 0 ((c : Rat) / 4) := by
    rw [Bd, show two 0 = 1 from rfl]
    exact ⟨le_div_of (by decide +kernel) (by grind), div_le_of (by decide +kernel) (by grind)⟩
  obtain ⟨g, W, n, r⟩ := div_o nc num_4f (by decide +kernel) (k0 := 0) (by decide) (by decide) b
  have := r.bd (by decide) b
  rw [Bd, show two 0 = 1 from rfl] at this
  exact ⟨g, W, n, this.1, this.2⟩
/-- A word between two numbers is a number between them. -/
theorem num_between {x lo hi : Nat} {a b : Rat} (hlo : Num .f32 lo a) (hhi : Num .f32 hi b) (h1 : FloatKind.f32.format.order x lo = some .gt) (h2 : FloatKind.f32.format.order x hi = some .lt) : ∃ q, Num .f32 x q ∧ a < q ∧ q < b := by
  rcases kinds .f32 x with ⟨q, h⟩ | ⟨s, h⟩ | h
  · refine ⟨q, h, ?_, ?_⟩
    · rw [order_num h hlo] at h1
      exact cmp_gt.1 (Option.some.inj h1)
    · rw [order_num h hhi] at h2
      exact cmp_lt.1 (Option.some.inj h2)
  · rw [order_inf_num h hlo] at h1
    rw [order_inf_num h hhi] at h2
    cases s <;> simp at h1 h2
  · rw [order_nan_l h] at h1
    cases h1
def pcOk (p : Nat) : Bool := FloatKind.f32.format.order p 0 == some .gt && FloatKind.f32.format.order p 1065353216 == some .lt &&
  FloatKind.f32.format.order (fdiv .f32 p (fsub .f32 1065353216 p)) 0 == some .gt && FloatKind.f32.format.order (fdiv .f32 p (fsub .f32 1065353216 p)) 1099431936 == some .lt &&
  floatBits .sub .f32 1065353216 p == some (fsub .f32 1065353216 p) && floatBits .quo .f32 p (fsub .f32 1065353216 p) == some (fdiv .f32 p (fsub .f32 1065353216 p)) &&
  FloatKind.f32.format.order (stW p) 3224200911 == some .gt && FloatKind.f32.format.order (stW p) 1076717263 == some .lt
/-- Each chance: the operations are as they must be, and the stretched chance is small. -/
theorem pc_ops : ∀ c : Fin 15, floatBits .quo .f32 (I32 ((c.val : Int) + 1)) 1098907648 = some (pcI ((c.val : Int) + 1)) ∧ pcOk (pcI ((c.val : Int) + 1)) = true := by decide +kernel
/-- A chance that may be stretched, and comes out small. -/
structure StP (p : Nat) (P S : Rat) : Prop where
  np : Num .f32 p P
  p0 : 0 < P
  p1 : P < 1
  o0 : FloatKind.f32.format.order p 0 = some .gt
  o1 : FloatKind.f32.format.order p 1065353216 = some .lt
  s : floatBits .sub .f32 1065353216 p = some (fsub .f32 1065353216 p)
  d : floatBits .quo .f32 p (fsub .f32 1065353216 p) = some (fdiv .f32 p (fsub .f32 1065353216 p))
  nd : ∃ D, Num .f32 (fdiv .f32 p (fsub .f32 1065353216 p)) D ∧ 0 < D
  ns : Num .f32 (stW p) S
  s1 : -(271 / 100) ≤ S
  s2 : S ≤ 271 / 100
theorem stp_of {p : Nat} (h : pcOk p = true) : ∃ P S, StP p P S := by
  unfold pcOk at h
  simp only [Bool.and_eq_true, beq_iff_eq] at h
  obtain ⟨⟨⟨⟨⟨⟨⟨a1, a2⟩, a3⟩, a4⟩, a5⟩, a6⟩, a7⟩, a8⟩ := h
  obtain ⟨P, nP, P0, P1⟩ := num_between (num_zero .f32) num_onef a1 a2
  obtain ⟨D, nD, D0, -⟩ := num_between (num_zero .f32) num_17f a3 a4
  obtain ⟨S, nS, S0, S1⟩ := num_between num_271n num_271 a7 a8
  have k : 11364047 * two (-22) ≤ 271 / 100 := by decide +kernel
  exact ⟨P, S, nP, P0, P1, a1, a2, a5, a6, ⟨D, nD, D0⟩, nS, by grind, by grind⟩
theorem pc_all (c : Int) (h : 1 ≤ c) (h' : c ≤ 15) : floatBits .quo .f32 (I32 c) 1098907648 = some (pcI c) ∧ ∃ P S, StP (pcI c) P S := by
  have := pc_ops ⟨(c - 1).toNat, by omega⟩
  dsimp only at this
  rw [show (((c - 1).toNat : Int) + 1) = c by omega] at this
  exact ⟨this.1, stp_of this.2⟩
/-- What FnContexts asks of the mixture. -/
theorem mix_law (bit : Bool) {ws ss : Nat → Nat} {W S : Nat → Rat} {n : Nat} (hn : n ≤ 4) (hw : ∀ i, i < n → Num .f32 (ws i) (W i) ∧ -1 ≤ W i ∧ W i ≤ 1) (hs : ∀ i, i < n → Num .f32 (ss i) (S i) ∧ -(271 / 100) ≤ S i ∧ S i ≤ 271 / 100)
    {us : Nat → Nat} (hu : ∀ i, i < n → us i = ulW (ws i) (msW bit (mxW (muW ws ss n))) (ss i)) :
    ∃ q q' m m' M, Num .f32 (muW ws ss n) q ∧ -16 ≤ q ∧ q ≤ 11 ∧ Num .f32 (mxW (muW ws ss n)) m ∧ 0 < m ∧ m < 1 ∧ Num .f32 (msW bit (mxW (muW ws ss n))) M ∧ -1 ≤ M ∧ M ≤ 1 ∧ MuOk ws ss n ∧
      (∀ i, i < n → ∃ V, Num .f32 (us i) V ∧ -(27 / 20) ≤ V ∧ V ≤ 27 / 20) ∧ MuOk us ss n ∧ Num .f32 (muW us ss n) q' ∧ -16 ≤ q' ∧ q' ≤ 16 ∧ Num .f32 (mxW (muW us ss n)) m' ∧ 0 < m' ∧ m' ≤ 1 ∧
      (bit = true → m ≤ m' + 1 / 15000) ∧ (bit = false → m' ≤ m + 1 / 15000) := by
  have t22 : two (-22) ≤ 1 / 100000 := by decide +kernel
  have t22p := two_pos (-22)
  have t23 : two (-23) = two (-22) / 2 := by decide +kernel
  have t16 : two (-16) = 64 * two (-22) := by decide +kernel
  have n4 : (n : Rat) ≤ ((4 : Nat) : Rat) := Rat.natCast_le_natCast.2 hn
  rw [show ((4 : Nat) : Rat) = 4 from rfl] at n4
  have n0 : (0 : Rat) ≤ (n : Rat) := Rat.natCast_nonneg
  have ne := Rat.mul_le_mul_of_nonneg_right n4 (show 0 ≤ two (-22) by grind)
  obtain ⟨ok, q, nq, q1, q2, q3, q4⟩ := mu_near hn (B := 1) (by decide +kernel) hw hs n (Nat.le_refl _)
  obtain ⟨-, -, -, r, A, m, -, -, -, -, -, nm, -, m0, m1, m2⟩ := mx_num nq (by grind) (by grind)
  have m3 := m2 (by grind)
  obtain ⟨-, -, M, nM, M1, M2, M3, M4⟩ := ms_num bit nm m0 m1
  have hV : ∀ i, ∃ V, i < n → Num .f32 (us i) V ∧ -(27 / 20) ≤ V ∧ V ≤ 27 / 20 ∧ (0 ≤ M → W i * S i ≤ V * S i + 3 * two (-23)) ∧ (M ≤ 0 → V * S i ≤ W i * S i + 3 * two (-23)) := by
    intro i
    by_cases hi : i < n
    · obtain ⟨nw, w1, w2⟩ := hw i hi
      obtain ⟨ns, s1, s2⟩ := hs i hi
      obtain ⟨-, -, -, V, x⟩ := ul_num nw nM ns w1 w2 M1 M2 s1 s2
      rw [← hu i hi] at x
      exact ⟨V, fun _ => x⟩
    · exact ⟨0, fun h => absurd h hi⟩
  obtain ⟨V, hV⟩ := Classical.axiomOfChoice hV
  obtain ⟨ok', q', nq', q1', q2', q3', q4'⟩ := mu_near hn (B := 27 / 20) (by decide +kernel) (fun i hi => ⟨(hV i hi).1, (hV i hi).2.1, (hV i hi).2.2.1⟩) hs n (Nat.le_refl _)
  obtain ⟨-, -, -, r', A', m', -, -, -, -, -, nm', -, m0', m1', -⟩ := mx_num nq' (by grind) (by grind)
  refine ⟨q, q', m, m', M, nq, by grind, by grind, nm, m0, m3, nM, M1, M2, ok, fun i hi => ⟨V i, (hV i hi).1, (hV i hi).2.1, (hV i hi).2.2.1⟩, ok', nq', by grind, by grind, nm', m0', m1', fun hb => ?_, fun hb => ?_⟩
  · have hQ := muQ_up n (fun i hi => (hV i hi).2.2.2.1 (M3 hb))
    rw [t23, show (n : Rat) * (3 * (two (-22) / 2)) = (n : Rat) * two (-22) * (3 / 2) by grind] at hQ
    rw [show (n : Rat) * (5 * two (-22)) = (n : Rat) * two (-22) * 5 by grind] at q1 q2 q1' q2'
    obtain ⟨x, x', nx, nx', hx⟩ := mx_mono nq nq' (by grind) (by grind) (by grind) (by grind) (by grind)
    have := nx.unique nm
    have := nx'.unique nm'
    subst_vars
    exact hx
  · have hQ := muQ_up n (fun i hi => (hV i hi).2.2.2.2 (M4 hb))
    rw [t23, show (n : Rat) * (3 * (two (-22) / 2)) = (n : Rat) * two (-22) * (3 / 2) by grind] at hQ
    rw [show (n : Rat) * (5 * two (-22)) = (n : Rat) * two (-22) * 5 by grind] at q1 q2 q1' q2'
    obtain ⟨x', x, nx', nx, hx⟩ := mx_mono nq' nq (by grind) (by grind) (by grind) (by grind) (by grind)
    have := nx.unique nm
    have := nx'.unique nm'
    subst_vars
    exact hx
end Go.Proofs.Ythafmldcfdcngaa
