/- What weighed contexts cost against the best ones. Plain; conditions: what each theorem names. -/
import Derived.Test.YthafmldcfdcngaaWgP
import Derived.Test.YthafmldcfdcngaaLgS
namespace Go.Proofs.Ythafmldcfdcngaa
open Ieee
set_option maxRecDepth 100000
set_option linter.unusedVariables false
set_option linter.unusedSimpArgs false

def e15 : Rat := two (-15)
theorem e15_pos : 0 < e15 := two_pos _
theorem near512 {x r : Rat} (h : Rnd .f32 x r) (h1 : -512 < x) (h2 : x < 512) : r ≤ x + e15 ∧ x ≤ r + e15 := by
  have t : two (-15 + (pB .f32 : Int) + 1) = 512 := by decide +kernel
  by_cases h0 : 0 ≤ x
  · exact h.grid h0 (-15) (by decide) (by rw [t]; exact h2)
  · have := h.neg.grid (by grind) (-15) (by decide) (by rw [t]; grind)
    unfold e15
    constructor <;> grind
/-- What the logarithm of the chance at a place stands for. -/
theorem pc_log (bits : List Bool) (d i : Nat) (hi : i < 40) : ∃ l, Num .f32 (LOG (pcW bits d i)) l ∧ -8 ≤ l ∧ l ≤ 0 := by
  have hc := Nat.succ_le_succ (cnt_sub bits d (ctxN bits i d) (bits.getD i false) i)
  have hn := cnt_le bits d (ctxN bits i d) i
  obtain ⟨-, a, h1, h2, h3, ra⟩ := ch_num _ _ hc (by omega)
  have h1 : Num .f32 (pcW bits d i) a := h1
  obtain ⟨l, n, -, l0⟩ := log_nonpos h1 h2 h3
  have low : two (-(7 : Nat)) ≤ a := by
    refine ra.dn _ (rep_two _ _ (by decide)) ?_
    generalize cnt bits d (ctxN bits i d) (bits.getD i false) i = c at *
    generalize cnt bits d (ctxN bits i d) false i + cnt bits d (ctxN bits i d) true i = m at *
    have c0 : (0 : Rat) ≤ (c : Rat) := Rat.natCast_nonneg
    have m1 : ((m + 1 : Nat) : Rat) ≤ ((41 : Nat) : Rat) := Rat.natCast_le_natCast.2 (by omega)
    have m0 : ((1 : Nat) : Rat) ≤ ((m + 1 : Nat) : Rat) := Rat.natCast_le_natCast.2 (by omega)
    rw [show ((41 : Nat) : Rat) = 41 from rfl] at m1
    rw [show ((1 : Nat) : Rat) = 1 from rfl] at m0
    rw [show two (-(7 : Nat)) = 1 / 128 by decide +kernel]
    exact le_div_of (by grind) (by grind)
  obtain ⟨l', n', l1⟩ := log_least h1 7 (by decide) low
  have : l' = l := n'.unique n
  subst this
  exact ⟨l', n, l1, l0⟩
/-- The logarithm at a place as a number. -/
noncomputable def lv (bits : List Bool) (d i : Nat) : Rat := if h : i < 40 then Classical.choose (pc_log bits d i h) else 0
theorem lv_spec (bits : List Bool) (d i : Nat) (hi : i < 40) : Num .f32 (LOG (pcW bits d i)) (lv bits d i) ∧ -8 ≤ lv bits d i ∧ lv bits d i ≤ 0 := by
  unfold lv; rw [dif_pos hi]; exact Classical.choose_spec (pc_log bits d i hi)
/-- The exact sums: of a context, of the contexts with an ending, of all. -/
noncomputable def sx (bits : List Bool) (d m c : Nat) : Nat → Rat
  | 0 => 0
  | i + 1 => if ctxN bits i d % 2 ^ m = c then sx bits d m c i + lv bits d i else sx bits d m c i
/-- How many bits came so. -/
def nx (bits : List Bool) (d m c : Nat) : Nat → Nat
  | 0 => 0
  | i + 1 => if ctxN bits i d % 2 ^ m = c then nx bits d m c i + 1 else nx bits d m c i
noncomputable def st (bits : List Bool) (d : Nat) : Nat → Rat
  | 0 => 0
  | i + 1 => st bits d i + lv bits d i
theorem nx_le (bits : List Bool) (d m c i : Nat) : nx bits d m c i ≤ i := by
  induction i with
  | zero => simp [nx]
  | succ i ih => rw [nx]; split <;> omega
theorem sx_bd (bits : List Bool) (d m c i : Nat) (h : i ≤ 40) : -(8 * (nx bits d m c i : Rat)) ≤ sx bits d m c i ∧ sx bits d m c i ≤ 0 := by
  induction i with
  | zero => simp [nx, sx]
  | succ i ih =>
    have ih := ih (by omega)
    obtain ⟨-, l1, l2⟩ := lv_spec bits d i (by omega)
    rw [nx, sx]
    split
    · rw [Rat.natCast_add, show ((1 : Nat) : Rat) = 1 from rfl]; constructor <;> grind
    · exact ih
theorem mod_split (x m c : Nat) (hc : c < 2 ^ m) : (x % 2 ^ m = c ↔ x % 2 ^ (m + 1) = c ∨ x % 2 ^ (m + 1) = c + 2 ^ m) := by
  rw [Nat.pow_succ, Nat.mod_mul]
  have := Nat.mod_lt x (Nat.two_pow_pos m)
  have := Nat.mod_two_eq_zero_or_one (x / 2 ^ m)
  rcases this with h | h <;> rw [h] <;> omega
theorem sx_split (bits : List Bool) (d m c i : Nat) (hc : c < 2 ^ m) : sx bits d m c i = sx bits d (m + 1) c i + sx bits d (m + 1) (c + 2 ^ m) i ∧ nx bits d m c i = nx bits d (m + 1) c i + nx bits d (m + 1) (c + 2 ^ m) i := by
  induction i with
  | zero => exact ⟨(by decide +kernel : (0 : Rat) = 0 + 0), rfl⟩
  | succ i ih =>
    have hs := mod_split (ctxN bits i d) m c hc
    have hp := Nat.two_pow_pos m
    simp only [sx, nx]
    by_cases h1 : ctxN bits i d % 2 ^ (m + 1) = c
    · have h2 : ¬ ctxN bits i d % 2 ^ (m + 1) = c + 2 ^ m := by omega
      rw [if_pos (hs.2 (.inl h1)), if_pos (hs.2 (.inl h1)), if_pos h1, if_pos h1, if_neg h2, if_neg h2]
      constructor
      · have := ih.1; grind
      · have := ih.2; omega
    · by_cases h2 : ctxN bits i d % 2 ^ (m + 1) = c + 2 ^ m
      · rw [if_pos (hs.2 (.inr h2)), if_pos (hs.2 (.inr h2)), if_neg h1, if_neg h1, if_pos h2, if_pos h2]
        constructor
        · have := ih.1; grind
        · have := ih.2; omega
      · have h3 : ¬ ctxN bits i d % 2 ^ m = c := fun h => (hs.1 h).elim h1 h2
        rw [if_neg h3, if_neg h3, if_neg h1, if_neg h1, if_neg h2, if_neg h2]
        exact ih
theorem sx_all (bits : List Bool) (d i : Nat) : sx bits d 0 0 i = st bits d i := by
  induction i with
  | zero => rfl
  | succ i ih => rw [sx, st, ih, if_pos (by omega)]
theorem nx_all (bits : List Bool) (d i : Nat) : nx bits d 0 0 i = i := by
  induction i with
  | zero => rfl
  | succ i ih => rw [nx, ih, if_pos (by omega)]
/-- The sum of a context as computed. -/
theorem sm_near (bits : List Bool) (d c i : Nat) (h : i ≤ 40) : ∃ q, Num .f32 (smW bits d c i) q ∧ q ≤ 0 ∧ -(8 * (nx bits d d c i : Rat)) ≤ q ∧ sx bits d d c i - (nx bits d d c i : Rat) * e15 ≤ q := by
  induction i with
  | zero => exact ⟨0, num_zero .f32, by decide, by simp [nx], (by decide +kernel : (0 : Rat) - ((0 : Nat) : Rat) * e15 ≤ 0)⟩
  | succ i ih =>
    obtain ⟨q, n, q0, q1, q2⟩ := ih (by omega)
    obtain ⟨nl, l1, l2⟩ := lv_spec bits d i (by omega)
    have hm : ctxN bits i d % 2 ^ d = ctxN bits i d := Nat.mod_eq_of_lt (ctxN_lt bits i d)
    rw [smW, nx, sx, hm]
    split
    · have hx : ((nx bits d d c i : Nat) : Rat) ≤ ((39 : Nat) : Rat) := Rat.natCast_le_natCast.2 (by have := nx_le bits d d c i; omega)
      rw [show ((39 : Nat) : Rat) = 39 from rfl] at hx
      have b1 : Bd 9 (q + lv bits d i) := by rw [Bd, show two 9 = 512 from rfl]; constructor <;> grind
      obtain ⟨-, r, nr, rr⟩ := add_o n nl (k0 := 9) (by decide) b1
      have e1 := near512 rr (by grind) (by grind)
      refine ⟨r, nr, rr.nonpos (by grind), ?_, ?_⟩
      · have := rr.dn (-((8 * (nx bits d d c i + 1) : Nat) : Rat)) (rep_ints _ (by have := nx_le bits d d c i; omega) _) (by
          rw [Rat.natCast_mul, Rat.natCast_add, show ((1 : Nat) : Rat) = 1 from rfl, show ((8 : Nat) : Rat) = 8 from rfl]; grind)
        rw [Rat.natCast_mul, Rat.natCast_add, show ((1 : Nat) : Rat) = 1 from rfl, show ((8 : Nat) : Rat) = 8 from rfl] at this
        rw [Rat.natCast_add, show ((1 : Nat) : Rat) = 1 from rfl]
        grind
      · rw [Rat.natCast_add, show ((1 : Nat) : Rat) = 1 from rfl]
        grind
    · exact ⟨q, n, q0, q1, q2⟩
/-- Two weighed, both not above nought. -/
theorem cb_near {e s : Nat} {E S : Rat} (he : Num .f32 e E) (hs : Num .f32 s S) (E0 : E ≤ 0) (S0 : S ≤ 0) (E1 : -510 ≤ E) (S1 : -510 ≤ S) :
    ∃ r, Num .f32 (cbW e s) r ∧ r ≤ 0 ∧ E - lnbQ - e15 ≤ r ∧ S - lnbQ - e15 ≤ r := by
  have be : Bd 9 E := by rw [Bd, show two 9 = 512 from rfl]; constructor <;> grind
  have bs : Bd 9 S := by rw [Bd, show two 9 = 512 from rfl]; constructor <;> grind
  have lb := lnb_bd
  have key : ∀ {m l : Nat} {M L : Rat}, Num .f32 m M → Num .f32 l L → L ≤ M → M ≤ 0 → -510 ≤ M → Bd 9 M → Bd 9 L → ∃ r, Num .f32 (fadd .f32 m (LOG (hwW (fsub .f32 l m)))) r ∧ r ≤ 0 ∧ M - lnbQ - e15 ≤ r := by
    intro m l M L hm hl hle M0 M1 bm bl
    obtain ⟨-, -, -, y, g, r, ny, y0, y1, ng, -, nr, rr, -⟩ := cb_num hm hl hle bm bl (k0 := 9) (by decide) (by decide)
    obtain ⟨g1, ng1, -, a1⟩ := log_nonpos ny (by grind) y1
    obtain ⟨g2, ng2, a2⟩ := log_half ny y0
    have := ng1.unique ng
    have := ng2.unique ng
    subst_vars
    have e1 := near512 rr (by grind) (by grind)
    exact ⟨r, nr, rr.nonpos (by grind), by grind⟩
  unfold cbW
  rw [gt_iff he hs]
  by_cases h : E < S
  · rw [decide_eq_true h, if_pos rfl]
    obtain ⟨r, h1, h2, h3⟩ := key hs he (by grind) S0 S1 bs be
    exact ⟨r, h1, h2, by grind, h3⟩
  · rw [decide_eq_false h, if_neg (by simp)]
    obtain ⟨r, h1, h2, h3⟩ := key he hs (by grind) E0 E1 be bs
    exact ⟨r, h1, h2, h3, by grind⟩
/-- The weighed logarithm against the sum of the leaves. -/
theorem wg_near (bits : List Bool) (deep : Nat) (h : bits.length ≤ 40) (hd : deep ≤ 3) (r : Nat) (hr : r ≤ deep) (c : Nat) (hc : c < 2 ^ (deep - r)) :
    ∃ q, Num .f32 (wgW bits deep r c) q ∧ q ≤ 0 ∧ sx bits deep (deep - r) c bits.length - (nx bits deep (deep - r) c bits.length : Rat) * e15 - ((2 ^ r - 1 : Nat) : Rat) * (lnbQ + 2 * e15) ≤ q := by
  induction r generalizing c with
  | zero =>
    obtain ⟨q, n, q0, -, q2⟩ := sm_near bits deep c bits.length h
    refine ⟨q, n, q0, ?_⟩
    rw [Nat.sub_zero, show ((2 ^ 0 - 1 : Nat) : Rat) = 0 from rfl]
    grind
  | succ r ih =>
    have hm : deep - r = deep - (r + 1) + 1 := by omega
    have hp := Nat.two_pow_pos (deep - (r + 1))
    have hc1 : c < 2 ^ (deep - r) := by rw [hm, Nat.pow_succ]; omega
    have hc2 : c + 2 ^ (deep - (r + 1)) < 2 ^ (deep - r) := by rw [hm, Nat.pow_succ]; omega
    obtain ⟨a, na, a0, a1⟩ := ih (by omega) c hc1
    obtain ⟨b, nb, b0, b1⟩ := ih (by omega) _ hc2
    obtain ⟨e, ne, e0, e1, -⟩ := sm_near bits (deep - (r + 1)) c bits.length h
    obtain ⟨s1, s2⟩ := sx_split bits deep (deep - (r + 1)) c bits.length hc
    rw [← hm] at s1 s2
    have l1 := (sx_bd bits deep (deep - r) c bits.length h).1
    have l2 := (sx_bd bits deep (deep - r) (c + 2 ^ (deep - (r + 1))) bits.length h).1
    have nn := nx_le bits deep (deep - (r + 1)) c bits.length
    have en := nx_le bits (deep - (r + 1)) (deep - (r + 1)) c bits.length
    have en' : ((nx bits (deep - (r + 1)) (deep - (r + 1)) c bits.length : Nat) : Rat) ≤ ((40 : Nat) : Rat) := Rat.natCast_le_natCast.2 (by omega)
    rw [show ((40 : Nat) : Rat) = 40 from rfl] at en'
    have nn' : ((nx bits deep (deep - r) c bits.length : Nat) : Rat) + (nx bits deep (deep - r) (c + 2 ^ (deep - (r + 1))) bits.length : Rat) ≤ ((40 : Nat) : Rat) := by
      rw [← Rat.natCast_add]; exact Rat.natCast_le_natCast.2 (by omega)
    rw [show ((40 : Nat) : Rat) = 40 from rfl] at nn'
    rw [s1, s2, Rat.natCast_add]
    have hK : ((2 ^ (r + 1) - 1 : Nat) : Rat) = 2 * ((2 ^ r - 1 : Nat) : Rat) + 1 := by
      have : 2 ^ (r + 1) - 1 = 2 * (2 ^ r - 1) + 1 := by
        have := Nat.two_pow_pos r
        rw [Nat.pow_succ]; omega
      rw [this, Rat.natCast_add, Rat.natCast_mul]; rfl
    rw [hK]
    have hk : ((2 ^ r - 1 : Nat) : Rat) ≤ ((3 : Nat) : Rat) := Rat.natCast_le_natCast.2 (by
      have : 2 ^ r ≤ 2 ^ 2 := Nat.pow_le_pow_right (by decide) (by omega)
      omega)
    rw [show ((3 : Nat) : Rat) = 3 from rfl] at hk
    have hk0 : (0 : Rat) ≤ ((2 ^ r - 1 : Nat) : Rat) := Rat.natCast_nonneg
    generalize ((2 ^ r - 1 : Nat) : Rat) = K at *
    have lb := lnb_bd
    have ep := e15_pos
    have e1' : e15 ≤ 1 / 64 := by decide +kernel
    have kk := Rat.mul_le_mul_of_nonneg_right hk (show 0 ≤ lnbQ + 2 * e15 by grind)
    have x1 : (0 : Rat) ≤ ((nx bits deep (deep - r) c bits.length : Nat) : Rat) := Rat.natCast_nonneg
    have x2 : (0 : Rat) ≤ ((nx bits deep (deep - r) (c + 2 ^ (deep - (r + 1))) bits.length : Nat) : Rat) := Rat.natCast_nonneg
    generalize ((nx bits deep (deep - r) c bits.length : Nat) : Rat) = N1 at *
    generalize ((nx bits deep (deep - r) (c + 2 ^ (deep - (r + 1))) bits.length : Nat) : Rat) = N2 at *
    have m1 := Rat.mul_le_mul_of_nonneg_left e1' x1
    have m2 := Rat.mul_le_mul_of_nonneg_left e1' x2
    have bab : Bd 10 (a + b) := by rw [Bd, show two 10 = 1024 from rfl]; constructor <;> grind
    obtain ⟨-, s, ns, rs⟩ := add_o na nb (k0 := 10) (by decide) bab
    have es := near512 rs (by grind) (by grind)
    obtain ⟨q, nq, q0, -, q1⟩ := cb_near ne ns e0 (rs.nonpos (by grind)) (by grind) (by grind)
    refine ⟨q, nq, q0, ?_⟩
    grind
/-- Against the context of no bits. -/
theorem wg_root (bits : List Bool) (deep : Nat) (h : bits.length ≤ 40) (hd : deep ≤ 3) : ∃ q, Num .f32 (wgW bits deep deep 0) q ∧ q ≤ 0 ∧ st bits 0 bits.length - (bits.length : Rat) * e15 - lnbQ - e15 ≤ q ∧
    st bits deep bits.length - (bits.length : Rat) * e15 - ((2 ^ deep - 1 : Nat) : Rat) * (lnbQ + 2 * e15) ≤ q := by
  obtain ⟨q, nq, q0, q1⟩ := wg_near bits deep h hd deep (Nat.le_refl _) 0 (by rw [Nat.sub_self]; decide)
  rw [Nat.sub_self, sx_all, nx_all] at q1
  refine ⟨q, nq, q0, ?_, q1⟩
  have lb := lnb_bd
  have ep := e15_pos
  cases deep with
  | zero =>
    rw [show ((2 ^ 0 - 1 : Nat) : Rat) = 0 from rfl] at q1
    grind
  | succ r =>
    obtain ⟨e, ne, e0, e1, e2⟩ := sm_near bits 0 0 bits.length h
    rw [sx_all, nx_all] at e2
    rw [nx_all] at e1
    have hn : ((bits.length : Nat) : Rat) ≤ ((40 : Nat) : Rat) := Rat.natCast_le_natCast.2 h
    rw [show ((40 : Nat) : Rat) = 40 from rfl] at hn
    have hw : wgW bits (r + 1) (r + 1) 0 = cbW (smW bits 0 0 bits.length) (fadd .f32 (wgW bits (r + 1) r 0) (wgW bits (r + 1) r (0 + 2 ^ 0))) := by
      rw [wgW, Nat.sub_self]
    obtain ⟨a, na, a0, a1⟩ := wg_near bits (r + 1) h hd r (by omega) 0 (by exact Nat.two_pow_pos _)
    obtain ⟨b, nb, b0, b1⟩ := wg_near bits (r + 1) h hd r (by omega) (0 + 2 ^ 0) (by rw [show r + 1 - r = 1 by omega]; decide)
    have l1 := (sx_bd bits (r + 1) (r + 1 - r) 0 bits.length h).1
    have l2 := (sx_bd bits (r + 1) (r + 1 - r) (0 + 2 ^ 0) bits.length h).1
    have s2 := (sx_split bits (r + 1) 0 0 bits.length (by decide)).2
    rw [show r + 1 - r = 0 + 1 by omega] at a1 b1 l1 l2
    rw [nx_all] at s2
    have nn' : ((nx bits (r + 1) (0 + 1) 0 bits.length : Nat) : Rat) + (nx bits (r + 1) (0 + 1) (0 + 2 ^ 0) bits.length : Rat) ≤ ((40 : Nat) : Rat) := by
      rw [← Rat.natCast_add]; exact Rat.natCast_le_natCast.2 (by omega)
    rw [show ((40 : Nat) : Rat) = 40 from rfl] at nn'
    have hk : ((2 ^ r - 1 : Nat) : Rat) ≤ ((3 : Nat) : Rat) := Rat.natCast_le_natCast.2 (by
      have : 2 ^ r ≤ 2 ^ 2 := Nat.pow_le_pow_right (by decide) (by omega)
      omega)
    rw [show ((3 : Nat) : Rat) = 3 from rfl] at hk
    have hk0 : (0 : Rat) ≤ ((2 ^ r - 1 : Nat) : Rat) := Rat.natCast_nonneg
    generalize ((2 ^ r - 1 : Nat) : Rat) = K at *
    have e1' : e15 ≤ 1 / 64 := by decide +kernel
    have kk := Rat.mul_le_mul_of_nonneg_right hk (show 0 ≤ lnbQ + 2 * e15 by grind)
    have x1 : (0 : Rat) ≤ ((nx bits (r + 1) (0 + 1) 0 bits.length : Nat) : Rat) := Rat.natCast_nonneg
    have x2 : (0 : Rat) ≤ ((nx bits (r + 1) (0 + 1) (0 + 2 ^ 0) bits.length : Nat) : Rat) := Rat.natCast_nonneg
    generalize ((nx bits (r + 1) (0 + 1) 0 bits.length : Nat) : Rat) = N1 at *
    generalize ((nx bits (r + 1) (0 + 1) (0 + 2 ^ 0) bits.length : Nat) : Rat) = N2 at *
    have m1 := Rat.mul_le_mul_of_nonneg_left e1' x1
    have m2 := Rat.mul_le_mul_of_nonneg_left e1' x2
    have bab : Bd 10 (a + b) := by rw [Bd, show two 10 = 1024 from rfl]; constructor <;> grind
    obtain ⟨-, s, ns, rs⟩ := add_o na nb (k0 := 10) (by decide) bab
    have es := near512 rs (by grind) (by grind)
    obtain ⟨q', nq', -, q2, -⟩ := cb_near ne ns e0 (rs.nonpos (by grind)) (by grind) (by grind)
    rw [← hw] at nq'
    have := nq'.unique nq
    subst this
    grind
/-- The cost of a bit. -/
theorem cost_near (bits : List Bool) (d i : Nat) (h : i < 40) : ∃ g, Num .f32 (costW (pcW bits d i)) g ∧ 0 ≤ g ∧ g ≤ 12 ∧ g ≤ -lv bits d i / lnbQ + e15 ∧ -lv bits d i / lnbQ ≤ g + e15 := by
  obtain ⟨nl, l1, l2⟩ := lv_spec bits d i h
  have lb : (2 : Rat) / 3 ≤ lnbQ := by decide +kernel
  have q0 : 0 ≤ -lv bits d i / lnbQ := le_div_of (by grind) (by grind)
  have q1 : -lv bits d i / lnbQ ≤ 12 := div_le_of (by grind) (by grind)
  have b : Bd 9 (-lv bits d i / lnbQ) := by rw [Bd, show two 9 = 512 from rfl]; constructor <;> grind
  obtain ⟨-, g, ng, rg⟩ := div_o (neg_num nl) num_lnb (by grind) (k0 := 9) (by decide) (by decide) b
  have e := near512 rg (by grind) (by grind)
  refine ⟨g, ng, rg.nonneg q0, ?_, e.1, e.2⟩
  have := rg.up ((12 : Int) : Rat) (rep_int .f32 12 (by decide)) q1
  exact this
theorem al_near (bits : List Bool) (d i : Nat) (h : i ≤ 40) : ∃ q, Num .f32 (alW bits d i) q ∧ 0 ≤ q ∧ q ≤ 12 * (i : Rat) ∧ -st bits d i / lnbQ - 2 * (i : Rat) * e15 ≤ q := by
  induction i with
  | zero => exact ⟨0, num_zero .f32, by decide, by decide +kernel, by rw [st]; decide +kernel⟩
  | succ i ih =>
    obtain ⟨q, nq, q0, q1, q2⟩ := ih (by omega)
    obtain ⟨g, ng, g0, g1, -, g2⟩ := cost_near bits d i (by omega)
    have hi : (i : Rat) ≤ ((39 : Nat) : Rat) := Rat.natCast_le_natCast.2 (by omega)
    rw [show ((39 : Nat) : Rat) = 39 from rfl] at hi
    have b : Bd 9 (q + g) := by rw [Bd, show two 9 = 512 from rfl]; constructor <;> grind
    obtain ⟨-, r, nr, rr⟩ := add_o nq ng (k0 := 9) (by decide) b
    have e := near512 rr (by grind) (by grind)
    refine ⟨r, nr, rr.nonneg (by grind), ?_, ?_⟩
    · have := rr.up ((12 * ((i : Int) + 1) : Int) : Rat) (rep_int .f32 _ (by have : 2 * binK .f32 = 16777216 := rfl; omega)) (by
        rw [Rat.intCast_mul, Rat.intCast_add, Rat.intCast_natCast, show ((1 : Int) : Rat) = 1 from rfl, show ((12 : Int) : Rat) = 12 from rfl]; grind)
      rw [Rat.intCast_mul, Rat.intCast_add, Rat.intCast_natCast, show ((1 : Int) : Rat) = 1 from rfl, show ((12 : Int) : Rat) = 12 from rfl] at this
      rw [Rat.natCast_add, show ((1 : Nat) : Rat) = 1 from rfl]
      exact this
    · rw [st, Rat.natCast_add, show ((1 : Nat) : Rat) = 1 from rfl]
      have : -(st bits d i + lv bits d i) / lnbQ = -st bits d i / lnbQ + -lv bits d i / lnbQ := by
        rw [Rat.div_def, Rat.div_def, Rat.div_def]; grind
      rw [this]
      grind
/-- What FnContexts asks of the three costs. -/
theorem wb_near (bits : List Bool) (deep : Nat) (h : bits.length ≤ 40) (hd : deep ≤ 3) : ∃ w b p, Num .f32 (wbW bits deep) w ∧ Num .f32 (alW bits deep bits.length) b ∧ Num .f32 (alW bits 0 bits.length) p ∧
    0 ≤ w ∧ 0 ≤ b ∧ 0 ≤ p ∧ w ≤ 1024 ∧ b ≤ 1024 ∧ p ≤ 1024 ∧ w ≤ p + 1 + 9 / 1000 ∧ w ≤ b + ((2 ^ deep - 1 : Nat) : Rat) + 9 / 1000 := by
  obtain ⟨q, nq, q0, q1, q2⟩ := wg_root bits deep h hd
  obtain ⟨b, nb, b0, b1, b2⟩ := al_near bits deep bits.length h
  obtain ⟨p, np, p0, p1, p2⟩ := al_near bits 0 bits.length h
  obtain ⟨-, q', w, nq', nw, rw'⟩ := wb_num bits deep (by omega) (by omega)
  have := nq'.unique nq
  subst this
  have hn : ((bits.length : Nat) : Rat) ≤ ((40 : Nat) : Rat) := Rat.natCast_le_natCast.2 h
  rw [show ((40 : Nat) : Rat) = 40 from rfl] at hn
  have hn0 : (0 : Rat) ≤ ((bits.length : Nat) : Rat) := Rat.natCast_nonneg
  have lb : (2 : Rat) / 3 ≤ lnbQ := by decide +kernel
  have ep := e15_pos
  have e1 : e15 ≤ 1 / 32000 := by decide +kernel
  have hk : ((2 ^ deep - 1 : Nat) : Rat) ≤ ((7 : Nat) : Rat) := Rat.natCast_le_natCast.2 (by
    have : 2 ^ deep ≤ 2 ^ 3 := Nat.pow_le_pow_right (by decide) (by omega)
    omega)
  rw [show ((7 : Nat) : Rat) = 7 from rfl] at hk
  have hk0 : (0 : Rat) ≤ ((2 ^ deep - 1 : Nat) : Rat) := Rat.natCast_nonneg
  generalize ((2 ^ deep - 1 : Nat) : Rat) = K at *
  generalize ((bits.length : Nat) : Rat) = n at *
  generalize st bits deep bits.length = s1 at *
  generalize st bits 0 bits.length = s0 at *
  have d0 := Rat.div_mul_cancel (a := -q') (b := lnbQ) (by grind)
  have d1 := Rat.div_mul_cancel (a := -s1) (b := lnbQ) (by grind)
  have d2 := Rat.div_mul_cancel (a := -s0) (b := lnbQ) (by grind)
  generalize -q' / lnbQ = x at *
  generalize -s1 / lnbQ = x1 at *
  generalize -s0 / lnbQ = x0 at *
  have ne := Rat.mul_le_mul_of_nonneg_right hn (Rat.le_of_lt ep)
  have ke := Rat.mul_le_mul_of_nonneg_right hk (Rat.le_of_lt ep)
  have c2 : x ≤ x1 + K + 3 / 1000 + 2 / 1000 := by
    refine Rat.not_lt.1 fun hl => ?_
    have := Rat.mul_lt_mul_of_pos_right hl (show 0 < lnbQ by grind)
    grind
  have c0 : x ≤ x0 + 1 + 3 / 1000 + 2 / 1000 := by
    refine Rat.not_lt.1 fun hl => ?_
    have := Rat.mul_lt_mul_of_pos_right hl (show 0 < lnbQ by grind)
    grind
  have x0' : 0 ≤ x := by
    refine Rat.not_lt.1 fun hl => ?_
    have := Rat.mul_lt_mul_of_pos_right hl (show 0 < lnbQ by grind)
    grind
  have nr : w ≤ x + 1 / 10000 := by
    have := (rw'.grid x0' (-14) (by decide) (by rw [show two (-14 + (pB .f32 : Int) + 1) = 1024 by decide +kernel]; grind)).1
    have e2 : two (-14) ≤ 1 / 10000 := by decide +kernel
    grind
  exact ⟨w, b, p, nw, nb, np, rw'.nonneg x0', b0, p0, by grind, by grind, by grind, by grind, by grind⟩
end Go.Proofs.Ythafmldcfdcngaa
