/- The logarithm of rationals: the one inequality, products, and the computed one beside it. Plain; conditions: what each theorem names. -/
import Derived.Test.YtiejljlmbpgbiaaLnE
namespace Go.Proofs.Ytiejljlmbpgbiaa
open Ieee
set_option maxRecDepth 100000
set_option linter.unusedVariables false
set_option linter.unusedSimpArgs false

theorem rep_ex {a : Rat} (h : 0 < a) : ∃ E m, a = two E * m ∧ 3 / 4 ≤ m ∧ m ≤ 3 / 2 := by
  obtain ⟨e, h1, h2⟩ := between h
  have te := two_pos e
  have c : two e * two (-e) = 1 := by rw [← two_add, Int.add_right_neg]; rfl
  have tn := two_pos (-e)
  have m1 := Rat.mul_le_mul_of_nonneg_right h1 (Rat.le_of_lt tn)
  have m2 := Rat.mul_lt_mul_of_pos_right h2 tn
  rw [two_next] at m2
  by_cases hm : a * two (-e) ≤ 3 / 2
  · exact ⟨e, a * two (-e), by grind, by grind, hm⟩
  · refine ⟨e + 1, a * two (-e) * (1 / 2), ?_, by grind, by grind⟩
    rw [two_next]; grind
noncomputable def Lr (a : Rat) : Rat := if h : 0 < a then Lx (Classical.choose (rep_ex h)) (Classical.choose (Classical.choose_spec (rep_ex h))) else 0
theorem lr_rep {a : Rat} (h : 0 < a) : ∃ E m, a = two E * m ∧ 3 / 4 ≤ m ∧ m ≤ 3 / 2 ∧ Lr a = Lx E m := by
  refine ⟨Classical.choose (rep_ex h), Classical.choose (Classical.choose_spec (rep_ex h)), ?_⟩
  obtain ⟨a1, a2, a3⟩ := Classical.choose_spec (Classical.choose_spec (rep_ex h))
  exact ⟨a1, a2, a3, by rw [Lr, dif_pos h]⟩
/-- What is neither too small nor too great. -/
def In (a : Rat) : Prop := two (-100) ≤ a ∧ a ≤ two 100
theorem In.pos {a : Rat} (h : In a) : 0 < a := by have := two_pos (-100); have := h.1; grind
theorem in_of {a : Rat} {i j : Int} (hi : -100 ≤ i) (hj : j ≤ 100) (h1 : two i ≤ a) (h2 : a ≤ two j) : In a := ⟨Rat.le_trans (two_le hi) h1, Rat.le_trans h2 (two_le hj)⟩
theorem In.exp {a : Rat} (h : In a) {E : Int} {m : Rat} (ha : a = two E * m) (h1 : 3 / 4 ≤ m) (h2 : m ≤ 3 / 2) : -101 ≤ E ∧ E ≤ 101 := by
  obtain ⟨i1, i2⟩ := h
  have te := two_pos E
  constructor
  · refine Int.not_lt.1 fun hn => ?_
    have t1 := two_le (show E ≤ -102 by omega)
    have k1 := Rat.mul_le_mul_of_nonneg_right h2 (Rat.le_of_lt te)
    have k2 : two (-100) = 4 * two (-102) := by decide +kernel
    have := two_pos (-102)
    clear hn
    generalize two E = s at *
    generalize two (-102) = t at *
    grind
  · refine Int.not_lt.1 fun hn => ?_
    have t1 := two_le (show 102 ≤ E by omega)
    have k1 := Rat.mul_le_mul_of_nonneg_right h1 (Rat.le_of_lt te)
    have k2 : two 102 = 4 * two 100 := by decide +kernel
    have := two_pos 100
    clear hn
    generalize two E = s at *
    generalize two 100 = t at *
    grind
def ep4 : Rat := two (-40)
theorem ep4_pos : 0 < ep4 := two_pos _
/-- The one inequality. -/
theorem lt_r {x y : Rat} (hx : In x) (hy : In y) : (Lr x - Lr y - ep4) * y ≤ x - y := by
  obtain ⟨E, m, e1, a1, a2, l1⟩ := lr_rep hx.pos
  obtain ⟨E', m', e2, b1, b2, l2⟩ := lr_rep hy.pos
  have k1 := hx.exp e1 a1 a2
  have k2 := hy.exp e2 b1 b2
  have := lt_all a1 a2 b1 b2 (e := E) (e' := E') (by omega)
  rw [← e1, ← e2, ← l1, ← l2] at this
  exact this
theorem lr_near {E : Int} {m a : Rat} (ha : a = two E * m) (h1 : 3 / 4 ≤ m) (h2 : m ≤ 3 / 2) (hi : In a) : Ab ep4 (Lx E m) (Lr a) := by
  obtain ⟨E', m', e2, b1, b2, l2⟩ := lr_rep hi.pos
  have k1 := hi.exp ha h1 h2
  have k2 := hi.exp e2 b1 b2
  have ap := hi.pos
  have z1 := lt_all h1 h2 b1 b2 (e := E) (e' := E') (by omega)
  have z2 := lt_all b1 b2 h1 h2 (e := E') (e' := E) (by omega)
  rw [← ha, ← e2, ← l2] at z1 z2
  unfold Lt at z1 z2
  have c1 : Lx E m - Lr a - ep4 ≤ 0 := cancel_le ap (show (Lx E m - Lr a - ep4) * a ≤ 0 * a by unfold ep4; grind)
  have c2 : Lr a - Lx E m - ep4 ≤ 0 := cancel_le ap (show (Lr a - Lx E m - ep4) * a ≤ 0 * a by unfold ep4; grind)
  constructor <;> grind
theorem fm_one : FM 1 = 0 := by decide +kernel
theorem lr_one : Ab ep4 0 (Lr 1) := by
  have := lr_near (E := 0) (m := 1) (a := 1) (by decide +kernel) (by decide +kernel) (by decide +kernel) ⟨by decide +kernel, by decide +kernel⟩
  unfold Lx at this
  rw [fm_one, show ((0 : Int) : Rat) = 0 from rfl] at this
  rwa [show ln2Q * 0 + 0 = 0 by grind] at this
/-- Twice as much, so often. -/
theorem lr_two {a : Rat} {k : Int} (hi : In a) (hi' : In (two k * a)) : Ab ep4 (Lr a + ln2Q * (k : Rat)) (Lr (two k * a)) := by
  obtain ⟨E, m, e1, a1, a2, l1⟩ := lr_rep hi.pos
  have := lr_near (E := k + E) (m := m) (a := two k * a) (by rw [e1, two_add]; grind) a1 a2 hi'
  rw [l1]
  unfold Lx at this ⊢
  rw [Rat.intCast_add] at this
  have e : ln2Q * (E : Rat) + FM m + ln2Q * (k : Rat) = ln2Q * ((k : Rat) + (E : Rat)) + FM m := by grind
  rw [e]; exact this
/-- The computed logarithm is near. -/
theorem log_near {x : Nat} {a : Rat} (h : Num .f32 x a) (h1 : two (-25) ≤ a) (h2 : a ≤ two 25) : ∃ l, Num .f32 (LOG x) l ∧ Ab (two (-18)) l (Lr a) := by
  have h0 : 0 < a := by have := two_pos (-25); grind
  obtain ⟨hp, -⟩ := up_pos h h0
  obtain ⟨E, m, r, nr, ea, m1, m2, E1, E2, ar⟩ := lg_near hp (up_o h).2 h1 h2
  have hl := lr_near ea m1 m2 (in_of (by decide) (by decide) h1 h2)
  clear hp ea
  have fb : -(1 / 2) ≤ FM m ∧ FM m ≤ 1 / 2 := by
    have k1 := f_all (x := m) (y := 3 / 4) q34.1 m1 m2
    have k2 := f_all (x := 3 / 2) (y := m) m1 m2 q34.2.2
    have k3 : FM (3 / 2) ≤ 1 / 2 := by decide +kernel
    have k4 : -(1 / 2) ≤ FM (3 / 4) := by decide +kernel
    have := k1.1
    have := k2.1
    constructor <;> grind
  have l0 : 0 ≤ ln2Q := by decide +kernel
  have l1 : ln2Q ≤ 1 := by decide +kernel
  have E1 : (-26 : Rat) ≤ (E : Rat) := by rw [show (-26 : Rat) = ((-26 : Int) : Rat) from rfl, Rat.intCast_le_intCast]; exact E1
  have E2 : (E : Rat) ≤ 26 := by rw [show (26 : Rat) = ((26 : Int) : Rat) from rfl, Rat.intCast_le_intCast]; exact E2
  have el : -26 ≤ ln2Q * (E : Rat) ∧ ln2Q * (E : Rat) ≤ 26 := by
    have m1 := Rat.mul_le_mul_of_nonneg_right E1 l0
    have m2 := Rat.mul_le_mul_of_nonneg_right E2 l0
    constructor <;> grind
  have lb : -27 ≤ Lx E m ∧ Lx E m ≤ 27 := by unfold Lx; constructor <;> grind
  generalize Lx E m = L at *
  have t : ep4 = two (-40) ∧ two (-18) = 2 * two (-19) ∧ two (-19) = 2097152 * two (-40) := by refine ⟨rfl, ?_, ?_⟩ <;> decide +kernel
  have tp := two_pos (-40)
  have t3 : two (-40) ≤ 1 / 1000 := by decide +kernel
  obtain ⟨a1, a2⟩ := ar
  obtain ⟨b1, b2⟩ := hl
  have bb : Bd 5 r := by rw [Bd, show two 5 = 32 by decide +kernel]; constructor <;> grind
  obtain ⟨-, l, nl, rl⟩ := dn_o nr (k0 := 5) (by decide) bb
  have q1 : two (-19 + 24) = 32 := by decide +kernel
  have e := near32 (-19) (by decide) rl (by rw [q1]; grind) (by rw [q1]; grind)
  refine ⟨l, nl, ?_⟩
  constructor <;> grind
/-- One small step. -/
theorem step_up {t t' A B ep : Rat} (h1 : 3 / 4 ≤ t) (h1' : 3 / 4 ≤ t') (hA : (A - ep) * t ≤ t' - t) (hB : (-B - ep) * t' ≤ t - t') : A - B ≤ (t' - t) * (t' - t) * (16 / 9) + 2 * ep := by
  have k1 := Rat.mul_le_mul_of_nonneg_right hA (show 0 ≤ t' by grind)
  have k2 := Rat.mul_le_mul_of_nonneg_right hB (show 0 ≤ t by grind)
  have k3 : (A - B - 2 * ep) * (t * t') ≤ (t' - t) * (t' - t) := by grind
  have k4 : 9 / 16 ≤ t * t' := by
    have := Rat.mul_le_mul_of_nonneg_left h1' (show 0 ≤ t by grind)
    grind
  rcases (show A - B - 2 * ep ≤ 0 ∨ 0 ≤ A - B - 2 * ep by grind) with h | h
  · have : 0 ≤ (t' - t) * (t' - t) := by
      rcases (show 0 ≤ t' - t ∨ 0 ≤ t - t' by grind) with g | g
      · exact Rat.mul_nonneg g g
      · have := Rat.mul_nonneg g g; grind
    grind
  · have := Rat.mul_le_mul_of_nonneg_left k4 h
    grind
section
variable {y m : Rat}
theorem in_mul {t : Rat} (y1 : two (-90) ≤ y) (y2 : y ≤ two 90) (h1 : 3 / 4 ≤ t) (h2 : t ≤ 3 / 2) : In (t * y) ∧ In t := by
  have y0 : 0 < y := by have := two_pos (-90); grind
  have k1 := Rat.mul_le_mul_of_nonneg_right h1 (Rat.le_of_lt y0)
  have k2 := Rat.mul_le_mul_of_nonneg_right h2 (Rat.le_of_lt y0)
  have t1 : two (-100) * 4 ≤ two (-90) := by decide +kernel
  have t2 : two 90 * 4 ≤ two 100 := by decide +kernel
  have p1 := two_pos (-100)
  have p2 := two_pos 90
  have t3 : two (-100) ≤ 3 / 4 := by decide +kernel
  have t4 : 3 / 2 ≤ two 100 := by decide +kernel
  refine ⟨⟨by grind, by grind⟩, ⟨Rat.le_trans t3 h1, Rat.le_trans h2 t4⟩⟩
theorem step_f {t t' : Rat} (y1 : two (-90) ≤ y) (y2 : y ≤ two 90) (h1 : 3 / 4 ≤ t) (h2 : t ≤ 3 / 2) (h1' : 3 / 4 ≤ t') (h2' : t' ≤ 3 / 2) :
    (Lr (t' * y) - Lr t') - (Lr (t * y) - Lr t) ≤ (t' - t) * (t' - t) * (16 / 9) + 2 * ep4 := by
  obtain ⟨i1, i2⟩ := in_mul y1 y2 h1 h2
  obtain ⟨i1', i2'⟩ := in_mul y1 y2 h1' h2'
  have y0 : 0 < y := by have := two_pos (-90); grind
  have a := lt_r i1' i1
  have b := lt_r i2 i2'
  have a' : (Lr (t' * y) - Lr (t * y) - ep4) * t ≤ t' - t := cancel_le y0 (by grind)
  have := step_up (A := Lr (t' * y) - Lr (t * y)) (B := Lr t' - Lr t) (ep := ep4) h1 h1' a' (by grind)
  grind
theorem walk_f (y1 : two (-90) ≤ y) (y2 : y ≤ two 90) (h1 : 3 / 4 ≤ m) (h2 : m ≤ 3 / 2) (N : Nat) (hN : 0 < N) (j : Nat) (hj : j ≤ N) :
    Ab ((j : Rat) * ((m - 1) / (N : Rat) * ((m - 1) / (N : Rat)) * (16 / 9) + 2 * ep4)) (Lr ((1 + (j : Rat) * ((m - 1) / (N : Rat))) * y) - Lr (1 + (j : Rat) * ((m - 1) / (N : Rat)))) (Lr y - Lr 1) := by
  have hN0 : (0 : Rat) < (N : Rat) := by
    have : ((0 : Nat) : Rat) < (N : Rat) := Rat.natCast_lt_natCast.2 hN
    exact this
  have hd := Rat.div_mul_cancel (a := m - 1) (b := (N : Rat)) (by grind)
  generalize hD : (m - 1) / (N : Rat) = D at *
  have inb : ∀ i : Nat, i ≤ N → 3 / 4 ≤ 1 + (i : Rat) * D ∧ 1 + (i : Rat) * D ≤ 3 / 2 := by
    intro i hi
    have i1 : (i : Rat) ≤ (N : Rat) := Rat.natCast_le_natCast.2 hi
    have i0 : (0 : Rat) ≤ (i : Rat) := Rat.natCast_nonneg
    rcases (show 0 ≤ D ∨ D ≤ 0 by grind) with g | g
    · have k1 := Rat.mul_le_mul_of_nonneg_right i1 g
      have k2 := Rat.mul_nonneg i0 g
      constructor <;> grind
    · have k1 := Rat.mul_le_mul_of_nonneg_right i1 (show 0 ≤ -D by grind)
      have k2 := Rat.mul_nonneg i0 (show 0 ≤ -D by grind)
      constructor <;> grind
  induction j with
  | zero =>
    rw [show ((0 : Nat) : Rat) = 0 from rfl, show 1 + 0 * D = 1 by grind, Rat.one_mul]
    constructor <;> grind
  | succ j ih =>
    have ih := ih (by omega)
    obtain ⟨a1, a2⟩ := inb j (by omega)
    obtain ⟨b1, b2⟩ := inb (j + 1) hj
    have e : ((j + 1 : Nat) : Rat) = (j : Rat) + 1 := by rw [Rat.natCast_add]; rfl
    rw [e] at b1 b2 ⊢
    have s1 := step_f y1 y2 a1 a2 b1 b2
    have s2 := step_f y1 y2 b1 b2 a1 a2
    have e2 : 1 + ((j : Rat) + 1) * D - (1 + (j : Rat) * D) = D := by grind
    have e3 : 1 + (j : Rat) * D - (1 + ((j : Rat) + 1) * D) = -D := by grind
    rw [e2] at s1
    rw [e3, show -D * -D = D * D by grind] at s2
    generalize Lr ((1 + ((j : Rat) + 1) * D) * y) - Lr (1 + ((j : Rat) + 1) * D) = f1 at *
    generalize Lr ((1 + (j : Rat) * D) * y) - Lr (1 + (j : Rat) * D) = f0 at *
    generalize D * D * (16 / 9) + 2 * ep4 = d at *
    obtain ⟨c1, c2⟩ := ih
    constructor <;> grind
theorem lr_man (y1 : two (-90) ≤ y) (y2 : y ≤ two 90) (h1 : 3 / 4 ≤ m) (h2 : m ≤ 3 / 2) : Ab (two (-16)) (Lr (m * y)) (Lr m + Lr y) := by
  have w := walk_f y1 y2 h1 h2 65536 (by decide) 65536 (Nat.le_refl _)
  have hN : ((65536 : Nat) : Rat) = 65536 := rfl
  rw [hN] at w
  have hd := Rat.div_mul_cancel (a := m - 1) (b := (65536 : Rat)) (by decide +kernel)
  have e1 : 1 + 65536 * ((m - 1) / 65536) = m := by grind
  rw [e1] at w
  have l1 := lr_one
  have mm : (m - 1) * (m - 1) ≤ 1 / 4 := by
    have := Rat.mul_nonneg (show 0 ≤ 1 / 2 - (m - 1) by grind) (show 0 ≤ 1 / 2 + (m - 1) by grind)
    grind
  have bd : 65536 * ((m - 1) / 65536 * ((m - 1) / 65536) * (16 / 9) + 2 * ep4) + ep4 ≤ two (-16) := by
    have e2 : 65536 * ((m - 1) / 65536 * ((m - 1) / 65536) * (16 / 9) + 2 * ep4) + ep4 = (m - 1) * (m - 1) * (16 / 9 / 65536) + 131073 * ep4 := by
      rw [Rat.div_def, Rat.div_def]; grind
    have k : (1 : Rat) / 4 * (16 / 9 / 65536) + 131073 * ep4 ≤ two (-16) := by decide +kernel
    have k0 : (0 : Rat) ≤ 16 / 9 / 65536 := by decide +kernel
    have := Rat.mul_le_mul_of_nonneg_right mm k0
    rw [e2]
    grind
  obtain ⟨w1, w2⟩ := w
  obtain ⟨l1, l2⟩ := l1
  constructor <;> grind
end
/-- The logarithm of a product. -/
theorem lr_mul {x y : Rat} (x1 : two (-40) ≤ x) (x2 : x ≤ two 40) (y1 : two (-40) ≤ y) (y2 : y ≤ two 40) : Ab (two (-15)) (Lr (x * y)) (Lr x + Lr y) := by
  have x0 : 0 < x := by have := two_pos (-40); grind
  have y0 : 0 < y := by have := two_pos (-40); grind
  have ix : In x := in_of (by decide) (by decide) x1 x2
  have iy : In y := in_of (by decide) (by decide) y1 y2
  have ixy : In (x * y) := by
    have k1 := Rat.mul_le_mul_of_nonneg_right x1 (Rat.le_of_lt y0)
    have k2 := Rat.mul_le_mul_of_nonneg_left y1 (show 0 ≤ two (-40) from Rat.le_of_lt (two_pos _))
    have k3 := Rat.mul_le_mul_of_nonneg_right x2 (Rat.le_of_lt y0)
    have k4 := Rat.mul_le_mul_of_nonneg_left y2 (show 0 ≤ two 40 from Rat.le_of_lt (two_pos _))
    rw [← two_add] at k2 k4
    exact in_of (i := -80) (j := 80) (by decide) (by decide) (Rat.le_trans k2 k1) (Rat.le_trans k3 k4)
  obtain ⟨E, m, e1, a1, a2, l1⟩ := lr_rep x0
  have hm := lr_man (m := m) (y := y) (Rat.le_trans (two_le (by decide)) y1) (Rat.le_trans y2 (two_le (by decide))) a1 a2
  obtain ⟨i1, i2⟩ := in_mul (t := m) (Rat.le_trans (two_le (by decide)) y1) (Rat.le_trans y2 (two_le (by decide))) a1 a2
  have exy : x * y = two E * (m * y) := by rw [e1]; grind
  rw [exy] at ixy ⊢
  have h2 := lr_two i1 ixy
  have h3 := lr_near (E := 0) (m := m) (a := m) (by rw [show two 0 = 1 from rfl]; grind) a1 a2 i2
  rw [l1]
  unfold Lx at h3 ⊢
  rw [show ((0 : Int) : Rat) = 0 from rfl] at h3
  have t : ep4 = two (-40) ∧ two (-15) = 2 * two (-16) ∧ two (-16) = 16777216 * two (-40) := by refine ⟨rfl, ?_, ?_⟩ <;> decide +kernel
  have tp := two_pos (-40)
  generalize ln2Q * (E : Rat) = w at *
  generalize FM m = F at *
  generalize Lr (two E * (m * y)) = A at *
  generalize Lr (m * y) = B at *
  generalize Lr m = C at *
  generalize Lr y = D at *
  obtain ⟨p1, p2⟩ := hm
  obtain ⟨q1, q2⟩ := h2
  obtain ⟨r1, r2⟩ := h3
  constructor <;> grind
end Go.Proofs.Ytiejljlmbpgbiaa
