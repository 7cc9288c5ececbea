/- The logarithm as an exact rational function, over all powers of two. Plain; conditions: what each theorem names. -/
import Derived.Test.YtiejljlmbpgbiaaLnQ
namespace Go.Proofs.Ytiejljlmbpgbiaa
open Ieee
set_option maxRecDepth 100000
set_option linter.unusedVariables false
set_option linter.unusedSimpArgs false

def Lx (e : Int) (m : Rat) : Rat := ln2Q * (e : Rat) + FM m
/-- lx - ly is not above x/y - 1, but for d. -/
def Lt (x lx y ly d : Rat) : Prop := (lx - ly - d) * y ≤ x - y
theorem Lt.chain {x lx z lz y ly d d' : Rat} (h1 : Lt x lx z lz d) (h2 : Lt z lz y ly d') (hy : 0 < y) (hz : 0 < z) (hs : 0 ≤ (x - z) * (z - y)) : Lt x lx y ly (d + d') := by
  unfold Lt at *
  have k : (lx - lz - d) * y ≤ x - z := by
    refine cancel_le hz ?_
    have m := Rat.mul_le_mul_of_nonneg_right h1 (Rat.le_of_lt hy)
    grind
  grind
theorem Lt.more {x lx y ly d d' : Rat} (h : Lt x lx y ly d) (hy : 0 ≤ y) (hd : d ≤ d') : Lt x lx y ly d' := by
  unfold Lt at *
  have := Rat.mul_le_mul_of_nonneg_right hd hy
  grind
theorem ep0_pos : 0 ≤ ep0 := Rat.le_of_lt (two_pos _)
theorem lt_same (e : Int) {m m' : Rat} (h1 : 3 / 4 ≤ m) (h2 : m ≤ 3 / 2) (h3 : 3 / 4 ≤ m') (h4 : m' ≤ 3 / 2) : Lt (two e * m) (Lx e m) (two e * m') (Lx e m') ep0 := by
  have te := two_pos e
  have hep := ep0_pos
  have hdl := cross.2.2
  have key : (FM m - FM m' - ep0) * m' ≤ m - m' := by
    rcases (show m' ≤ m ∨ m < m' by grind) with h | h
    · obtain ⟨-, k, -⟩ := f_all h3 h h2
      have := Rat.mul_nonneg hep (show 0 ≤ m' by grind)
      grind
    · obtain ⟨-, -, k⟩ := f_all (x := m') (y := m) h1 (Rat.le_of_lt h) h4
      have i1 := Rat.mul_le_mul_of_nonneg_right hdl (show 0 ≤ m' by grind)
      have i2 := Rat.mul_le_mul_of_nonneg_left (show m' - m ≤ m' by grind) dl0_bd.1
      grind
  unfold Lt Lx
  have := Rat.mul_le_mul_of_nonneg_left key (Rat.le_of_lt te)
  grind
theorem two_next (e : Int) : two (e + 1) = 2 * two e := by rw [two_add, show two 1 = 2 from rfl]; grind
theorem z_eq (e : Int) : two (e + 1) * (3 / 4) = two e * (3 / 2) := by rw [two_next]; grind
theorem lt_cross (e : Int) : Lt (two (e + 1) * (3 / 4)) (Lx (e + 1) (3 / 4)) (two e * (3 / 2)) (Lx e (3 / 2)) ep0 := by
  have te := two_pos e
  have hc := cross.2.1
  rw [z_eq]
  unfold Lt Lx
  have e1 : ((e + 1 : Int) : Rat) = (e : Rat) + 1 := by rw [Rat.intCast_add]; rfl
  rw [e1]
  have := Rat.mul_le_mul_of_nonneg_right (show ln2Q * ((e : Rat) + 1) + FM (3 / 4) - (ln2Q * (e : Rat) + FM (3 / 2)) - ep0 ≤ 0 by grind) (show 0 ≤ two e * (3 / 2) from Rat.mul_nonneg (Rat.le_of_lt te) (by decide +kernel))
  grind
theorem lt_cross' (e : Int) : Lt (two e * (3 / 2)) (Lx e (3 / 2)) (two (e + 1) * (3 / 4)) (Lx (e + 1) (3 / 4)) ep0 := by
  have te := two_pos e
  have hc := cross.1
  rw [z_eq]
  unfold Lt Lx
  have e1 : ((e + 1 : Int) : Rat) = (e : Rat) + 1 := by rw [Rat.intCast_add]; rfl
  rw [e1]
  have := Rat.mul_le_mul_of_nonneg_right (show ln2Q * (e : Rat) + FM (3 / 2) - (ln2Q * ((e : Rat) + 1) + FM (3 / 4)) - ep0 ≤ 0 by grind) (show 0 ≤ two e * (3 / 2) from Rat.mul_nonneg (Rat.le_of_lt te) (by decide +kernel))
  grind
theorem q34 : (3 : Rat) / 4 ≤ 3 / 4 ∧ (3 : Rat) / 4 ≤ 3 / 2 ∧ (3 : Rat) / 2 ≤ 3 / 2 := by refine ⟨?_, ?_, ?_⟩ <;> decide +kernel
theorem pos_val' {e : Int} {m : Rat} (h : 3 / 4 ≤ m) : 0 < two e * m := Rat.mul_pos (two_pos e) (by grind)
theorem mul_mono_two {e e' : Int} (h : e ≤ e') {m m' : Rat} (h0 : 0 ≤ m) (hm : m ≤ m') : two e * m ≤ two e' * m' := by
  have h1 := Rat.mul_le_mul_of_nonneg_right (two_le h) h0
  have h2 := Rat.mul_le_mul_of_nonneg_left hm (Rat.le_of_lt (two_pos e'))
  grind
theorem same_sign {a b : Rat} (h : (0 ≤ a ∧ 0 ≤ b) ∨ (a ≤ 0 ∧ b ≤ 0)) : 0 ≤ a * b := by
  rcases h with ⟨h1, h2⟩ | ⟨h1, h2⟩
  · exact Rat.mul_nonneg h1 h2
  · have := Rat.mul_nonneg (show 0 ≤ -a by grind) (show 0 ≤ -b by grind)
    grind
theorem lt_up {m m' : Rat} (h1 : 3 / 4 ≤ m) (h2 : m ≤ 3 / 2) (h3 : 3 / 4 ≤ m') (h4 : m' ≤ 3 / 2) (d : Nat) : ∀ (e : Int) (m' : Rat), 3 / 4 ≤ m' → m' ≤ 3 / 2 → Lt (two (e + d) * m) (Lx (e + d) m) (two e * m') (Lx e m') ((2 * (d : Rat) + 1) * ep0) := by
  induction d with
  | zero =>
    intro e m' h3 h4
    have := lt_same e h1 h2 h3 h4
    rw [show e + ((0 : Nat) : Int) = e by omega, show (2 * ((0 : Nat) : Rat) + 1) * ep0 = ep0 by have : ((0 : Nat) : Rat) = 0 := rfl; rw [this]; grind]
    exact this
  | succ d ih =>
    intro e m' h3 h4
    have k1 := ih (e + 1) (3 / 4) q34.1 q34.2.1
    have k2 := lt_cross e
    have k3 := lt_same e (m := 3 / 2) (m' := m') q34.2.1 q34.2.2 h3 h4
    have zp : 0 < two e * (3 / 2) := pos_val' q34.2.1
    have yp : 0 < two e * m' := pos_val' h3
    have zx : two (e + 1) * (3 / 4) ≤ two (e + 1 + d) * m := mul_mono_two (by omega) (by decide +kernel) h1
    have yz : two e * m' ≤ two e * (3 / 2) := mul_mono_two (by omega) (by grind) h4
    have zz := z_eq e
    have c1 := k2.chain k3 yp zp (by rw [zz]; refine same_sign (.inl ⟨?_, ?_⟩) <;> grind)
    have c2 := k1.chain c1 yp (by rw [zz]; exact zp) (same_sign (.inl ⟨by grind, by grind⟩))
    rw [show e + ((d + 1 : Nat) : Int) = e + 1 + d by omega]
    have e1 : ((d + 1 : Nat) : Rat) = (d : Rat) + 1 := by rw [Rat.natCast_add]; rfl
    rw [e1]
    exact c2.more (Rat.le_of_lt yp) (by grind)
theorem lt_down {m m' : Rat} (h3 : 3 / 4 ≤ m') (h4 : m' ≤ 3 / 2) (d : Nat) : ∀ (e : Int) (m : Rat), 3 / 4 ≤ m → m ≤ 3 / 2 → Lt (two e * m) (Lx e m) (two (e + d) * m') (Lx (e + d) m') ((2 * (d : Rat) + 1) * ep0) := by
  induction d with
  | zero =>
    intro e m h1 h2
    have := lt_same e h1 h2 h3 h4
    rw [show e + ((0 : Nat) : Int) = e by omega, show (2 * ((0 : Nat) : Rat) + 1) * ep0 = ep0 by have : ((0 : Nat) : Rat) = 0 := rfl; rw [this]; grind]
    exact this
  | succ d ih =>
    intro e m h1 h2
    have k1 := ih (e + 1) (3 / 4) q34.1 q34.2.1
    have k2 := lt_cross' e
    have k3 := lt_same e (m := m) (m' := 3 / 2) h1 h2 q34.2.1 q34.2.2
    have zp : 0 < two e * (3 / 2) := pos_val' q34.2.1
    have yp : 0 < two (e + 1 + d) * m' := pos_val' h3
    have zy : two (e + 1) * (3 / 4) ≤ two (e + 1 + d) * m' := mul_mono_two (by omega) (by decide +kernel) h3
    have xz : two e * m ≤ two e * (3 / 2) := mul_mono_two (by omega) (by grind) h2
    have zz := z_eq e
    have c1 := k3.chain k2 (by rw [zz]; exact zp) zp (by rw [zz]; refine same_sign (.inr ⟨?_, ?_⟩) <;> grind)
    have c2 := c1.chain k1 yp (by rw [zz]; exact zp) (same_sign (.inr ⟨by grind, by grind⟩))
    rw [show e + ((d + 1 : Nat) : Int) = e + 1 + d by omega]
    have e1 : ((d + 1 : Nat) : Rat) = (d : Rat) + 1 := by rw [Rat.natCast_add]; rfl
    rw [e1]
    exact c2.more (Rat.le_of_lt yp) (by grind)
/-- The one inequality. -/
theorem lt_all {e e' : Int} {m m' : Rat} (h1 : 3 / 4 ≤ m) (h2 : m ≤ 3 / 2) (h3 : 3 / 4 ≤ m') (h4 : m' ≤ 3 / 2) (hd : (e - e').natAbs ≤ 500) : Lt (two e * m) (Lx e m) (two e' * m') (Lx e' m') (two (-40)) := by
  have yp : 0 ≤ two e' * m' := Rat.le_of_lt (pos_val' h3)
  have bound : ∀ d : Nat, d ≤ 500 → (2 * (d : Rat) + 1) * ep0 ≤ two (-40) := by
    intro d hd
    have i1 : (d : Rat) ≤ ((500 : Nat) : Rat) := Rat.natCast_le_natCast.2 hd
    have i2 : ((500 : Nat) : Rat) = 500 := rfl
    have i3 := Rat.mul_le_mul_of_nonneg_right (show 2 * (d : Rat) + 1 ≤ 1001 by grind) ep0_pos
    have i4 : (1001 : Rat) * ep0 ≤ two (-40) := by decide +kernel
    grind
  rcases (show e' ≤ e ∨ e ≤ e' by omega) with h | h
  · obtain ⟨d, hd'⟩ : ∃ d : Nat, e = e' + d := ⟨(e - e').toNat, by omega⟩
    rw [hd']
    exact (lt_up h1 h2 h3 h4 d e' m' h3 h4).more yp (bound d (by omega))
  · obtain ⟨d, hd'⟩ : ∃ d : Nat, e' = e + d := ⟨(e' - e).toNat, by omega⟩
    rw [hd'] at yp ⊢
    exact (lt_down (m := m) h3 h4 d e m h1 h2).more yp (bound d (by omega))
end Go.Proofs.Ytiejljlmbpgbiaa
