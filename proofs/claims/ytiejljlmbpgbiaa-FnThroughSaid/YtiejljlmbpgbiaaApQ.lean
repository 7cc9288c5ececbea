/- Words near rationals: quotients of counts, products, sums, rows. Plain; conditions: what each theorem names. -/
import Derived.Test.YtiejljlmbpgbiaaInfQ
import Derived.Test.YtiejljlmbpgbiaaCbP
import Derived.Test.YtiejljlmbpgbiaaTab
namespace Go.Proofs.Ytiejljlmbpgbiaa
open Ieee
set_option maxRecDepth 100000
set_option linter.unusedVariables false
set_option linter.unusedSimpArgs false

def q22 : Rat := two (-22)
theorem relq {x r : Rat} (h : Rnd .f32 x r) (h1 : two (-100) ≤ x) : r ≤ x * (1 + q22) ∧ x ≤ r * (1 + q22) ∧ 0 < r := by
  have x0 : 0 < x := by have := two_pos (-100); grind
  obtain ⟨e1, e2⟩ := h.err0 (Rat.le_of_lt x0)
  have c : two (loK .f32) ≤ x * two (-26) := by
    have := Rat.mul_le_mul_of_nonneg_right h1 (Rat.le_of_lt (two_pos (-26)))
    have k : two (loK .f32) ≤ two (-100) * two (-26) := by rw [← two_add]; exact two_le (by decide)
    grind
  have ep : two (-(pB .f32 : Int)) = two (-23) := rfl
  rw [ep] at e1 e2
  have e23 : two (-23) = q22 / 2 := by decide +kernel
  have e26 : two (-26) = q22 / 16 := by decide +kernel
  rw [e23] at e1 e2
  rw [e26] at c
  have kp : 0 < q22 := by decide +kernel
  have ks : q22 ≤ 1 / 8 := by decide +kernel
  generalize q22 = k at *
  have xk := Rat.mul_pos x0 kp
  have xs := Rat.mul_le_mul_of_nonneg_left ks (Rat.le_of_lt x0)
  have xkk := Rat.mul_le_mul_of_nonneg_left ks (Rat.le_of_lt xk)
  have a3 : x * (1 - k / 2 - k / 16) ≤ r := by grind
  have a4 := Rat.mul_le_mul_of_nonneg_right a3 (show 0 ≤ 1 + k by grind)
  have r0 : 0 < r := by grind
  exact ⟨by grind, by grind, r0⟩
def gQ : Rat := 1 + q22
theorem gQ_ge : 1 ≤ gQ := by decide +kernel
theorem pw_add (u : Rat) (j l : Nat) : pw u (j + l) = pw u j * pw u l := by
  induction l with
  | zero => show pw u j = pw u j * 1; grind
  | succ l ih => show pw u (j + l) * u = pw u j * (pw u l * u); rw [ih]; grind
theorem pw_ge1 (j : Nat) : 1 ≤ pw gQ j := by
  induction j with
  | zero => exact Rat.le_refl
  | succ j ih =>
    have g := gQ_ge
    show 1 ≤ pw gQ j * gQ
    have := Rat.mul_le_mul_of_nonneg_right ih (show 0 ≤ gQ by grind)
    grind
theorem pw_le {j l : Nat} (h : j ≤ l) : pw gQ j ≤ pw gQ l := by
  obtain ⟨d, rfl⟩ := Nat.le.dest h
  rw [pw_add]
  have := Rat.mul_le_mul_of_nonneg_left (pw_ge1 d) (show 0 ≤ pw gQ j by have := pw_ge1 j; grind)
  grind
theorem pw_17 : pw gQ 17 ≤ 1 + two (-17) := by decide +kernel
theorem pw_64 : pw gQ 64 ≤ 1 + two (-15) := by decide +kernel
/-- a and A are the same up to j roundings. -/
structure Ap (j : Nat) (a A : Rat) : Prop where
  p : 0 < A
  q : 0 < a
  up : a ≤ A * pw gQ j
  dn : A ≤ a * pw gQ j
theorem Ap.more {j l : Nat} {a A : Rat} (h : Ap j a A) (hj : j ≤ l) : Ap l a A := by
  have := pw_le hj
  refine ⟨h.p, h.q, Rat.le_trans h.up (Rat.mul_le_mul_of_nonneg_left this (Rat.le_of_lt h.p)), Rat.le_trans h.dn (Rat.mul_le_mul_of_nonneg_left this (Rat.le_of_lt h.q))⟩
theorem Ap.mul {j l : Nat} {a A b B : Rat} (h : Ap j a A) (h' : Ap l b B) : Ap (j + l) (a * b) (A * B) := by
  have g1 := pw_ge1 j
  have g2 := pw_ge1 l
  refine ⟨Rat.mul_pos h.p h'.p, Rat.mul_pos h.q h'.q, ?_, ?_⟩
  · rw [pw_add]
    have k1 := Rat.mul_le_mul_of_nonneg_right h.up (Rat.le_of_lt h'.q)
    have k2 := Rat.mul_le_mul_of_nonneg_left h'.up (Rat.le_of_lt (Rat.mul_pos h.p (show 0 < pw gQ j by grind)))
    grind
  · rw [pw_add]
    have k1 := Rat.mul_le_mul_of_nonneg_right h.dn (Rat.le_of_lt h'.p)
    have k2 := Rat.mul_le_mul_of_nonneg_left h'.dn (Rat.le_of_lt (Rat.mul_pos h.q (show 0 < pw gQ j by grind)))
    grind
theorem Ap.add {j : Nat} {a A b B : Rat} (h : Ap j a A) (h' : Ap j b B) : Ap j (a + b) (A + B) := by
  obtain ⟨h1, h2, h3, h4⟩ := h
  obtain ⟨k1, k2, k3, k4⟩ := h'
  exact ⟨by grind, by grind, by grind, by grind⟩
theorem Ap.rnd {j : Nat} {x A r : Rat} (h : Ap j x A) (hr : Rnd .f32 x r) (hx : two (-100) ≤ x) : Ap (j + 1) r A := by
  obtain ⟨r1, r2, r3⟩ := relq hr hx
  have e : pw gQ (j + 1) = pw gQ j * gQ := rfl
  have g1 := pw_ge1 j
  have g2 := gQ_ge
  have eg : gQ = 1 + q22 := rfl
  rw [← eg] at r1 r2
  refine ⟨h.p, r3, ?_, ?_⟩
  · rw [e]
    have := Rat.mul_le_mul_of_nonneg_right h.up (show 0 ≤ gQ by grind)
    grind
  · rw [e]
    have := Rat.mul_le_mul_of_nonneg_right r2 (show 0 ≤ pw gQ j by grind)
    have := h.dn
    grind
/-- Near: up to 17 roundings. -/
theorem Ap.near {j : Nat} {a A : Rat} (h : Ap j a A) (hj : j ≤ 17) : Ab (two (-17) * A) a A := by
  obtain ⟨h1, h2, h3, h4⟩ := h.more hj
  have k1 := Rat.mul_le_mul_of_nonneg_left pw_17 (Rat.le_of_lt h1)
  have k2 := Rat.mul_le_mul_of_nonneg_left pw_17 (Rat.le_of_lt h2)
  have t0 := two_pos (-17)
  generalize two (-17) = t at *
  refine ⟨by grind, ?_⟩
  rcases (show A ≤ a ∨ a ≤ A by grind) with h | h
  · have := Rat.mul_pos t0 h1; grind
  · have := Rat.mul_le_mul_of_nonneg_right h (Rat.le_of_lt t0); grind
theorem Ap.near64 {j : Nat} {a A : Rat} (h : Ap j a A) (hj : j ≤ 64) : Ab (two (-15) * A) a A := by
  obtain ⟨h1, h2, h3, h4⟩ := h.more hj
  have k1 := Rat.mul_le_mul_of_nonneg_left pw_64 (Rat.le_of_lt h1)
  have k2 := Rat.mul_le_mul_of_nonneg_left pw_64 (Rat.le_of_lt h2)
  have t0 := two_pos (-15)
  generalize two (-15) = t at *
  refine ⟨by grind, ?_⟩
  rcases (show A ≤ a ∨ a ≤ A by grind) with h | h
  · have := Rat.mul_pos t0 h1; grind
  · have := Rat.mul_le_mul_of_nonneg_right h (Rat.le_of_lt t0); grind
theorem Ap.dbl {j : Nat} {a A : Rat} (h : Ap j a A) (hj : j ≤ 64) : a ≤ 2 * A ∧ A ≤ 2 * a := by
  obtain ⟨h1, h2, h3, h4⟩ := h.more hj
  have k1 := Rat.mul_le_mul_of_nonneg_left (Rat.le_trans pw_64 (show 1 + two (-15) ≤ 2 by decide +kernel)) (Rat.le_of_lt h1)
  have k2 := Rat.mul_le_mul_of_nonneg_left (Rat.le_trans pw_64 (show 1 + two (-15) ≤ 2 by decide +kernel)) (Rat.le_of_lt h2)
  constructor <;> grind
/-- The logarithms of near numbers. -/
theorem Ap.lr {j : Nat} {a A : Rat} (h : Ap j a A) (hj : j ≤ 17) (ha : In a) (hA : In A) : Ab (two (-17) + ep4) (Lr a) (Lr A) := by
  obtain ⟨h1, h2, h3, h4⟩ := h.more hj
  have k1 := Rat.mul_le_mul_of_nonneg_left pw_17 (Rat.le_of_lt h1)
  have k2 := Rat.mul_le_mul_of_nonneg_left pw_17 (Rat.le_of_lt h2)
  have l1 := lt_r ha hA
  have l2 := lt_r hA ha
  generalize two (-17) = t at *
  have c1 := cancel_le h1 (show (Lr a - Lr A - ep4) * A ≤ t * A by grind)
  have c2 := cancel_le h2 (show (Lr A - Lr a - ep4) * a ≤ t * a by grind)
  constructor <;> grind
/-- A word up to j roundings. -/
def WAp (j x : Nat) (A : Rat) : Prop := ∃ a, Num .f32 x a ∧ Ap j a A
theorem WAp.more {j l x : Nat} {A : Rat} (h : WAp j x A) (hj : j ≤ l) : WAp l x A := by
  obtain ⟨a, h1, h2⟩ := h; exact ⟨a, h1, h2.more hj⟩
theorem bd_of {i : Int} {a : Rat} (h0 : 0 ≤ a) (h : a ≤ two i) : Bd i a := ⟨by have := two_pos i; grind, h⟩
theorem wap_rat {c t : Int} (h1 : 1 ≤ c) (h2 : c ≤ t) (h3 : t ≤ 16384) : WAp 1 (ratW c t) ((c : Rat) / (t : Rat)) := by
  obtain ⟨-, a, ha, a0, rr⟩ := rat_num h1 h2 h3
  have c1 : (1 : Rat) ≤ c := by rw [show (1 : Rat) = ((1 : Int) : Rat) from rfl, Rat.intCast_le_intCast]; exact h1
  have ct : (c : Rat) ≤ t := Rat.intCast_le_intCast.2 h2
  have t3 : (t : Rat) ≤ 16384 := by rw [show (16384 : Rat) = ((16384 : Int) : Rat) from rfl, Rat.intCast_le_intCast]; exact h3
  have hq := Rat.div_mul_cancel (a := (c : Rat)) (b := (t : Rat)) (by grind)
  generalize (c : Rat) / (t : Rat) = q at *
  have hlow : two (-14) ≤ q := by
    refine Rat.not_lt.1 fun hn => ?_
    have k1 := Rat.mul_lt_mul_of_pos_right hn (show (0 : Rat) < t by grind)
    have k2 : two (-14) * (t : Rat) ≤ two (-14) * 16384 := Rat.mul_le_mul_of_nonneg_left t3 (Rat.le_of_lt (two_pos _))
    have k3 : two (-14) * 16384 = 1 := by decide +kernel
    grind
  have q0 : 0 < q := by have := two_pos (-14); grind
  have e : Ap 0 q q := ⟨q0, q0, by show q ≤ q * 1; grind, by show q ≤ q * 1; grind⟩
  exact ⟨a, ha, e.rnd rr (Rat.le_trans (two_le (by decide)) hlow)⟩
theorem wap_mul {j l x y : Nat} {A B : Rat} (h : WAp j x A) (h' : WAp l y B) (hj : j + l ≤ 64) (A0 : two (-20) ≤ A) (A1 : A ≤ 1) (B0 : two (-20) ≤ B) (B1 : B ≤ 1) : WAp (j + l + 1) (fmul .f32 x y) (A * B) := by
  obtain ⟨a, ha, pa⟩ := h
  obtain ⟨b, hb, pb⟩ := h'
  have pm := pa.mul pb
  obtain ⟨u1, u2⟩ := pm.dbl hj
  have p0 := two_pos (-20)
  have k1 := Rat.mul_le_mul_of_nonneg_right A1 (show 0 ≤ B by grind)
  have k2 := Rat.mul_le_mul_of_nonneg_left B0 (show 0 ≤ A by grind)
  have k3 := Rat.mul_le_mul_of_nonneg_right A0 (Rat.le_of_lt p0)
  have t : two (-40) = two (-20) * two (-20) := by rw [← two_add]; rfl
  have t2 : two (-40) = 2 * two (-41) := by decide +kernel
  have ht : two 1 = 2 := rfl
  obtain ⟨-, r, hr, rr⟩ := mul_o ha hb (k0 := 1) (by decide) (bd_of (Rat.le_of_lt pm.q) (by grind))
  exact ⟨r, hr, pm.rnd rr (Rat.le_trans (two_le (show (-100 : Int) ≤ -41 by decide)) (by grind))⟩
theorem wap_add {j x y : Nat} {A B : Rat} (h : WAp j x A) (h' : WAp j y B) (hj : j ≤ 64) (A0 : two (-20) ≤ A) (A1 : A ≤ 64) (B0 : two (-20) ≤ B) (B1 : B ≤ 64) : WAp (j + 1) (fadd .f32 x y) (A + B) := by
  obtain ⟨a, ha, pa⟩ := h
  obtain ⟨b, hb, pb⟩ := h'
  have pm := pa.add pb
  obtain ⟨u1, u2⟩ := pm.dbl hj
  have p0 := two_pos (-20)
  have ht : two 8 = 256 := by decide +kernel
  obtain ⟨-, r, hr, rr⟩ := add_o ha hb (k0 := 8) (by decide) (bd_of (Rat.le_of_lt pm.q) (by grind))
  exact ⟨r, hr, pm.rnd rr (Rat.le_trans (two_le (show (-100 : Int) ≤ -20 by decide)) (by grind))⟩
theorem fadd0 {j x : Nat} {A : Rat} (h : WAp j x A) (A1 : A ≤ 64) (hj : j ≤ 64) (A0 : two (-20) ≤ A) : WAp (j + 1) (fadd .f32 0 x) A := by
  obtain ⟨a, ha, pa⟩ := h
  obtain ⟨u1, u2⟩ := pa.dbl hj
  have p0 := two_pos (-20)
  have t2 : two (-20) = 2 * two (-21) := by decide +kernel
  have ht : two 8 = 256 := by decide +kernel
  have e : (0 : Rat) + a = a := by grind
  have aq := pa.q
  obtain ⟨-, r, hr, rr⟩ := add_o (num_zero .f32) ha (k0 := 8) (by decide) (by rw [e]; exact bd_of (Rat.le_of_lt aq) (by grind))
  rw [e] at rr
  exact ⟨r, hr, pa.rnd rr (Rat.le_trans (two_le (show (-100 : Int) ≤ -21 by decide)) (by grind))⟩
/-- Sums of words. -/
theorem wap_sum {j : Nat} {xs : List Nat} {A : Nat → Rat} (hx : ∀ i, i < xs.length → WAp j (xs.getD i 0) (A i)) (hA : ∀ i, i < xs.length → two (-20) ≤ A i ∧ A i ≤ 1) (hn : j + xs.length ≤ 64) (k : Nat) (hk : k + 1 ≤ xs.length) : WAp (j + (k + 1)) (sumF 0 (xs.take (k + 1))) (Sm A (k + 1)) := by
  have bd : ∀ k, k + 1 ≤ xs.length → two (-20) ≤ Sm A (k + 1) ∧ Sm A (k + 1) ≤ (k + 1 : Nat) := by
    intro k hk
    have h1 := sm_le (f := A) (g := fun _ => 1) (n := k + 1) fun i hi => (hA i (by omega)).2
    rw [sm_const] at h1
    have h2 := sm_ge (f := A) (n := k + 1) (fun i hi => by have := (hA i (by omega)).1; have := two_pos (-20); grind) (show k < k + 1 by omega)
    have := (hA k (by omega)).1
    constructor <;> grind
  have xg : ∀ i (h : i < xs.length), xs[i] = xs.getD i 0 := fun i h => by rw [List.getD_eq_getElem?_getD, List.getElem?_eq_getElem h]; rfl
  induction k with
  | zero =>
    rw [sum_step xs 0 (by omega), xg 0 (by omega)]
    have e : Sm A (0 + 1) = A 0 := by show 0 + A 0 = A 0; grind
    rw [e]
    obtain ⟨a1, a2⟩ := hA 0 (by omega)
    exact fadd0 (hx 0 (by omega)) (by grind) (by omega) a1
  | succ k ih =>
    have ih := ih (by omega)
    obtain ⟨b1, b2⟩ := bd k (by omega)
    obtain ⟨a1, a2⟩ := hA (k + 1) (by omega)
    rw [sum_step xs (k + 1) (by omega), xg (k + 1) (by omega)]
    have c : ((k + 1 : Nat) : Rat) ≤ 64 := by rw [show (64 : Rat) = ((64 : Nat) : Rat) from rfl, Rat.natCast_le_natCast]; omega
    exact wap_add (j := j + (k + 1)) ih ((hx (k + 1) (by omega)).more (by omega)) (by omega) b1 (by grind) a1 (by grind)
theorem wap_all {j n : Nat} {xs : List Nat} {A : Nat → Rat} (hl : xs.length = n) (hx : ∀ i, i < n → WAp j (xs.getD i 0) (A i)) (hA : ∀ i, i < n → two (-20) ≤ A i ∧ A i ≤ 1) (hn : j + n ≤ 64) (h1 : 1 ≤ n) : WAp (j + n) (sumF 0 xs) (Sm A n) := by
  subst hl
  obtain ⟨k, hk⟩ : ∃ k, xs.length = k + 1 := ⟨xs.length - 1, by omega⟩
  have := wap_sum hx hA hn k (by omega)
  rw [← hk, List.take_length] at this
  exact this
theorem WAp.ch {j x : Nat} {A : Rat} (h : WAp j x A) (hj : j ≤ 64) (A1 : A ≤ 1) : Ch x := by
  obtain ⟨a, ha, pa⟩ := h
  obtain ⟨u1, u2⟩ := pa.dbl hj
  exact ⟨a, ha, Rat.le_of_lt pa.q, by grind⟩
theorem WAp.pos {j x : Nat} {A : Rat} (h : WAp j x A) : ∃ a, Num .f32 x a ∧ 0 < a := by
  obtain ⟨a, ha, pa⟩ := h
  exact ⟨a, ha, pa.q⟩
theorem WAp.posB {j x : Nat} {A : Rat} (h : WAp j x A) : posB x = true := by
  obtain ⟨a, ha, pa⟩ := h
  rw [pos_num ha]; exact decide_eq_true pa.q
theorem WAp.least {j x : Nat} {A : Rat} (h : WAp j x A) : leastW x = true := by
  obtain ⟨a, ha, pa⟩ := h
  unfold leastW
  rw [geZ_num ha, fin_num ha]
  simp [Rat.le_of_lt pa.q]
theorem okS_near {s : Nat} {S : Rat} (h : Num .f32 s S) (hs : Ab (two (-11)) S 1) : okS s = true := by
  obtain ⟨h1, h2⟩ := hs
  have t : two (-11) ≤ millQ := by decide +kernel
  have t1 : two (-11) ≤ two 1 := by decide +kernel
  unfold okS
  obtain ⟨-, r, hr, rr⟩ := sub_o h num_one32 (k0 := 1) (by decide) ⟨by grind, by grind⟩
  obtain ⟨-, r', hr', rr'⟩ := sub_o num_one32 h (k0 := 1) (by decide) ⟨by grind, by grind⟩
  have k1 := rr.le_two (e := -11) (by decide) (by grind)
  have k2 := rr'.le_two (e := -11) (by decide) (by grind)
  rw [leC_num hr, leC_num hr', decide_eq_true (show r ≤ millQ by grind), decide_eq_true (show r' ≤ millQ by grind)]; rfl
/-- Chances in words that make one. -/
theorem one_ap {j n : Nat} {xs : List Nat} {A : Nat → Rat} (hl : xs.length = n) (hx : ∀ i, i < n → WAp j (xs.getD i 0) (A i)) (hA : ∀ i, i < n → two (-20) ≤ A i) (hn : j + n ≤ 64) (h1 : 1 ≤ n) (hs : Sm A n = 1) : oneW xs = true := by
  have hA1 : ∀ i, i < n → A i ≤ 1 := fun i hi => by
    have := sm_ge (f := A) (n := n) (fun k hk => by have := hA k hk; have := two_pos (-20); grind) hi
    rwa [hs] at this
  obtain ⟨s, ns, aps⟩ := wap_all hl hx (fun i hi => ⟨hA i hi, hA1 i hi⟩) hn h1
  rw [hs] at aps
  unfold oneW
  rw [Bool.and_eq_true]
  refine ⟨List.all_eq_true.2 fun x hx' => ?_, okS_near ns ((aps.near64 (by omega)).more (by decide +kernel))⟩
  obtain ⟨i, hi, e⟩ := List.getElem_of_mem hx'
  have := hx i (by omega)
  rw [List.getD_eq_getElem?_getD, List.getElem?_eq_getElem hi, Option.getD_some, e] at this
  exact this.least
theorem row_ap {j n : Nat} {xs : List Nat} {A : Nat → Rat} (hl : xs.length = n) (hx : ∀ i, i < n → WAp j (xs.getD i 0) (A i)) (hA : ∀ i, i < n → two (-20) ≤ A i) (hj : j ≤ 32) (h1 : 1 ≤ n) (hn : n ≤ 32) (hs : Sm A n = 1) : isRowW xs = true := by
  unfold isRowW
  rw [one_ap hl hx hA (by omega) h1 hs, hl]
  simp [h1, hn]
end Go.Proofs.Ytiejljlmbpgbiaa
