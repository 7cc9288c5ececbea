/- The exponential near nought: how it stands to itself at a little greater argument. Plain; conditions: what each theorem names. -/
import Derived.Test.YthafmldcfdcngaaExP
import Derived.Test.YthafmldcfdcngaaLgS
namespace Go.Proofs.Ythafmldcfdcngaa
open Ieee
set_option maxRecDepth 100000
set_option linter.unusedVariables false
set_option linter.unusedSimpArgs false

theorem near2 {x r : Rat} (h : Rnd .f64 x r) (h1 : -2 < x) (h2 : x < 2) : r ≤ x + two (-52) ∧ x ≤ r + two (-52) := by
  have t : two (-52 + (pB .f64 : Int) + 1) = 2 := by decide +kernel
  by_cases h0 : 0 ≤ x
  · exact h.grid h0 (-52) (by decide) (by rw [t]; exact h2)
  · have := h.neg.grid (by grind) (-52) (by decide) (by rw [t]; grind)
    constructor <;> grind
def k50 : Rat := two (-50)
def k22 : Rat := two (-22)
theorem rel64 {x r : Rat} (h : Rnd .f64 x r) (h1 : two (-200) ≤ x) : r ≤ x * (1 + k50) ∧ x ≤ r * (1 + k50) ∧ x * (1 - k50) ≤ r ∧ 0 < r := by
  have x0 : 0 < x := by have := two_pos (-200); grind
  obtain ⟨e1, e2⟩ := h.err0 (Rat.le_of_lt x0)
  have c : two (loK .f64) ≤ x * two (-52) := by
    have := Rat.mul_le_mul_of_nonneg_right h1 (Rat.le_of_lt (two_pos (-52)))
    have k : two (loK .f64) ≤ two (-200) * two (-52) := by rw [← two_add]; exact two_le (by decide)
    grind
  have ep : two (-(pB .f64 : Int)) = two (-52) := rfl
  rw [ep] at e1 e2
  have e52 : two (-52) = k50 / 4 := by decide +kernel
  rw [e52] at e1 e2 c
  have kp : 0 < k50 := by decide +kernel
  have ks : k50 ≤ 1 / 8 := by decide +kernel
  generalize k50 = k at *
  have xk := Rat.mul_pos x0 kp
  have xs := Rat.mul_le_mul_of_nonneg_left ks (Rat.le_of_lt x0)
  have xkk := Rat.mul_le_mul_of_nonneg_left ks (Rat.le_of_lt xk)
  have a3 : x * (1 - k / 2) ≤ r := by grind
  have a4 := Rat.mul_le_mul_of_nonneg_right a3 (show 0 ≤ 1 + k by grind)
  have r0 : 0 < r := by grind
  exact ⟨by grind, by grind, by grind, r0⟩
theorem rel32 {x r : Rat} (h : Rnd .f32 x r) (h1 : two (-100) ≤ x) : r ≤ x * (1 + k22) ∧ x ≤ r * (1 + k22) ∧ 0 < r := by
  have x0 : 0 < x := by have := two_pos (-100); grind
  obtain ⟨e1, e2⟩ := h.err0 (Rat.le_of_lt x0)
  have c : two (loK .f32) ≤ x * two (-26) := by
    have := Rat.mul_le_mul_of_nonneg_right h1 (Rat.le_of_lt (two_pos (-26)))
    have k : two (loK .f32) ≤ two (-100) * two (-26) := by rw [← two_add]; exact two_le (by decide)
    grind
  have ep : two (-(pB .f32 : Int)) = two (-23) := rfl
  rw [ep] at e1 e2
  have e23 : two (-23) = k22 / 2 := by decide +kernel
  have e26 : two (-26) = k22 / 16 := by decide +kernel
  rw [e23] at e1 e2
  rw [e26] at c
  have kp : 0 < k22 := by decide +kernel
  have ks : k22 ≤ 1 / 8 := by decide +kernel
  generalize k22 = k at *
  have xk := Rat.mul_pos x0 kp
  have xs := Rat.mul_le_mul_of_nonneg_left ks (Rat.le_of_lt x0)
  have xkk := Rat.mul_le_mul_of_nonneg_left ks (Rat.le_of_lt xk)
  have a3 : x * (1 - k / 2 - k / 16) ≤ r := by grind
  have a4 := Rat.mul_le_mul_of_nonneg_right a3 (show 0 ≤ 1 + k by grind)
  have r0 : 0 < r := by grind
  exact ⟨by grind, by grind, r0⟩

/-- The series, exactly. -/
def Hx (T : Rat) : Nat → Rat
  | 0 => 1
  | j + 1 => 1 + T * Hx T j / ((12 - (j : Int) : Int) : Rat)
theorem div_abs {a c k : Rat} (h : -c ≤ a) (h' : a ≤ c) (hk : 1 ≤ k) : -c ≤ a / k ∧ a / k ≤ c := by
  have c0 : 0 ≤ c := by grind
  have := Rat.mul_le_mul_of_nonneg_left hk c0
  exact ⟨le_div_of (by grind) (by grind), div_le_of (by grind) (by grind)⟩
theorem mul_abs {a b A B : Rat} (h1 : -A ≤ a) (h2 : a ≤ A) (h3 : -B ≤ b) (h4 : b ≤ B) : -(A * B) ≤ a * b ∧ a * b ≤ A * B := by
  have p1 := Rat.mul_nonneg (show 0 ≤ A - a by grind) (show 0 ≤ B - b by grind)
  have p2 := Rat.mul_nonneg (show 0 ≤ A + a by grind) (show 0 ≤ B - b by grind)
  have p3 := Rat.mul_nonneg (show 0 ≤ A - a by grind) (show 0 ≤ B + b by grind)
  have p4 := Rat.mul_nonneg (show 0 ≤ A + a by grind) (show 0 ≤ B + b by grind)
  constructor <;> grind
theorem hx_bd {T : Rat} (h1 : -(1 / 16) ≤ T) (h2 : T ≤ 1 / 16) (j : Nat) (hj : j ≤ 12) : 14 / 15 ≤ Hx T j ∧ Hx T j ≤ 16 / 15 := by
  induction j with
  | zero => rw [Hx]; constructor <;> decide +kernel
  | succ j ih =>
    obtain ⟨i1, i2⟩ := ih (by omega)
    have hk := q_one_le (k := 12 - (j : Int)) (by omega)
    have m := mul_abs h1 h2 (b := Hx T j) (B := 16 / 15) (by grind) i2
    have d := div_abs (a := T * Hx T j) (c := 1 / 15) (by grind) (by grind) hk
    rw [Hx]
    constructor <;> grind
theorem div_mono {a b k : Rat} (h : a ≤ b) (hk : 1 ≤ k) : a / k ≤ b / k := by
  have h0 := Rat.div_mul_cancel (a := a) (b := k) (by grind)
  exact le_div_of (by grind) (by grind)
theorem hx_mono {T T' : Rat} (h1 : -(1 / 16) ≤ T') (h2 : T ≤ 1 / 16) (h : T' ≤ T) (j : Nat) (hj : j ≤ 12) : Hx T' j ≤ Hx T j ∧ Hx T j ≤ Hx T' j + 2 * (T - T') := by
  induction j with
  | zero => simp only [Hx]; constructor <;> grind
  | succ j ih =>
    obtain ⟨i1, i2⟩ := ih (by omega)
    obtain ⟨b1, b2⟩ := hx_bd (T := T) (by grind) h2 j (by omega)
    have hk := q_one_le (k := 12 - (j : Int)) (by omega)
    have d0 : 0 ≤ T - T' := by grind
    have p1 := Rat.mul_le_mul_of_nonneg_left b1 d0
    have p2 := Rat.mul_le_mul_of_nonneg_left b2 d0
    have m := mul_abs (a := T') (A := 1 / 16) h1 (by grind) (b := Hx T j - Hx T' j) (B := 2 * (T - T')) (by grind) (by grind)
    have e : T * Hx T j = T' * Hx T' j + ((T - T') * Hx T j + T' * (Hx T j - Hx T' j)) := by grind
    simp only [Hx]
    have q1 := div_mono (a := T' * Hx T' j) (b := T * Hx T j) (by grind) hk
    have q2 : T * Hx T j / ((12 - (j : Int) : Int) : Rat) ≤ T' * Hx T' j / ((12 - (j : Int) : Int) : Rat) + 2 * (T - T') := by
      have h0 := Rat.div_mul_cancel (a := T' * Hx T' j) (b := ((12 - (j : Int) : Int) : Rat)) (by grind)
      have p3 := Rat.mul_le_mul_of_nonneg_left hk d0
      exact div_le_of (by grind) (by grind)
    constructor <;> grind
/-- One step of the series near nought. -/
theorem ep_step {t : Nat} {T : Rat} (ht : Num .f64 t T) (h1 : -(1 / 16) ≤ T) (h2 : T ≤ 1 / 16) (j : Nat) (hj : j < 12) {p : Rat} (hp : Num .f64 (eP t j) p) (hb : p ≤ Hx T j + k50 ∧ Hx T j ≤ p + k50) :
    floatBits .mul .f64 t (eP t j) = some (eM t (eP t j)) ∧ floatBits .quo .f64 (eM t (eP t j)) (Fi (12 - (j : Int))) = some (eD (eM t (eP t j)) j) ∧ floatBits .add .f64 4607182418800017408 (eD (eM t (eP t j)) j) = some (eP t (j + 1)) ∧
    ∃ p', Num .f64 (eP t (j + 1)) p' ∧ p' ≤ Hx T (j + 1) + k50 ∧ Hx T (j + 1) ≤ p' + k50 := by
  obtain ⟨i1, i2⟩ := hx_bd h1 h2 j (by omega)
  have ks : k50 ≤ 1 / 1000 := by decide +kernel
  have kp : 0 < k50 := by decide +kernel
  have e52 : two (-52) = k50 / 4 := by decide +kernel
  have hk := q_one_le (k := 12 - (j : Int)) (by omega)
  have hk' := fi_num (12 - (j : Int)) (by omega)
  have m := mul_abs h1 h2 (b := p) (B := 11 / 10) (by grind) (by grind)
  have b1 : Bd 0 (T * p) := by rw [Bd, show two 0 = 1 from rfl]; constructor <;> grind
  obtain ⟨g1, M, hM, rM⟩ := mul_o ht hp (k0 := 0) (by decide) b1
  have eM' := near2 rM (by grind) (by grind)
  have dM := div_abs (a := M) (c := 1 / 8) (by grind) (by grind) hk
  have b2 : Bd 0 (M / ((12 - (j : Int) : Int) : Rat)) := by rw [Bd, show two 0 = 1 from rfl]; constructor <;> grind
  obtain ⟨g2, D, hD, rD⟩ := div_o hM hk' (by grind) (k0 := 0) (by decide) (by decide) b2
  have eD' := near2 rD (by grind) (by grind)
  have b3 : Bd 1 (1 + D) := by rw [Bd, show two 1 = 2 from rfl]; constructor <;> grind
  obtain ⟨g3, r, hr, rr⟩ := add_o num_one hD (k0 := 1) (by decide) b3
  have er := near2 rr (by grind) (by grind)
  refine ⟨g1, g2, g3, r, hr, ?_⟩
  -- the exact quotient
  have m2 := mul_abs h1 h2 (b := p - Hx T j) (B := k50) (by grind) (by grind)
  have dd := div_abs (a := M - T * Hx T j) (c := k50 / 16 + k50 / 4) (by grind) (by grind) hk
  have e : M / ((12 - (j : Int) : Int) : Rat) = T * Hx T j / ((12 - (j : Int) : Int) : Rat) + (M - T * Hx T j) / ((12 - (j : Int) : Int) : Rat) := by
    rw [Rat.div_def, Rat.div_def, Rat.div_def]; grind
  rw [Hx]
  constructor <;> grind
theorem ep_near {t : Nat} {T : Rat} (ht : Num .f64 t T) (h1 : -(1 / 16) ≤ T) (h2 : T ≤ 1 / 16) (j : Nat) (hj : j ≤ 12) : ∃ p, Num .f64 (eP t j) p ∧ p ≤ Hx T j + k50 ∧ Hx T j ≤ p + k50 := by
  induction j with
  | zero => exact ⟨1, num_one, by rw [Hx]; decide +kernel, by rw [Hx]; decide +kernel⟩
  | succ j ih =>
    obtain ⟨p, n, b⟩ := ih (by omega)
    exact (ep_step ht h1 h2 j (by omega) n b).2.2.2
/-- Lower bounds for the squares. -/
def loA : Nat → Rat
  | 0 => 973677 * two (-20)
  | 1 => 904127 * two (-20)
  | 2 => 779576 * two (-20)
  | 3 => 579584 * two (-20)
  | 4 => 640711 * two (-21)
  | 5 => 782986 * two (-23)
  | 6 => 584666 * two (-26)
  | 7 => 651997 * two (-33)
  | _ => 810814 * two (-47)
/-- Lower bounds for the squares, nearer to nought. -/
def loB : Nat → Rat
  | 0 => 998768 * two (-20)
  | 1 => 951325 * two (-20)
  | 2 => 863093 * two (-20)
  | 3 => 710420 * two (-20)
  | 4 => 962632 * two (-21)
  | 5 => 883732 * two (-22)
  | 6 => 744802 * two (-24)
  | 7 => 529031 * two (-28)
  | _ => 533816 * two (-37)
/-- Upper bounds for the squares. -/
def hiR : Nat → Rat
  | 0 => 564618 * two (-19)
  | 1 => 608051 * two (-19)
  | 2 => 705197 * two (-19)
  | 3 => 948530 * two (-19)
  | 4 => 858030 * two (-18)
  | 5 => 702110 * two (-16)
  | 6 => 940244 * two (-13)
  | 7 => 843105 * two (-6)
  | _ => 677897 * two (8)
/-- Lower bounds go on so. -/
structure LoOk (L : Nat → Rat) : Prop where
  step : ∀ j : Fin 8, L (j.val + 1) ≤ L j.val * L j.val * (1 - k50)
  pos : ∀ j : Fin 9, two (-60) ≤ L j.val
theorem loA_ok : LoOk loA := ⟨by decide +kernel, by decide +kernel⟩
theorem loB_ok : LoOk loB := ⟨by decide +kernel, by decide +kernel⟩
theorem lo_end : two (-18) ≤ loB 8 := by decide +kernel
theorem hi_step : ∀ j : Fin 8, hiR j.val * hiR j.val * (1 + k50) ≤ hiR (j.val + 1) := by decide +kernel
theorem hi_ok : ∀ j : Fin 9, hiR j.val ≤ two 30 := by decide +kernel
theorem loA_zero : loA 0 ≤ 13 / 14 := by decide +kernel
theorem loB_zero : loB 0 ≤ 381 / 400 := by decide +kernel
theorem hi_zero : 14 / 13 ≤ hiR 0 := by decide +kernel
theorem es_near {p : Nat} {P : Rat} {L : Nat → Rat} (hp : Num .f64 p P) (hL : L 0 ≤ P) (hl : LoOk L) (h2 : P ≤ 14 / 13) (j : Nat) (hj : j ≤ 8) :
    (∀ i, i < j → floatBits .mul .f64 (eS p i) (eS p i) = some (eS p (i + 1))) ∧ ∃ q, Num .f64 (eS p j) q ∧ L j ≤ q ∧ q ≤ hiR j := by
  induction j with
  | zero => exact ⟨fun i hi => absurd hi (Nat.not_lt_zero i), P, hp, hL, Rat.le_trans h2 hi_zero⟩
  | succ j ih =>
    obtain ⟨f, q, n, q1, q2⟩ := ih (by omega)
    have l1 := hl.pos ⟨j, by omega⟩
    have s1 := hl.step ⟨j, by omega⟩
    have s2 := hi_step ⟨j, by omega⟩
    have u1 := hi_ok ⟨j, by omega⟩
    dsimp only at l1 u1 s1 s2
    have q0 : two (-60) ≤ q := Rat.le_trans l1 q1
    have tp := two_pos (-60)
    have m1 : L j * L j ≤ q * q := by
      have a1 := Rat.mul_le_mul_of_nonneg_left q1 (show 0 ≤ L j by grind)
      have a2 := Rat.mul_le_mul_of_nonneg_right q1 (show 0 ≤ q by grind)
      grind
    have m2 : q * q ≤ hiR j * hiR j := by
      have a1 := Rat.mul_le_mul_of_nonneg_left q2 (show 0 ≤ q by grind)
      have a2 := Rat.mul_le_mul_of_nonneg_right q2 (show 0 ≤ hiR j by grind)
      grind
    have m3 : two (-200) ≤ q * q := by
      have a1 := Rat.mul_le_mul_of_nonneg_left q0 (show 0 ≤ two (-60) by grind)
      have a2 := Rat.mul_le_mul_of_nonneg_right q0 (show 0 ≤ q by grind)
      have a3 : two (-200) ≤ two (-60) * two (-60) := by decide +kernel
      grind
    have bq : Bd 30 q := ⟨by have := two_pos 30; grind, by grind⟩
    obtain ⟨g, r, nr, rr⟩ := mul_o n n (k0 := 60) (by decide) (bq.mul bq)
    obtain ⟨e1, -, e3, -⟩ := rel64 rr m3
    have kp : 0 < k50 := by decide +kernel
    have ks : k50 ≤ 1 / 1000 := by decide +kernel
    refine ⟨fun i hi => ?_, r, nr, ?_, ?_⟩
    · rcases Nat.lt_succ_iff_lt_or_eq.1 hi with h | rfl
      · exact f i h
      · exact g
    · have := Rat.mul_le_mul_of_nonneg_right m1 (show 0 ≤ 1 - k50 by grind)
      grind
    · have := Rat.mul_le_mul_of_nonneg_right m2 (show 0 ≤ 1 + k50 by grind)
      grind
/-- How much greater one may get. -/
def et : Nat → Rat
  | 0 => 589824 * two (-42)
  | 1 => 589827 * two (-41)
  | 2 => 589829 * two (-40)
  | 3 => 589830 * two (-39)
  | 4 => 589831 * two (-38)
  | 5 => 589832 * two (-37)
  | 6 => 589834 * two (-36)
  | 7 => 589837 * two (-35)
  | _ => 589843 * two (-34)
theorem et_step : ∀ j : Fin 8, 2 * et j.val + et j.val * et j.val + two (-40) ≤ et (j.val + 1) := by decide +kernel
theorem et_ok : ∀ j : Fin 9, 0 ≤ et j.val ∧ et j.val ≤ 1 / 2 := by decide +kernel
theorem et_zero : two (-23) * (9 / 8) ≤ et 0 := by decide +kernel
theorem et_end : et 8 ≤ 1 / 25000 := by decide +kernel
theorem es_rat {p p' : Nat} {P P' : Rat} (hp : Num .f64 p P) (hp' : Num .f64 p' P') (h1 : 13 / 14 ≤ P) (h1' : 13 / 14 ≤ P') (h2 : P ≤ 14 / 13) (h2' : P' ≤ 14 / 13) (h : P' ≤ P * (1 + et 0)) (j : Nat) (hj : j ≤ 8) :
    ∃ q q', Num .f64 (eS p j) q ∧ Num .f64 (eS p' j) q' ∧ q' ≤ q * (1 + et j) := by
  induction j with
  | zero => exact ⟨P, P', hp, hp', h⟩
  | succ j ih =>
    obtain ⟨q, q', n, n', hq⟩ := ih (by omega)
    obtain ⟨-, x, nx, x1, x2⟩ := es_near hp (Rat.le_trans loA_zero h1) loA_ok h2 j (by omega)
    obtain ⟨-, x', nx', x1', x2'⟩ := es_near hp' (Rat.le_trans loA_zero h1') loA_ok h2' j (by omega)
    have := nx.unique n
    have := nx'.unique n'
    subst_vars
    have l1 := loA_ok.pos ⟨j, by omega⟩
    have es := et_step ⟨j, by omega⟩
    have u1 := hi_ok ⟨j, by omega⟩
    obtain ⟨t1, t2⟩ := et_ok ⟨j, by omega⟩
    dsimp only at l1 u1 t1 t2 es
    have tp := two_pos (-60)
    have q0 := Rat.le_trans l1 x1
    have q0' := Rat.le_trans l1 x1'
    have a3 : two (-200) ≤ two (-60) * two (-60) := by decide +kernel
    have sq : ∀ y : Rat, two (-60) ≤ y → two (-200) ≤ y * y := fun y hy => by
      have a1 := Rat.mul_le_mul_of_nonneg_left hy (show 0 ≤ two (-60) by grind)
      have a2 := Rat.mul_le_mul_of_nonneg_right hy (show 0 ≤ y by grind)
      grind
    have bb : ∀ y : Rat, two (-60) ≤ y → y ≤ hiR j → Bd 30 y := fun y h1 h2 => ⟨by have := two_pos 30; grind, by grind⟩
    obtain ⟨-, r, nr, rr⟩ := mul_o n n (k0 := 60) (by decide) ((bb _ q0 x2).mul (bb _ q0 x2))
    obtain ⟨-, r', nr', rr'⟩ := mul_o n' n' (k0 := 60) (by decide) ((bb _ q0' x2').mul (bb _ q0' x2'))
    obtain ⟨-, e2, -, e0⟩ := rel64 rr (sq _ q0)
    obtain ⟨e1, -⟩ := rel64 rr' (sq _ q0')
    refine ⟨r, r', nr, nr', ?_⟩
    have kp : 0 < k50 := by decide +kernel
    have ks : 3 * k50 ≤ two (-40) / 4 := by decide +kernel
    have k1 : k50 ≤ 1 / 2 := by decide +kernel
    generalize two (-40) = w at *
    refine Rat.le_trans ?_ (Rat.mul_le_mul_of_nonneg_left (show 1 + (2 * et j + et j * et j + w) ≤ 1 + et (j + 1) by grind) (Rat.le_of_lt e0))
    clear es
    generalize et j = η at *
    generalize k50 = k at *
    have f1 : x' * x' ≤ (x * (1 + η)) * (x * (1 + η)) := by
      have a1 := Rat.mul_le_mul_of_nonneg_left hq (show 0 ≤ x' by grind)
      have a2 := Rat.mul_le_mul_of_nonneg_right hq (show 0 ≤ x * (1 + η) by grind)
      grind
    have f2 := Rat.mul_le_mul_of_nonneg_right f1 (show 0 ≤ 1 + k by grind)
    have g0 : 0 ≤ (1 + η) * (1 + η) * (1 + k) := Rat.mul_nonneg (Rat.mul_nonneg (by grind) (by grind)) (by grind)
    have f3 := Rat.mul_le_mul_of_nonneg_right e2 g0
    have c : (1 + k) * ((1 + η) * (1 + η) * (1 + k)) ≤ 1 + (2 * η + η * η + w) := by
      have h1 : (1 + η) * (1 + η) ≤ 9 / 4 := by
        have := Rat.mul_le_mul_of_nonneg_left (show 1 + η ≤ 3 / 2 by grind) (show 0 ≤ 1 + η by grind)
        grind
      have h2 := Rat.mul_le_mul_of_nonneg_right h1 (show 0 ≤ 2 * k + k * k by have := Rat.mul_pos kp kp; grind)
      have h3 := Rat.mul_le_mul_of_nonneg_left k1 (Rat.le_of_lt kp)
      grind
    have f4 := Rat.mul_le_mul_of_nonneg_left c (Rat.le_of_lt e0)
    grind
/-- The exponential near nought. -/
theorem ex_near {x : Nat} {a : Rat} (h : Num .f32 x a) (h1 : -16 ≤ a) (h2 : a ≤ 16) : ExOk x ∧ ∃ r, Num .f32 (EXw x) r ∧ two (-61) ≤ r ∧ r ≤ two 30 ∧ (-11 ≤ a → two (-18) ≤ r) := by
  have hb : Bd 8 a := by rw [Bd, show two 8 = 256 from rfl]; constructor <;> grind
  obtain ⟨gt, ht⟩ := et_num h hb
  have e256 : a / 256 * 256 = a := Rat.div_mul_cancel (by decide +kernel)
  have T1 : -(1 / 16) ≤ a / 256 := by grind
  have T2 : a / 256 ≤ 1 / 16 := by grind
  have T3 : -11 ≤ a → -(11 / 256) ≤ a / 256 := fun _ => by grind
  generalize a / 256 = T at *
  have ks : k50 ≤ 1 / 100000 := by decide +kernel
  obtain ⟨p, hp, p1, p2⟩ := ep_near ht T1 T2 12 (Nat.le_refl _)
  obtain ⟨b1, b2⟩ := hx_bd T1 T2 12 (Nat.le_refl _)
  obtain ⟨f, q, hq, q1, q2⟩ := es_near hp (L := loA) (by have := loA_zero; grind) loA_ok (by grind) 8 (Nat.le_refl _)
  have l1 : two (-60) ≤ loA 8 := loA_ok.pos 8
  have u1 : hiR 8 ≤ two 30 := hi_ok 8
  have bq : Bd 30 q := ⟨by have := two_pos 30; have := two_pos (-60); exact Rat.le_trans (b := 0) (by grind) (Rat.le_trans (Rat.le_of_lt (two_pos (-60))) (Rat.le_trans l1 q1)), Rat.le_trans q2 u1⟩
  obtain ⟨gn, r, hr, rr⟩ := dn_o hq (k0 := 30) (by decide) bq
  refine ⟨⟨gt, fun j hj => ?_, f, gn⟩, r, hr, ?_, rr.le_two (by decide) bq.2, fun ha => ?_⟩
  · obtain ⟨p, n, b⟩ := ep_near ht T1 T2 j (by omega)
    obtain ⟨g1, g2, g3, -⟩ := ep_step ht T1 T2 j hj n b
    exact ⟨g1, g2, g3⟩
  · exact rr.dn _ (rep_two _ _ (by decide)) (Rat.le_trans (two_le (by decide)) (Rat.le_trans l1 q1))
  · have T3 := T3 ha
    obtain ⟨b3, b4⟩ := hx_bd T1 T2 11 (by decide)
    have m := Rat.mul_nonneg (show 0 ≤ T + 11 / 256 by grind) (show 0 ≤ Hx T 11 by grind)
    have h12 : Hx T 12 = 1 + T * Hx T 11 / ((12 - ((11 : Nat) : Int) : Int) : Rat) := rfl
    rw [show ((12 - ((11 : Nat) : Int) : Int) : Rat) = 1 from rfl, Rat.div_def, show (1 : Rat)⁻¹ = 1 by decide +kernel, Rat.mul_one] at h12
    obtain ⟨-, q', hq', q1', -⟩ := es_near hp (L := loB) (by have := loB_zero; grind) loB_ok (by grind) 8 (Nat.le_refl _)
    have := hq'.unique hq
    subst this
    exact rr.dn _ (rep_two _ _ (by decide)) (Rat.le_trans lo_end q1')
/-- At an argument that is greater by a little at most it is greater by a little at most. -/
theorem ex_mono {x x' : Nat} {a a' : Rat} (h : Num .f32 x a) (h' : Num .f32 x' a') (h1 : -16 ≤ a) (h2 : a ≤ 16) (h1' : -16 ≤ a') (h2' : a' ≤ 16) (hle : a' ≤ a + two (-16)) :
    ∃ r r', Num .f32 (EXw x) r ∧ Num .f32 (EXw x') r' ∧ 0 < r ∧ 0 < r' ∧ r' ≤ r * (1 + 1 / 20000) := by
  have hb : Bd 8 a := by rw [Bd, show two 8 = 256 from rfl]; constructor <;> grind
  have hb' : Bd 8 a' := by rw [Bd, show two 8 = 256 from rfl]; constructor <;> grind
  obtain ⟨-, ht⟩ := et_num h hb
  obtain ⟨-, ht'⟩ := et_num h' hb'
  have e256 : a / 256 * 256 = a := Rat.div_mul_cancel (by decide +kernel)
  have e256' : a' / 256 * 256 = a' := Rat.div_mul_cancel (by decide +kernel)
  have t16 : two (-16) = 2 * 256 * (two (-23) / 4) := by decide +kernel
  have T1 : -(1 / 16) ≤ a / 256 := by grind
  have T2 : a / 256 ≤ 1 / 16 := by grind
  have T1' : -(1 / 16) ≤ a' / 256 := by grind
  have T2' : a' / 256 ≤ 1 / 16 := by grind
  have hT : a' / 256 ≤ a / 256 + two (-23) / 2 := by grind
  generalize a / 256 = T at *
  generalize a' / 256 = T' at *
  have ks : k50 ≤ 1 / 100000 := by decide +kernel
  have kk : 2 * k50 ≤ two (-23) / 64 := by decide +kernel
  have kp : 0 < k50 := by decide +kernel
  obtain ⟨p, hp, p1, p2⟩ := ep_near ht T1 T2 12 (Nat.le_refl _)
  obtain ⟨p', hp', p1', p2'⟩ := ep_near ht' T1' T2' 12 (Nat.le_refl _)
  obtain ⟨b1, b2⟩ := hx_bd T1 T2 12 (Nat.le_refl _)
  obtain ⟨b1', b2'⟩ := hx_bd T1' T2' 12 (Nat.le_refl _)
  have hH : Hx T' 12 ≤ Hx T 12 + two (-23) := by
    by_cases hc : T' ≤ T
    · have := (hx_mono T1' T2 hc 12 (Nat.le_refl _)).1
      have := two_pos (-23)
      grind
    · have := (hx_mono T1 T2' (show T ≤ T' by grind) 12 (Nat.le_refl _)).2
      grind
  have tp := two_pos (-23)
  have hr : p' ≤ p * (1 + et 0) := by
    have e0 := et_zero
    have p0 := Rat.mul_le_mul_of_nonneg_left e0 (show 0 ≤ p by grind)
    have := Rat.mul_le_mul_of_nonneg_right (show 14 / 15 - 1 / 100000 ≤ p by grind) (Rat.le_of_lt tp)
    grind
  obtain ⟨q, q', hq, hq', hqq⟩ := es_rat hp hp' (by grind) (by grind) (by grind) (by grind) hr 8 (Nat.le_refl _)
  obtain ⟨-, y, hy, y1, y2⟩ := es_near hp (L := loA) (by have := loA_zero; grind) loA_ok (by grind) 8 (Nat.le_refl _)
  obtain ⟨-, y', hy', y1', y2'⟩ := es_near hp' (L := loA) (by have := loA_zero; grind) loA_ok (by grind) 8 (Nat.le_refl _)
  have := hy.unique hq
  have := hy'.unique hq'
  subst_vars
  have l1 : two (-60) ≤ loA 8 := loA_ok.pos 8
  have u1 : hiR 8 ≤ two 30 := hi_ok 8
  have lq := Rat.le_trans l1 y1
  have lq' := Rat.le_trans l1 y1'
  have tp6 := two_pos (-60)
  have bq : Bd 30 y := ⟨by have := two_pos 30; exact Rat.le_trans (b := 0) (by grind) (Rat.le_trans (Rat.le_of_lt tp6) lq), Rat.le_trans y2 u1⟩
  have bq' : Bd 30 y' := ⟨by have := two_pos 30; exact Rat.le_trans (b := 0) (by grind) (Rat.le_trans (Rat.le_of_lt tp6) lq'), Rat.le_trans y2' u1⟩
  obtain ⟨-, r, nr, rr⟩ := dn_o hq (k0 := 30) (by decide) bq
  obtain ⟨-, r', nr', rr'⟩ := dn_o hq' (k0 := 30) (by decide) bq'
  obtain ⟨-, e2, e0⟩ := rel32 rr (Rat.le_trans (two_le (by decide)) lq)
  obtain ⟨e1, -, e0'⟩ := rel32 rr' (Rat.le_trans (two_le (by decide)) lq')
  refine ⟨r, r', nr, nr', e0, e0', ?_⟩
  have ke : (1 + k22) * ((1 + et 8) * (1 + k22)) ≤ 1 + 1 / 20000 := by decide +kernel
  have kp2 : 0 < k22 := by decide +kernel
  have t8 := (et_ok 8).1
  have t8 : 0 ≤ et 8 := t8
  have f1 := Rat.mul_le_mul_of_nonneg_right hqq (show 0 ≤ 1 + k22 by grind)
  have f2 := Rat.mul_le_mul_of_nonneg_right e2 (Rat.mul_nonneg (show 0 ≤ 1 + et 8 by grind) (show 0 ≤ 1 + k22 by grind))
  have f3 := Rat.mul_le_mul_of_nonneg_left ke (Rat.le_of_lt e0)
  grind
end Go.Proofs.Ythafmldcfdcngaa
