/- The exponential function of both packages as a function of words. Plain; conditions: what each theorem names. -/
import Derived.Test.YthafmldcfdcngaaCotP
namespace Go.Proofs.Ythafmldcfdcngaa
open Ieee
set_option maxRecDepth 100000
set_option linter.unusedVariables false
set_option linter.unusedSimpArgs false

theorem num_256 : Num .f64 4643211215818981376 256 := ⟨false, 2 ^ 52, -44, by decide +kernel, by decide +kernel⟩
theorem num_p200f : Num .f32 1128792064 200 := ⟨false, 13107200, -16, by decide +kernel, by decide +kernel⟩
theorem num_m200f : Num .f32 3276275712 (-200) := ⟨true, 13107200, -16, by decide +kernel, by decide +kernel⟩
theorem num_p200d : Num .f64 4641240890982006784 200 := ⟨false, 7036874417766400, -45, by decide +kernel, by decide +kernel⟩
theorem num_m200d : Num .f64 13864612927836782592 (-200) := ⟨true, 7036874417766400, -45, by decide +kernel, by decide +kernel⟩
def eT (x : Nat) : Nat := fdiv .f64 (fup x) 4643211215818981376
def eM (t p : Nat) : Nat := fmul .f64 t p
def eD (m : Nat) (j : Nat) : Nat := fdiv .f64 m (Fi (12 - (j : Int)))
def eP (t : Nat) : Nat → Nat
  | 0 => 4607182418800017408
  | j + 1 => fadd .f64 4607182418800017408 (eD (eM t (eP t j)) j)
def eS (p : Nat) : Nat → Nat
  | 0 => p
  | j + 1 => fmul .f64 (eS p j) (eS p j)
def EXw (x : Nat) : Nat := fdn (eS (eP (eT x) 12) 8)
/-- Each operation is as it must be. -/
structure ExOk (x : Nat) : Prop where
  t : floatBits .quo .f64 (fup x) 4643211215818981376 = some (eT x)
  p : ∀ j, j < 12 → floatBits .mul .f64 (eT x) (eP (eT x) j) = some (eM (eT x) (eP (eT x) j)) ∧ floatBits .quo .f64 (eM (eT x) (eP (eT x) j)) (Fi (12 - (j : Int))) = some (eD (eM (eT x) (eP (eT x) j)) j) ∧ floatBits .add .f64 4607182418800017408 (eD (eM (eT x) (eP (eT x) j)) j) = some (eP (eT x) (j + 1))
  s : ∀ j, j < 8 → floatBits .mul .f64 (eS (eP (eT x) 12) j) (eS (eP (eT x) 12) j) = some (eS (eP (eT x) 12) (j + 1))
  n : floatToFloatBits .f64 (eS (eP (eT x) 12) 8) .f32 = some (EXw x)
/-- The argument over 256 is told without an error. -/
theorem et_num {x : Nat} {a : Rat} (h : Num .f32 x a) (hb : Bd 8 a) : floatBits .quo .f64 (fup x) 4643211215818981376 = some (eT x) ∧ Num .f64 (eT x) (a / 256) := by
  have hu := (up_o h).2
  have e : a / 256 = a * two (-8) := by
    rw [Rat.div_def]; congr 1
  have hd : Bd 0 (a / 256) := by
    rw [e]
    have h1 : Bd (-8) (two (-8)) := ⟨by have := two_pos (-8); grind, Rat.le_refl⟩
    exact hb.mul h1
  obtain ⟨g, r, h1, h2⟩ := div_o hu num_256 (by decide +kernel) (k0 := 0) (by decide) (by decide) hd
  have hrep : Rep .f64 (a / 256) := by
    obtain ⟨m, i, k1, k2, k3⟩ := h.rep
    refine ⟨m, i - 8, ?_, ?_, ?_⟩
    · have : 2 * binK .f32 ≤ 2 * binK .f64 := by decide
      omega
    · have : loK .f64 = -1074 := rfl
      have : loK .f32 = -149 := rfl
      omega
    · rw [e, show i - 8 = i + -8 by omega, two_add]
      rcases k3 with rfl | rfl
      · left; grind
      · right; grind
  rw [h2.exact hrep] at h1
  exact ⟨g, h1⟩
theorem q_one_le {k : Int} (h : 1 ≤ k) : (1 : Rat) ≤ (k : Rat) := by
  rw [show (1 : Rat) = ((1 : Int) : Rat) from rfl, Rat.intCast_le_intCast]; exact h
/-- One step of the series, below nought. -/
theorem ep_neg {t : Nat} {T : Rat} (ht : Num .f64 t T) (h0 : T ≤ 0) (h1 : -1 ≤ T) (j : Nat) (hj : j ≤ 12) : ∃ p, Num .f64 (eP t j) p ∧ 0 ≤ p ∧ p ≤ 1 := by
  induction j with
  | zero => exact ⟨1, num_one, by decide, by decide⟩
  | succ j ih =>
    obtain ⟨p, hp, p0, p1⟩ := ih (by omega)
    have m1 : T * p ≤ 0 := by have := Rat.mul_nonneg (show 0 ≤ -T by grind) p0; grind
    have m2 : -1 ≤ T * p := by have := Rat.mul_le_mul_of_nonneg_left p1 (show 0 ≤ -T by grind); grind
    have b1 : Bd 0 (T * p) := ⟨by rw [show two 0 = 1 from rfl]; exact m2, by rw [show two 0 = 1 from rfl]; grind⟩
    obtain ⟨-, M, hM, rM⟩ := mul_o ht hp (k0 := 0) (by decide) b1
    have hk := fi_num (12 - (j : Int)) (by omega)
    have hk1 := q_one_le (k := 12 - (j : Int)) (by omega)
    have bM := rM.bd (by decide) b1
    have hM0 := rM.nonpos m1
    have b2 : Bd 0 (M / ((12 - (j : Int) : Int) : Rat)) := div_bd bM hk1
    obtain ⟨-, D, hD, rD⟩ := div_o hM hk (by grind) (k0 := 0) (by decide) (by decide) b2
    have hD0 : D ≤ 0 := rD.nonpos (by
      have h0 := Rat.div_mul_cancel (a := M) (b := ((12 - (j : Int) : Int) : Rat)) (by grind)
      refine Rat.not_lt.1 fun hn => ?_
      have := Rat.mul_pos hn (show (0 : Rat) < ((12 - (j : Int) : Int) : Rat) by grind)
      grind)
    have bD := rD.bd (by decide) b2
    rw [Bd, show two 0 = 1 from rfl] at bD
    have b3 : Bd 0 (1 + D) := by rw [Bd, show two 0 = 1 from rfl]; constructor <;> grind
    obtain ⟨-, r, hr, rr⟩ := add_o num_one hD (k0 := 0) (by decide) b3
    exact ⟨r, hr, rr.nonneg (by grind), (rr.bd (by decide) b3).2⟩
theorem es_unit {p : Nat} {P : Rat} (hp : Num .f64 p P) (h0 : 0 ≤ P) (h1 : P ≤ 1) (j : Nat) : ∃ q, Num .f64 (eS p j) q ∧ 0 ≤ q ∧ q ≤ 1 := by
  induction j with
  | zero => exact ⟨P, hp, h0, h1⟩
  | succ j ih =>
    obtain ⟨q, hq, q0, q1⟩ := ih
    have m0 := Rat.mul_nonneg q0 q0
    have m1 := Rat.mul_le_mul_of_nonneg_left q1 q0
    have b : Bd 0 (q * q) := by rw [Bd, show two 0 = 1 from rfl]; constructor <;> grind
    obtain ⟨-, r, hr, rr⟩ := mul_o hq hq (k0 := 0) (by decide) b
    exact ⟨r, hr, rr.nonneg m0, (rr.bd (by decide) b).2⟩
/-- Not above nought: all is as it must be, and what comes lies between nought and one. -/
theorem ex_neg {x : Nat} {a : Rat} (h : Num .f32 x a) (h0 : a ≤ 0) (h1 : -200 ≤ a) : ExOk x ∧ ∃ r, Num .f32 (EXw x) r ∧ 0 ≤ r ∧ r ≤ 1 := by
  have hb : Bd 8 a := by rw [Bd, show two 8 = 256 from rfl]; constructor <;> grind
  obtain ⟨gt, ht⟩ := et_num h hb
  have hT0 : a / 256 ≤ 0 := by rw [Rat.div_def]; have := Rat.mul_nonneg (show 0 ≤ -a by grind) (show (0 : Rat) ≤ 256⁻¹ by decide +kernel); grind
  have hT1 : -1 ≤ a / 256 := by
    have := Rat.div_mul_cancel (a := a) (b := 256) (by decide +kernel)
    generalize a / 256 = T at *
    grind
  generalize a / 256 = T at *
  obtain ⟨p, hp, p0, p1⟩ := ep_neg ht hT0 hT1 12 (Nat.le_refl _)
  obtain ⟨q, hq, q0, q1⟩ := es_unit hp p0 p1 8
  have bq : Bd 0 q := by rw [Bd, show two 0 = 1 from rfl]; constructor <;> grind
  obtain ⟨gn, r, hr, rr⟩ := dn_o hq (k0 := 0) (by decide) bq
  refine ⟨⟨gt, fun j hj => ?_, fun j hj => ?_, gn⟩, r, hr, rr.nonneg q0, (rr.bd (by decide) bq).2⟩
  · obtain ⟨p, hp, p0, p1⟩ := ep_neg ht hT0 hT1 j (by omega)
    have m1 : T * p ≤ 0 := by have := Rat.mul_nonneg (show 0 ≤ -T by grind) p0; grind
    have m2 : -1 ≤ T * p := by have := Rat.mul_le_mul_of_nonneg_left p1 (show 0 ≤ -T by grind); grind
    have b1 : Bd 0 (T * p) := ⟨by rw [show two 0 = 1 from rfl]; exact m2, by rw [show two 0 = 1 from rfl]; grind⟩
    obtain ⟨g1, M, hM, rM⟩ := mul_o ht hp (k0 := 0) (by decide) b1
    have hk := fi_num (12 - (j : Int)) (by omega)
    have hk1 := q_one_le (k := 12 - (j : Int)) (by omega)
    have bM := rM.bd (by decide) b1
    have b2 : Bd 0 (M / ((12 - (j : Int) : Int) : Rat)) := div_bd bM hk1
    obtain ⟨g2, D, hD, rD⟩ := div_o hM hk (by grind) (k0 := 0) (by decide) (by decide) b2
    have b3 : Bd 1 (1 + D) := Bd.add (i := 0) ⟨by decide +kernel, by decide +kernel⟩ (rD.bd (by decide) b2)
    obtain ⟨g3, -⟩ := add_o num_one hD (k0 := 1) (by decide) b3
    exact ⟨g1, g2, g3⟩
  · obtain ⟨q, hq, q0, q1⟩ := es_unit hp p0 p1 j
    have m0 := Rat.mul_nonneg q0 q0
    have m1 := Rat.mul_le_mul_of_nonneg_left q1 q0
    have b : Bd 0 (q * q) := by rw [Bd, show two 0 = 1 from rfl]; constructor <;> grind
    exact (mul_o hq hq (k0 := 0) (by decide) b).1
/-- The counter of the series. -/
def Ke (j : Nat) : Nat := Fi (12 - (j : Int))
theorem ke_zero : Ke 0 = 4622945017495814144 := by decide +kernel
theorem ke_next (j : Nat) (h : j < 12) : floatBits .sub .f64 (Ke j) 4607182418800017408 = some (Ke (j + 1)) := by
  have key : ∀ n : Fin 12, floatBits .sub .f64 (Ke n.val) 4607182418800017408 = some (Ke (n.val + 1)) := by decide +kernel
  exact key ⟨j, h⟩
theorem ke_ge (j : Nat) (h : j ≤ 12) : (FloatKind.f64.format.order (Ke j) 4607182418800017408 == some .gt || FloatKind.f64.format.order (Ke j) 4607182418800017408 == some .eq) = decide (j < 12) := by
  have key : ∀ n : Fin 13, (FloatKind.f64.format.order (Ke n.val) 4607182418800017408 == some .gt || FloatKind.f64.format.order (Ke n.val) 4607182418800017408 == some .eq) = decide (n.val < 12) := by decide +kernel
  exact key ⟨j, by omega⟩
theorem ke_lt (j : Nat) (h : j < 12) : Ke (j + 1) < Ke j := by
  have key : ∀ n : Fin 12, Ke (n.val + 1) < Ke n.val := by decide +kernel
  exact key ⟨j, h⟩
end Go.Proofs.Ythafmldcfdcngaa
