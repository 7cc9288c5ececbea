/- Two floats held against each other by the statements' own package. Conditions: they are the same word, or both are none. -/
import Derived.Test.YteejcdfmpmcmlaaLg
namespace Go.Proofs.Yteejcdfmpmcmlaa
open Go.RowKit Ieee
set_option maxRecDepth 100000
set_option linter.unusedVariables false
set_option linter.unusedSimpArgs false

theorem neq_of {a b : Option Ordering} : (a != b) = !(a == b) := rfl
set_option maxHeartbeats 1000000 in
theorem sameFloat_any (x y : Nat) (h : x = y ∨ (NaN .f64 x ∧ NaN .f64 y)) (w : World) :
    Calls Try.prog 24 #[.float .f64 x, .float .f64 y] w fun e w' => e = .returned (.bool true) ∧ w = w' := by
  rcases h with rfl | ⟨h1, h2⟩
  · rcases kinds .f64 x with ⟨q, hn⟩ | ⟨s, hi⟩ | hn
    · have o1 : FloatKind.f64.format.order x x = some (cmpQ q q) := order_num hn hn
      rw [cmp_eq.2 rfl] at o1
      have c1 : (FloatKind.f64.format.order x x != some .eq) = false := by rw [o1]; rfl
      by_cases hq : q = 0
      · have o2 : FloatKind.f64.format.order x 0 = some (cmpQ q 0) := order_num hn (num_zero .f64)
        rw [cmp_eq.2 hq] at o2
        have c2 : (FloatKind.f64.format.order x 0 == some .eq) = true := by rw [o2]; rfl
        obtain ⟨z, hz⟩ : ∃ z, floatBits .quo .f64 4607182418800017408 x = some z := by
          obtain ⟨s, m, e, hr, hv⟩ := hn
          have hm : m = 0 := by
            rw [hq] at hv
            have : (m : Rat) * two e = 0 := by
              unfold dv at hv
              cases s
              · exact hv
              · simp only [if_true] at hv; grind
            rcases Rat.mul_eq_zero.1 this with h | h
            · exact Rat.natCast_eq_zero_iff.1 h
            · exact absurd h (Rat.ne_of_gt (two_pos e))
          obtain ⟨s1, m1, e1, hr1, hv1⟩ := num_one
          have hm1 : m1 ≠ 0 := by
            rintro rfl
            unfold dv at hv1
            cases s1 <;> simp at hv1
          refine ⟨FloatKind.f64.format.write (.infinity (s1 ^^ s)), ?_⟩
          show FloatKind.f64.format.div _ _ = _
          rw [Format.div, hr, hr1, hm]
          simp [Datum.quotient, hm1]
        have o3 := run_op (P := Try.prog) hz
        go_enter Try.func24, Try.ntmps24
        go_wp2_with (simp only [o3])
        go_ret
        exact ⟨ret_bool (by simp), rfl⟩
      · have o2 : FloatKind.f64.format.order x 0 = some (cmpQ q 0) := order_num hn (num_zero .f64)
        have c2 : (FloatKind.f64.format.order x 0 == some .eq) = false := by
          rw [o2]
          have : cmpQ q 0 ≠ .eq := fun h => hq (cmp_eq.1 h)
          revert this; cases cmpQ q 0 <;> simp
        have c3 : (FloatKind.f64.format.order x x == some .eq) = true := by rw [o1]; rfl
        clear o2
        go_enter Try.func24, Try.ntmps24
        go_wp2
        go_ret
        exact ⟨rfl, rfl⟩
    · have o1 : FloatKind.f64.format.order x x = some (compare s.toNat s.toNat) := order_inf_inf hi hi
      rw [Nat.compare_eq_eq.2 rfl] at o1
      have c1 : (FloatKind.f64.format.order x x != some .eq) = false := by rw [o1]; rfl
      have c3 : (FloatKind.f64.format.order x x == some .eq) = true := by rw [o1]; rfl
      have o2 : FloatKind.f64.format.order x 0 = _ := order_inf_num hi (num_zero .f64)
      have c2 : (FloatKind.f64.format.order x 0 == some .eq) = false := by rw [o2]; cases s <;> rfl
      clear o2 o1
      go_enter Try.func24, Try.ntmps24
      go_wp2
      go_ret
      exact ⟨rfl, rfl⟩
    · have o1 : FloatKind.f64.format.order x x = none := order_nan_l hn
      have c1 : (FloatKind.f64.format.order x x != some .eq) = true := by rw [o1]; rfl
      go_enter Try.func24, Try.ntmps24
      go_wp2
      go_ret
      exact ⟨rfl, rfl⟩
  · have o1 : FloatKind.f64.format.order x x = none := order_nan_l h1
    have c1 : (FloatKind.f64.format.order x x != some .eq) = true := by rw [o1]; rfl
    have o2 : FloatKind.f64.format.order y y = none := order_nan_l h2
    have c2 : (FloatKind.f64.format.order y y != some .eq) = true := by rw [o2]; rfl
    go_enter Try.func24, Try.ntmps24
    go_wp2
    go_ret
    exact ⟨rfl, rfl⟩
end Go.Proofs.Yteejcdfmpmcmlaa
