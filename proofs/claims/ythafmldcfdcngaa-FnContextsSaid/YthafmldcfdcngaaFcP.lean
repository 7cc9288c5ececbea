/- What FnContexts' own comparisons look at: words of 64 bits. Plain; conditions: what each theorem names. -/
import Derived.Test.YthafmldcfdcngaaMixR
import Derived.Test.YthafmldcfdcngaaWgQ
import Derived.Test.YthafmldcfdcngaaMxU
namespace Go.Proofs.Ythafmldcfdcngaa
open Ieee Go.RowKit
set_option maxRecDepth 100000
set_option linter.unusedVariables false
set_option linter.unusedSimpArgs false

theorem num_m001 : Num .f64 13785626545772145148 (-(4611686018427388 * two (-62))) := ⟨true, 4611686018427388, -62, by decide +kernel, by decide +kernel⟩
theorem num_101 : Num .f64 4607227454796291113 (4548635623644201 * two (-52)) := ⟨false, 4548635623644201, -52, by decide +kernel, by decide +kernel⟩
theorem num_001 : Num .f64 4576918229304087675 (5764607523034235 * two (-59)) := ⟨false, 5764607523034235, -59, by decide +kernel, by decide +kernel⟩
theorem num_0001 : Num .f64 4547007122018943789 (7378697629483821 * two (-66)) := ⟨false, 7378697629483821, -66, by decide +kernel, by decide +kernel⟩
theorem g2048 {x r : Rat} (h : Rnd .f64 x r) (h0 : 0 ≤ x) (h1 : x < 4096) : r ≤ x + two (-41) ∧ x ≤ r + two (-41) :=
  h.grid h0 (-41) (by decide) (by have : two (-41 + (pB .f64 : Int) + 1) = 4096 := by decide +kernel
                                  rw [this]; exact h1)
/-- What the law asks of the three costs. -/
structure CostOk (w b p d : Nat) : Prop where
  b0 : (FloatKind.f32.format.order b 0 == some .lt) = false
  p0 : (FloatKind.f32.format.order p 0 == some .lt) = false
  w1 : floatToFloatBits .f32 w .f64 = some (fup w)
  b1 : floatToFloatBits .f32 b .f64 = some (fup b)
  p1 : floatToFloatBits .f32 p .f64 = some (fup p)
  c0 : (FloatKind.f64.format.order (fup w) 13785626545772145148 == some .lt) = false
  a1 : floatBits .add .f64 (fup p) 4607227454796291113 = some (fadd .f64 (fup p) 4607227454796291113)
  c1 : (FloatKind.f64.format.order (fup w) (fadd .f64 (fup p) 4607227454796291113) == some .gt) = false
  a2 : floatBits .add .f64 (fup b) (Fi ((2 : Int) ^ d - 1)) = some (fadd .f64 (fup b) (Fi ((2 : Int) ^ d - 1)))
  a3 : floatBits .add .f64 (fadd .f64 (fup b) (Fi ((2 : Int) ^ d - 1))) 4576918229304087675 = some (fadd .f64 (fadd .f64 (fup b) (Fi ((2 : Int) ^ d - 1))) 4576918229304087675)
  c2 : (FloatKind.f64.format.order (fup w) (fadd .f64 (fadd .f64 (fup b) (Fi ((2 : Int) ^ d - 1))) 4576918229304087675) == some .gt) = false
theorem not_lt_q {k : FloatKind} {x y : Nat} {a b : Rat} (hx : Num k x a) (hy : Num k y b) (h : b ≤ a) : (k.format.order x y == some .lt) = false := by
  rw [order_num hx hy]
  have : cmpQ a b ≠ .lt := fun e => by have := cmp_lt.1 e; grind
  revert this; cases cmpQ a b <;> simp
theorem not_gt_q {k : FloatKind} {x y : Nat} {a b : Rat} (hx : Num k x a) (hy : Num k y b) (h : a ≤ b) : (k.format.order x y == some .gt) = false := by
  rw [order_num hx hy]
  have : cmpQ a b ≠ .gt := fun e => by have := cmp_gt.1 e; grind
  revert this; cases cmpQ a b <;> simp
theorem lt_q {k : FloatKind} {x y : Nat} {a b : Rat} (hx : Num k x a) (hy : Num k y b) (h : a < b) : k.format.order x y = some .lt := by
  rw [order_num hx hy, cmp_lt.2 h]
theorem gt_q {k : FloatKind} {x y : Nat} {a b : Rat} (hx : Num k x a) (hy : Num k y b) (h : b < a) : k.format.order x y = some .gt := by
  rw [order_num hx hy, cmp_gt.2 h]
theorem cost_ok {w b p d : Nat} {W B P : Rat} (hw : Num .f32 w W) (hb : Num .f32 b B) (hp : Num .f32 p P) (w0 : 0 ≤ W) (b0 : 0 ≤ B) (p0 : 0 ≤ P) (w1 : W ≤ 1024) (b1 : B ≤ 1024) (p1 : P ≤ 1024) (hd : d ≤ 3)
    (h1 : W ≤ P + 1 + 9 / 1000) (h2 : W ≤ B + ((2 ^ d - 1 : Nat) : Rat) + 9 / 1000) : CostOk w b p d := by
  obtain ⟨uw, nw⟩ := up_o hw
  obtain ⟨ub, nb⟩ := up_o hb
  obtain ⟨up, np⟩ := up_o hp
  have k101 : 4548635623644201 * two (-52) ≤ 102 / 100 ∧ 1 + 9 / 1000 + two (-40) ≤ 4548635623644201 * two (-52) := by constructor <;> decide +kernel
  have k001 : 5764607523034235 * two (-59) ≤ 2 / 100 ∧ 9 / 1000 + two (-39) ≤ 5764607523034235 * two (-59) := by constructor <;> decide +kernel
  have t1 : two (-40) = 2 * two (-41) := by decide +kernel
  have t2 : two (-39) = 4 * two (-41) := by decide +kernel
  have tp := two_pos (-41)
  have t4 : two (-41) ≤ 1 := by decide +kernel
  have bb1 : Bd 12 (P + 4548635623644201 * two (-52)) := by rw [Bd, show two 12 = 4096 by decide +kernel]; constructor <;> grind
  obtain ⟨g1, r1, n1, e1⟩ := add_o np num_101 (k0 := 12) (by decide) bb1
  obtain ⟨-, f1⟩ := g2048 e1 (by grind) (by grind)
  have hk : ((2 ^ d - 1 : Nat) : Rat) ≤ ((7 : Nat) : Rat) := Rat.natCast_le_natCast.2 (by
    have : 2 ^ d ≤ 2 ^ 3 := Nat.pow_le_pow_right (by decide) hd
    omega)
  rw [show ((7 : Nat) : Rat) = 7 from rfl] at hk
  have hk0 : (0 : Rat) ≤ ((2 ^ d - 1 : Nat) : Rat) := Rat.natCast_nonneg
  have hki : ((2 : Int) ^ d - 1) = ((2 ^ d - 1 : Nat) : Int) := by
    have := Nat.one_le_two_pow (n := d)
    have e : (2 : Int) ^ d = ((2 ^ d : Nat) : Int) := by simp
    rw [e]; omega
  have hkn : ((2 : Int) ^ d - 1).natAbs < 2 ^ 24 := by
    rw [hki]
    have : 2 ^ d ≤ 2 ^ 3 := Nat.pow_le_pow_right (by decide) hd
    omega
  have nk := fi_num _ hkn
  rw [hki, Rat.intCast_natCast, ← hki] at nk
  generalize ((2 ^ d - 1 : Nat) : Rat) = K at *
  have bb2 : Bd 12 (B + K) := by rw [Bd, show two 12 = 4096 by decide +kernel]; constructor <;> grind
  obtain ⟨g2, r2, n2, e2⟩ := add_o nb nk (k0 := 12) (by decide) bb2
  obtain ⟨f2', f2⟩ := g2048 e2 (by grind) (by grind)
  have r20 := e2.nonneg (by grind)
  have bb3 : Bd 12 (r2 + 5764607523034235 * two (-59)) := by rw [Bd, show two 12 = 4096 by decide +kernel]; constructor <;> grind
  obtain ⟨g3, r3, n3, e3⟩ := add_o n2 num_001 (k0 := 12) (by decide) bb3
  obtain ⟨-, f3⟩ := g2048 e3 (by grind) (by grind)
  exact ⟨not_lt_q hb (num_zero .f32) b0, not_lt_q hp (num_zero .f32) p0, uw, ub, up, not_lt_q nw num_m001 (by
    have : (0 : Rat) ≤ 4611686018427388 * two (-62) := by decide +kernel
    grind), g1, not_gt_q nw n1 (by grind), g2, g3, not_gt_q nw n3 (by grind)⟩
/-- What the law asks of the mixed chance, and of the next one. -/
structure NextOk (bit : Bool) (m n : Nat) : Prop where
  m0 : (FloatKind.f32.format.order m 0 == some .lt || FloatKind.f32.format.order m 0 == some .eq) = false
  m1 : (FloatKind.f32.format.order m 1065353216 == some .gt || FloatKind.f32.format.order m 1065353216 == some .eq) = false
  um : floatToFloatBits .f32 m .f64 = some (fup m)
  un : floatToFloatBits .f32 n .f64 = some (fup n)
  s : floatBits .sub .f64 (fup m) 4547007122018943789 = some (fsub .f64 (fup m) 4547007122018943789)
  a : floatBits .add .f64 (fup m) 4547007122018943789 = some (fadd .f64 (fup m) 4547007122018943789)
  g : bit = true → (FloatKind.f64.format.order (fup n) (fsub .f64 (fup m) 4547007122018943789) == some .gt) = true
  l : bit = false → (FloatKind.f64.format.order (fup n) (fadd .f64 (fup m) 4547007122018943789) == some .lt) = true
  nn : ∃ q, Num .f32 n q
theorem next_ok {bit : Bool} {m n : Nat} {M N : Rat} (hm : Num .f32 m M) (hn : Num .f32 n N) (m0 : 0 < M) (m1 : M < 1) (n0 : 0 < N) (n1 : N ≤ 1) (h1 : bit = true → M ≤ N + 1 / 15000) (h2 : bit = false → N ≤ M + 1 / 15000) : NextOk bit m n := by
  obtain ⟨um, nm⟩ := up_o hm
  obtain ⟨un, nn⟩ := up_o hn
  have k : 1 / 15000 + two (-20) ≤ 7378697629483821 * two (-66) ∧ 7378697629483821 * two (-66) ≤ 1 := by constructor <;> decide +kernel
  have tp := two_pos (-41)
  have t1 : two (-41) < two (-20) := two_lt (by decide)
  have b1 : Bd 12 (M - 7378697629483821 * two (-66)) := by rw [Bd, show two 12 = 4096 by decide +kernel]; constructor <;> grind
  have b2 : Bd 12 (M + 7378697629483821 * two (-66)) := by rw [Bd, show two 12 = 4096 by decide +kernel]; constructor <;> grind
  obtain ⟨g1, r1, k1, e1⟩ := sub_o nm num_0001 (k0 := 12) (by decide) b1
  obtain ⟨g2, r2, k2, e2⟩ := add_o nm num_0001 (k0 := 12) (by decide) b2
  obtain ⟨-, f2⟩ := g2048 e2 (by grind) (by grind)
  have f1 : r1 ≤ M - 7378697629483821 * two (-66) + two (-41) := by
    rcases (show 0 ≤ M - 7378697629483821 * two (-66) ∨ M - 7378697629483821 * two (-66) ≤ 0 by grind) with h | h
    · exact (g2048 e1 h (by grind)).1
    · have := (g2048 e1.neg (by grind) (by grind)).2
      grind
  refine ⟨?_, ?_, um, un, g1, g2, fun hb => ?_, fun hb => ?_, _, hn⟩
  · rw [gt_q hm (num_zero .f32) m0]; rfl
  · rw [lt_q hm num_onef m1]; rfl
  · rw [gt_q nn k1 (by have := h1 hb; grind)]; rfl
  · rw [lt_q nn k2 (by have := h2 hb; grind)]; rfl
end Go.Proofs.Ythafmldcfdcngaa
