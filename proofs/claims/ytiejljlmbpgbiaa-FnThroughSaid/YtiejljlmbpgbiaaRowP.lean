/- What is written where it may be too great; sums of chances, rows. Plain; conditions: what each theorem names. -/
import Derived.Test.YtiejljlmbpgbiaaCotP
namespace Go.Proofs.Ytiejljlmbpgbiaa
open Ieee
set_option maxRecDepth 100000
set_option linter.unusedVariables false
set_option linter.unusedSimpArgs false

/-- What is written is what is nearest, or the number is too great. -/
theorem nearest_or (k : FloatKind) (s : Bool) (mag : Nat) (place : Int) :
    (mag ≠ 0 ∧ k.format.nearest s mag place = k.format.word s (infR k)) ∨ ∃ (m : Nat) (e : Int), k.format.read (k.format.nearest s mag place) = .number s m e ∧ loK k ≤ e ∧ m < 2 * binK k ∧ RndP k (mag * two place) (m * two e) := by
  have hB := bin_pos k
  unfold Format.nearest
  by_cases h0 : mag = 0
  · subst h0
    right
    refine ⟨0, loK k, ?_, Int.le_refl _, by omega, ?_⟩
    · rw [if_pos rfl, read_word k s 0 (by rw [infR_eq]; exact Nat.mul_pos (by cases k <;> decide) hB), if_pos hB]
    · have := two_pos (loK k - 1)
      constructor
      · intro m e _ _ hx; simpa using hx
      · intro m e _ _ hx; simpa using hx
      · simp; grind
      · simp; grind
  · rw [if_neg h0]
    dsimp only
    rw [c_lo, c_p, c_bin, c_inf]
    obtain ⟨b1, b2⟩ := mag_bounds h0 place
    generalize hlast : max (place + (mag.log2 : Int) - (pB k : Int)) (loK k) = last
    obtain ⟨kept, hc, c1, c2, c3, c4⟩ := cut_rat s mag place last
    rw [hc]
    clear hc
    generalize mag * two place = X at *
    generalize place + (mag.log2 : Int) = e at *
    have l1 : loK k ≤ last := by omega
    have tb := two_bin k
    have tl := two_pos last
    -- X over the last place
    have k2 : kept ≤ 2 * binK k := by
      refine c3 _ ?_
      have x1 : two (e + 1) ≤ two (last + pB k + 1) := two_le (by omega)
      have x2 : two (last + pB k + 1) = ((2 * binK k : Nat) : Rat) * two last := by
        rw [two_add, two_add, tb, Rat.natCast_mul, show two 1 = ((2 : Nat) : Rat) from rfl]; grind
      grind
    have k1 : loK k < last → binK k ≤ kept ∧ ((binK k : Nat) : Rat) * two last ≤ X := by
      intro hl
      have x2 : two e = ((binK k : Nat) : Rat) * two last := by
        rw [← tb, ← two_add]; congr 1; omega
      have : ((binK k : Nat) : Rat) * two last ≤ X := by grind
      exact ⟨c4 _ this, this⟩
    -- the rung
    by_cases hr : (last - loK k).toNat * binK k + kept < infR k
    case neg =>
      left
      exact ⟨h0, by rw [Nat.min_eq_right (by omega)]⟩
    right
    rw [Nat.min_eq_left (Nat.le_of_lt hr), read_word k s _ hr]
    -- what is read
    have hread : ∃ (m : Nat) (e' : Int), (if (last - loK k).toNat * binK k + kept < binK k then Datum.number s ((last - loK k).toNat * binK k + kept) (loK k)
        else .number s (binK k + ((last - loK k).toNat * binK k + kept) % binK k) (loK k + ((((last - loK k).toNat * binK k + kept) / binK k - 1 : Nat) : Int))) = .number s m e' ∧ loK k ≤ e' ∧ m < 2 * binK k ∧ (m : Rat) * two e' = kept * two last := by
      by_cases hl : (last - loK k).toNat * binK k + kept < binK k
      · rw [if_pos hl]
        have hz : (last - loK k).toNat = 0 := by
          rcases Nat.eq_zero_or_pos (last - loK k).toNat with hz | hz
          · exact hz
          · have := Nat.mul_le_mul_right (binK k) hz; omega
        rw [hz] at hl ⊢
        refine ⟨_, _, rfl, Int.le_refl _, by omega, ?_⟩
        rw [Nat.zero_mul, Nat.zero_add, show loK k = last by omega]
      · rw [if_neg hl]
        have hkb : binK k ≤ kept := by
          by_cases hl' : loK k < last
          · exact (k1 hl').1
          · rw [show (last - loK k).toNat = 0 by omega] at hl; omega
        by_cases h2b : kept = 2 * binK k
        · have d1 : ((last - loK k).toNat * binK k + kept) / binK k = (last - loK k).toNat + 2 := by
            rw [h2b, ← Nat.add_mul, Nat.mul_div_cancel _ hB]
          have d2 : ((last - loK k).toNat * binK k + kept) % binK k = 0 := by
            rw [h2b, ← Nat.add_mul, Nat.mul_mod_left]
          refine ⟨_, _, rfl, by omega, by rw [d2]; omega, ?_⟩
          rw [d1, d2, h2b, show (loK k + (((last - loK k).toNat + 2 - 1 : Nat) : Int)) = last + (1 : Nat) by omega, ← nat_mul_two, Nat.add_zero, Nat.pow_one, Nat.mul_comm]
        · have d1 : ((last - loK k).toNat * binK k + kept) / binK k = (last - loK k).toNat + 1 := by
            rw [show (last - loK k).toNat * binK k + kept = (kept - binK k) + ((last - loK k).toNat + 1) * binK k by rw [Nat.add_mul]; omega, Nat.add_mul_div_right _ _ hB, Nat.div_eq_of_lt (by omega)]; omega
          have d2 : ((last - loK k).toNat * binK k + kept) % binK k = kept - binK k := by
            rw [show (last - loK k).toNat * binK k + kept = (kept - binK k) + ((last - loK k).toNat + 1) * binK k by rw [Nat.add_mul]; omega, Nat.add_mul_mod_self_right, Nat.mod_eq_of_lt (by omega)]
          refine ⟨_, _, rfl, by omega, by rw [d2]; omega, ?_⟩
          rw [d1, d2]
          congr 2 <;> omega
    obtain ⟨m, e', hre, hle, hm, hv⟩ := hread
    refine ⟨m, e', hre, hle, hm, ?_⟩
    rw [hv]
    have far : ∀ (m' : Nat) (e'' : Int), m' < 2 * binK k → loK k ≤ e'' → e'' < last → (m' : Rat) * two e'' < binK k * two last := by
      intro m' e'' hm' h1 h2
      have x1 : (m' : Rat) * two e'' < ((2 * binK k : Nat) : Rat) * two e'' := cast_mul_lt.2 hm'
      have x2 : ((2 * binK k : Nat) : Rat) * two e'' = binK k * two (e'' + 1) := by
        rw [two_add, Rat.natCast_mul, show two 1 = ((2 : Nat) : Rat) from rfl]; grind
      have x3 : (binK k : Rat) * two (e'' + 1) ≤ binK k * two last := Rat.mul_le_mul_of_nonneg_left (two_le (by omega)) Rat.natCast_nonneg
      grind
    have near : ∀ (m' : Nat) (e'' : Int), last ≤ e'' → (m' : Rat) * two e'' = ((m' * 2 ^ (e'' - last).toNat : Nat) : Rat) * two last := by
      intro m' e'' h1
      rw [nat_mul_two]; congr 2; omega
    have half : two last ≤ 2 * (X * two (-(pB k + 1)) + two (loK k - 1)) := by
      have p1 := two_pos (loK k - 1)
      have p2 := two_pos (-(pB k + 1 : Int))
      have t2 : (2 : Rat) = two 1 := rfl
      by_cases hl : loK k < last
      · have : two last = 2 * (two e * two (-(pB k + 1))) := by
          rw [t2, ← two_add, ← two_add]; congr 1; omega
        have : two e * two (-(pB k + 1)) ≤ X * two (-(pB k + 1)) := Rat.mul_le_mul_of_nonneg_right b1 (Rat.le_of_lt p2)
        grind
      · have : two last = 2 * two (loK k - 1) := by
          rw [t2, ← two_add]; congr 1; omega
        have hX : 0 ≤ X * two (-(pB k + 1)) := Rat.mul_nonneg (Rat.le_trans (Rat.le_of_lt (two_pos e)) b1) (Rat.le_of_lt p2)
        grind
    constructor
    · intro m' e'' hm' h1 hX
      by_cases hl : e'' < last
      · have := far m' e'' hm' h1 hl
        have := (k1 (by omega)).2
        grind
      · rw [near m' e'' (by omega)] at hX ⊢
        exact cast_mul_le.2 (c3 _ hX)
    · intro m' e'' hm' h1 hX
      by_cases hl : e'' < last
      · have f1 := far m' e'' hm' h1 hl
        have f2 : (binK k : Rat) * two last ≤ kept * two last := cast_mul_le.2 (k1 (by omega)).1
        grind
      · rw [near m' e'' (by omega)] at hX ⊢
        exact cast_mul_le.2 (c4 _ hX)
    · grind
    · grind


/-- A number is written: rounded, or too great. -/
theorem write_or (k : FloatKind) (s : Bool) (m : Nat) (e : Int) :
    (∃ r, Num k (k.format.write (.number s m e)) r ∧ Rnd k (dv s m e) r) ∨ (Inf k (k.format.write (.number s m e)) s ∧ (s = false → 0 < dv s m e) ∧ (s = true → dv s m e < 0)) := by
  rcases nearest_or k s m e with ⟨h0, h⟩ | ⟨m', e', h1, h2, h3, h4⟩
  · right
    have hp : (0 : Rat) < m * two e := Rat.mul_pos (Rat.natCast_pos.2 (by omega)) (two_pos e)
    refine ⟨?_, fun hs => by subst hs; exact hp, fun hs => by subst hs; show -((m : Rat) * two e) < 0; grind⟩
    show Inf k (k.format.nearest s m e) s
    rw [h, ← c_inf]
    exact read_inf k s
  · left
    have p1 : (0 : Rat) ≤ m * two e := Rat.mul_nonneg Rat.natCast_nonneg (Rat.le_of_lt (two_pos e))
    have p2 : (0 : Rat) ≤ m' * two e' := Rat.mul_nonneg Rat.natCast_nonneg (Rat.le_of_lt (two_pos e'))
    refine ⟨dv s m' e', ⟨s, m', e', h1, rfl⟩, ?_⟩
    have := h4.rnd p1 p2
    cases s
    · exact this
    · exact this.neg
/-- What an operation on finite numbers gives: the rounded number, or an infinity of its sign. -/
def Out (z : Nat) (q : Rat) : Prop := (∃ r, Num .f32 z r ∧ Rnd .f32 q r) ∨ ∃ s, Inf .f32 z s ∧ (s = false → 0 < q) ∧ (s = true → q < 0)
section
variable {x y : Nat} {a b : Rat}
theorem add_out (hx : Num .f32 x a) (hy : Num .f32 y b) : floatBits .add .f32 x y = some (fadd .f32 x y) ∧ Out (fadd .f32 x y) (a + b) := by
  obtain ⟨s, m, i, hr, rfl⟩ := hx
  obtain ⟨t, n, j, hr', rfl⟩ := hy
  obtain ⟨u, l, e, h1, h2⟩ := sum_dv s t m n i j
  have hz : floatBits .add .f32 x y = some (FloatKind.f32.format.write (.number u l e)) := by
    show FloatKind.f32.format.add x y = _
    rw [Format.add, hr, hr', h1]; rfl
  unfold fadd; rw [o_some hz, ← h2]
  refine ⟨hz, ?_⟩
  rcases write_or .f32 u l e with h | h
  · exact .inl h
  · exact .inr ⟨u, h⟩
theorem mul_out (hx : Num .f32 x a) (hy : Num .f32 y b) : floatBits .mul .f32 x y = some (fmul .f32 x y) ∧ Out (fmul .f32 x y) (a * b) := by
  obtain ⟨s, m, i, hr, rfl⟩ := hx
  obtain ⟨t, n, j, hr', rfl⟩ := hy
  have hz : floatBits .mul .f32 x y = some (FloatKind.f32.format.write (.number (s ^^ t) (m * n) (i + j))) := by
    show FloatKind.f32.format.mul x y = _
    rw [Format.mul, hr, hr', Datum.product]; rfl
  unfold fmul; rw [o_some hz, ← dv_mul]
  refine ⟨hz, ?_⟩
  rcases write_or .f32 (s ^^ t) (m * n) (i + j) with h | h
  · exact .inl h
  · exact .inr ⟨_, h⟩
theorem sub_out (hx : Num .f32 x a) (hy : Num .f32 y b) : floatBits .sub .f32 x y = some (fsub .f32 x y) ∧ Out (fsub .f32 x y) (a - b) := by
  obtain ⟨s, m, i, hr, rfl⟩ := hx
  obtain ⟨t, n, j, hr', rfl⟩ := hy
  obtain ⟨u, l, e, h1, h2⟩ := sum_dv s (!t) m n i j
  rw [dv_neg, ← Rat.sub_eq_add_neg] at h2
  have hz : floatBits .sub .f32 x y = some (FloatKind.f32.format.write (.number u l e)) := by
    show FloatKind.f32.format.sub x y = _
    rw [Format.sub, hr, hr', Datum.opposite, h1]; rfl
  unfold fsub; rw [o_some hz, ← h2]
  refine ⟨hz, ?_⟩
  rcases write_or .f32 u l e with h | h
  · exact .inl h
  · exact .inr ⟨u, h⟩
theorem signed_not (s : Bool) (m u : Nat) : signed (!s) m u = -signed s m u := by cases s <;> simp [signed]
theorem sum_flip (s t : Bool) (m n : Nat) (i j : Int) : ∃ u l e u', (Datum.number s m i).sum (.number (!t) n j) = some (.number u l e) ∧ (Datum.number t n j).sum (.number (!s) m i) = some (.number u' l e) ∧ (l ≠ 0 → u' = !u) := by
  have e1 : ∀ (A B : Int), (A + -B).natAbs = (B + -A).natAbs := fun A B => by omega
  refine ⟨if signed s m (i - min i j).toNat + -signed t n (j - min i j).toNat = 0 then s && !t else decide (signed s m (i - min i j).toNat + -signed t n (j - min i j).toNat < 0), (signed s m (i - min i j).toNat + -signed t n (j - min i j).toNat).natAbs, min i j, if signed t n (j - min i j).toNat + -signed s m (i - min i j).toNat = 0 then t && !s else decide (signed t n (j - min i j).toNat + -signed s m (i - min i j).toNat < 0), ?_, ?_, ?_⟩
  · simp only [Datum.sum, signed_not]
  · simp only [Datum.sum, signed_not]
    rw [e1, Int.min_comm j i]
  · generalize signed s m (i - min i j).toNat = A
    generalize signed t n (j - min i j).toNat = B
    intro h
    rw [if_neg (by omega), if_neg (by omega)]
    by_cases hh : A + -B < 0
    · rw [decide_eq_true hh, decide_eq_false (by omega)]; rfl
    · rw [decide_eq_false hh, decide_eq_true (by omega)]; rfl
theorem nearest_word (k : FloatKind) (l : Nat) (e : Int) : ∃ r, r ≤ infR k ∧ ∀ s, k.format.nearest s l e = k.format.word s r := by
  by_cases h : l = 0
  · exact ⟨0, Nat.zero_le _, fun s => by rw [Format.nearest, if_pos h]⟩
  · obtain ⟨r, hr, hw⟩ : ∃ r, r ≤ k.format.infRung ∧ ∀ s, k.format.nearest s l e = k.format.word s r := by
      refine ⟨min ((max (e + l.log2 - k.format.fractionBits) k.format.leastPlace - k.format.leastPlace).toNat * k.format.binade + Toward.even.cut false (l <<< (e - max (e + l.log2 - k.format.fractionBits) k.format.leastPlace).toNat) (max (e + l.log2 - k.format.fractionBits) k.format.leastPlace - e).toNat) k.format.infRung, Nat.min_le_right _ _, fun s => ?_⟩
      unfold Format.nearest; rw [if_neg h]; rfl
    exact ⟨r, by rw [← c_inf]; exact hr, hw⟩
theorem word_flip (k : FloatKind) (u : Bool) (r : Nat) (h : r ≤ infR k) : (∃ T, Num k (k.format.word u r) T ∧ Num k (k.format.word (!u) r) (-T)) ∨ (Inf k (k.format.word u r) u ∧ Inf k (k.format.word (!u) r) (!u)) := by
  rcases Nat.lt_or_ge r (infR k) with h' | h'
  · left
    have h1 := read_word k u r h'
    have h2 := read_word k (!u) r h'
    split at h1
    · rename_i hb
      rw [if_pos hb] at h2
      exact ⟨_, ⟨_, _, _, h1, rfl⟩, ⟨_, _, _, h2, dv_neg _ _ _⟩⟩
    · rename_i hb
      rw [if_neg hb] at h2
      exact ⟨_, ⟨_, _, _, h1, rfl⟩, ⟨_, _, _, h2, dv_neg _ _ _⟩⟩
  · right
    obtain rfl : r = infR k := by omega
    rw [← c_inf]
    exact ⟨read_inf k u, read_inf k (!u)⟩
/-- The two differences of two finite numbers. -/
theorem sub_flip (hx : Num .f32 x a) (hy : Num .f32 y b) : (∃ T, Num .f32 (fsub .f32 x y) T ∧ Num .f32 (fsub .f32 y x) (-T)) ∨ ∃ s, Inf .f32 (fsub .f32 x y) s ∧ Inf .f32 (fsub .f32 y x) (!s) := by
  obtain ⟨s, m, i, hr, rfl⟩ := hx
  obtain ⟨t, n, j, hr', rfl⟩ := hy
  obtain ⟨u, l, e, u', h1, h2, h3⟩ := sum_flip s t m n i j
  obtain ⟨r, hle, hw⟩ := nearest_word .f32 l e
  have hz : floatBits .sub .f32 x y = some (FloatKind.f32.format.write (.number u l e)) := by
    show FloatKind.f32.format.sub x y = _
    rw [Format.sub, hr, hr', Datum.opposite, h1]; rfl
  have hz' : floatBits .sub .f32 y x = some (FloatKind.f32.format.write (.number u' l e)) := by
    show FloatKind.f32.format.sub y x = _
    rw [Format.sub, hr, hr', Datum.opposite, h2]; rfl
  unfold fsub; rw [o_some hz, o_some hz']
  show (∃ T, Num .f32 (FloatKind.f32.format.nearest u l e) T ∧ Num .f32 (FloatKind.f32.format.nearest u' l e) (-T)) ∨ ∃ s, Inf .f32 (FloatKind.f32.format.nearest u l e) s ∧ Inf .f32 (FloatKind.f32.format.nearest u' l e) (!s)
  by_cases hl : l = 0
  · subst hl
    left
    have hn : ∀ v, Num .f32 (FloatKind.f32.format.nearest v 0 e) 0 := fun v => by
      rw [Format.nearest, if_pos rfl]
      refine ⟨v, 0, loK .f32, ?_, ?_⟩
      · cases v <;> decide +kernel
      · cases v <;> simp [dv]
    exact ⟨0, hn u, by simpa using hn u'⟩
  · rw [h3 hl, hw, hw]
    rcases word_flip .f32 u r hle with h | h
    · exact .inl h
    · exact .inr ⟨u, h⟩
end
theorem num_not_inf {k : FloatKind} {w : Nat} {q : Rat} {s : Bool} (h : Num k w q) (h' : Inf k w s) : False := by
  obtain ⟨t, m, e, h, -⟩ := h
  rw [Inf, h] at h'; cases h'
theorem inf_unique {k : FloatKind} {w : Nat} {s t : Bool} (h : Inf k w s) (h' : Inf k w t) : s = t := by
  rw [Inf, h] at h'; cases h'; rfl
/-- No NaN. -/
def NN (x : Nat) : Prop := (∃ q, Num .f32 x q) ∨ ∃ s, Inf .f32 x s
theorem Out.nn {z : Nat} {q : Rat} (h : Out z q) : NN z := by
  rcases h with ⟨r, h, -⟩ | ⟨s, h, -⟩
  · exact .inl ⟨r, h⟩
  · exact .inr ⟨s, h⟩
theorem add_inf {x y : Nat} {s : Bool} {b : Rat} (hx : Inf .f32 x s) (hy : Num .f32 y b) : floatBits .add .f32 x y = some (fadd .f32 x y) ∧ Inf .f32 (fadd .f32 x y) s := by
  have hz : floatBits .add .f32 x y = some _ := add_inf_num hx hy
  unfold fadd; rw [o_some hz]
  exact ⟨hz, read_inf _ _⟩
theorem sub_inf {x y : Nat} {s : Bool} {b : Rat} (hx : Inf .f32 x s) (hy : Num .f32 y b) : floatBits .sub .f32 x y = some (fsub .f32 x y) ∧ Inf .f32 (fsub .f32 x y) s := by
  have hz : floatBits .sub .f32 x y = some _ := sub_inf_num hx hy
  unfold fsub; rw [o_some hz]
  exact ⟨hz, read_inf _ _⟩
theorem sub_inf' {x y : Nat} {s : Bool} {b : Rat} (hx : Num .f32 x b) (hy : Inf .f32 y s) : floatBits .sub .f32 x y = some (fsub .f32 x y) ∧ Inf .f32 (fsub .f32 x y) (!s) := by
  have hz : floatBits .sub .f32 x y = some _ := sub_num_inf hx hy
  unfold fsub; rw [o_some hz]
  exact ⟨hz, read_inf _ _⟩
theorem nn_add {x y : Nat} {b : Rat} (hx : NN x) (hy : Num .f32 y b) : floatBits .add .f32 x y = some (fadd .f32 x y) ∧ NN (fadd .f32 x y) := by
  rcases hx with ⟨a, hx⟩ | ⟨s, hx⟩
  · exact ⟨(add_out hx hy).1, (add_out hx hy).2.nn⟩
  · exact ⟨(add_inf hx hy).1, .inr ⟨s, (add_inf hx hy).2⟩⟩
/-- The two differences. -/
theorem nn_sub {x y : Nat} {b : Rat} (hx : NN x) (hy : Num .f32 y b) : floatBits .sub .f32 x y = some (fsub .f32 x y) ∧ floatBits .sub .f32 y x = some (fsub .f32 y x) ∧ ((∃ T, Num .f32 (fsub .f32 x y) T ∧ Num .f32 (fsub .f32 y x) (-T)) ∨ ∃ s, Inf .f32 (fsub .f32 x y) s ∧ Inf .f32 (fsub .f32 y x) (!s)) := by
  rcases hx with ⟨a, hx⟩ | ⟨s, hx⟩
  · exact ⟨(sub_out hx hy).1, (sub_out hy hx).1, sub_flip hx hy⟩
  · exact ⟨(sub_inf hx hy).1, (sub_inf' hy hx).1, .inr ⟨s, (sub_inf hx hy).2, (sub_inf' hy hx).2⟩⟩
theorem num_one32 : Num .f32 1065353216 1 := ⟨false, 2 ^ 23, -23, by decide +kernel, by decide +kernel⟩
def millQ : Rat := 8589935 * two (-33)
theorem num_mill : Num .f32 981668463 millQ := ⟨false, 8589935, -33, by decide +kernel, by decide +kernel⟩
theorem mill_bd : 0 < millQ ∧ millQ < 1 / 512 := by constructor <;> decide +kernel
/-- Not above a thousandth. -/
def leC (x : Nat) : Bool := FloatKind.f32.format.order x 981668463 == some .lt || FloatKind.f32.format.order x 981668463 == some .eq
theorem leC_num {x : Nat} {a : Rat} (h : Num .f32 x a) : leC x = decide (a ≤ millQ) := by
  unfold leC; rw [order_num h num_mill]
  rcases (show a < millQ ∨ a = millQ ∨ millQ < a by grind) with h | h | h
  · rw [cmp_lt.2 h, decide_eq_true (Rat.le_of_lt h)]; rfl
  · rw [cmp_eq.2 h, decide_eq_true (by grind)]; rfl
  · rw [cmp_gt.2 h, decide_eq_false (by grind)]; rfl
theorem leC_inf {x : Nat} {s : Bool} (h : Inf .f32 x s) : leC x = s := by
  unfold leC; rw [order_inf_num h num_mill]; cases s <;> rfl
def absW (x : Nat) : Nat := if (FloatKind.f32.format.order x 0 == some .lt) = true then fneg x else x
def okS (s : Nat) : Bool := leC (fsub .f32 s 1065353216) && leC (fsub .f32 1065353216 s)
theorem lt_zero {x : Nat} {a : Rat} (h : Num .f32 x a) : (FloatKind.f32.format.order x 0 == some .lt) = decide (a < 0) := by
  rw [order_num h (num_zero .f32)]
  rcases (show a < 0 ∨ a = 0 ∨ 0 < a by grind) with h | h | h
  · rw [cmp_lt.2 h, decide_eq_true h]; rfl
  · rw [cmp_eq.2 h, decide_eq_false (by grind)]; rfl
  · rw [cmp_gt.2 h, decide_eq_false (by grind)]; rfl
theorem abs_num {x : Nat} {a : Rat} (h : Num .f32 x a) : Num .f32 (absW x) (if a < 0 then -a else a) := by
  unfold absW; rw [lt_zero h]
  by_cases hl : a < 0
  · rw [decide_eq_true hl, if_pos rfl, if_pos hl]; exact neg_num h
  · rw [decide_eq_false hl, if_neg (by simp), if_neg hl]; exact h
theorem neg_inf {x : Nat} {s : Bool} (h : Inf .f32 x s) : Inf .f32 (fneg x) (!s) := by
  unfold Inf at *; unfold fneg; rw [neg_read, h]; rfl
theorem abs_inf {x : Nat} {s : Bool} (h : Inf .f32 x s) : Inf .f32 (absW x) false := by
  unfold absW; rw [order_inf_num h (num_zero .f32)]
  cases s
  · exact h
  · exact neg_inf h
theorem ok_abs {s : Nat} (h : NN s) : leC (absW (fsub .f32 s 1065353216)) = okS s := by
  obtain ⟨-, -, ⟨T, h1, h2⟩ | ⟨t, h1, h2⟩⟩ := nn_sub h num_one32
  · rw [okS, leC_num (abs_num h1), leC_num h1, leC_num h2]
    have := mill_bd.1
    by_cases hT : T < 0
    · rw [if_pos hT]
      rw [decide_eq_true (show T ≤ millQ by grind)]; rfl
    · rw [if_neg hT]
      rw [decide_eq_true (show -T ≤ millQ by grind)]; simp
  · rw [okS, leC_inf (abs_inf h1), leC_inf h1, leC_inf h2]; cases t <;> rfl
/-- A sum near 1 is not above 2. -/
theorem ok_sum {s : Nat} (h : NN s) (ho : okS s = true) : ∃ S, Num .f32 s S ∧ S ≤ 2 := by
  have hm := mill_bd
  rcases h with ⟨S, h⟩ | ⟨t, h⟩
  · refine ⟨S, h, Rat.not_lt.1 fun hn => ?_⟩
    unfold okS at ho
    rw [Bool.and_eq_true] at ho
    have h1 := ho.1
    rcases (sub_out h num_one32).2 with ⟨r, hr, rr⟩ | ⟨t, hi, k1, k2⟩
    · rw [leC_num hr] at h1
      have := of_decide_eq_true h1
      have := rr.dn 1 (num_one32.rep) (by grind)
      grind
    · rw [leC_inf hi] at h1
      have := k2 h1
      grind
  · unfold okS at ho
    rw [leC_inf (sub_inf h num_one32).2, leC_inf (sub_inf' num_one32 h).2] at ho
    cases t <;> cases ho
end Go.Proofs.Ytiejljlmbpgbiaa
