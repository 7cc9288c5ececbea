/- Floats: what words stand for, rounding, the operations and conversions, over rational numbers. Plain; conditions: what each theorem names. -/
import Derived.Laws.FloatArith
import Derived.Laws.NewFold
namespace Go.Proofs.Ytiejljlmbpgbiaa
open Ieee
set_option maxRecDepth 100000
set_option linter.unusedVariables false
set_option linter.unusedSimpArgs false

def two (i : Int) : Rat := (2:Rat)^i
theorem two_pos (i : Int) : 0 < two i := Rat.zpow_pos (by decide)
theorem two_add (i j : Int) : two (i + j) = two i * two j := Rat.zpow_add (by decide) i j
theorem two_nat (n : Nat) : two n = ((2 ^ n : Nat) : Rat) := by
  induction n with
  | zero => rfl
  | succ n ih =>
    rw [show ((n + 1 : Nat) : Int) = (n : Int) + 1 from rfl, two_add, ih, Nat.pow_succ, Rat.natCast_mul]
    rfl
theorem two_one_le (n : Nat) : 1 ≤ two n := by
  rw [two_nat]
  have : 1 ≤ 2 ^ n := Nat.one_le_two_pow
  exact Rat.natCast_le_natCast.2 this
theorem two_le {i j : Int} (h : i ≤ j) : two i ≤ two j := by
  have e : j = i + ((j - i).toNat : Int) := by omega
  rw [e, two_add]
  have := Rat.mul_le_mul_of_nonneg_left (two_one_le (j - i).toNat) (Rat.le_of_lt (two_pos i))
  rwa [Rat.mul_one] at this
theorem two_lt {i j : Int} (h : i < j) : two i < two j := by
  have h1 : two (i + 1) ≤ two j := two_le (by omega)
  have h2 : two (i + 1) = two i * 2 := by rw [two_add]; rfl
  have h3 := two_pos i
  grind
theorem two_lt_iff {i j : Int} (h : two i < two j) : i < j := by
  refine Int.not_le.1 fun hn => ?_
  have := two_le hn
  grind
theorem two_le_iff {i j : Int} (h : two i ≤ two j) : i ≤ j := by
  refine Int.not_lt.1 fun hn => ?_
  have := two_lt hn
  grind
theorem two_split (i : Int) (n : Nat) : two i * ((2 ^ n : Nat) : Rat) = two (i + n) := by rw [two_add, two_nat]
theorem le_mul_cancel {a b c : Rat} (hc : 0 < c) : a * c ≤ b * c ↔ a ≤ b :=
  ⟨fun h => Rat.le_of_mul_le_mul_right h hc, fun h => Rat.mul_le_mul_of_nonneg_right h (Rat.le_of_lt hc)⟩

theorem cut_spec (neg : Bool) (n drop : Nat) : ∃ r, Toward.even.cut neg n drop = r ∧
    2 * (r * 2 ^ drop) ≤ 2 * n + 2 ^ drop ∧ 2 * n ≤ 2 * (r * 2 ^ drop) + 2 ^ drop ∧ (∀ N, n ≤ N * 2 ^ drop → r ≤ N) ∧ (∀ N, N * 2 ^ drop ≤ n → N ≤ r) := by
  refine ⟨_, rfl, ?_⟩
  unfold Toward.cut
  rw [Nat.one_shiftLeft]
  dsimp only
  by_cases hd : drop ≤ n.log2 + 2
  · rw [Nat.min_eq_left hd]
    have hg : 0 < 2 ^ drop := Nat.two_pow_pos _
    generalize 2 ^ drop = g at hg
    have h1 := Nat.div_add_mod n g
    have h2 := Nat.mod_lt n hg
    have h1' : g * (n / g) = n / g * g := Nat.mul_comm _ _
    generalize n / g = low at h1 h1'
    generalize n % g = rest at h1 h2
    have key : ∀ b : Bool, (b = true → g ≤ 2 * rest) → (b = false → 2 * rest ≤ g) → 
        2 * ((low + b.toNat) * g) ≤ 2 * n + g ∧ 2 * n ≤ 2 * ((low + b.toNat) * g) + g ∧ (∀ N, n ≤ N * g → low + b.toNat ≤ N) ∧ (∀ N, N * g ≤ n → N ≤ low + b.toNat) := by
      intro b ht hf
      have e : (low + b.toNat) * g = low * g + b.toNat * g := Nat.add_mul _ _ _
      refine ⟨?_, ?_, fun N hN => ?_, fun N hN => ?_⟩
      · cases b
        · simp at e ⊢; omega
        · have := ht rfl; simp at e ⊢; omega
      · cases b
        · have := hf rfl; simp at e ⊢; omega
        · simp at e ⊢; omega
      · cases b
        · simp
          refine Nat.le_of_mul_le_mul_right (c := g) ?_ hg
          omega
        · have := ht rfl
          simp
          refine Nat.lt_of_mul_lt_mul_right (a := g) ?_
          omega
      · have : N < low + 1 := by
          refine Nat.lt_of_mul_lt_mul_right (a := g) ?_
          rw [Nat.add_mul]; omega
        omega
    refine key _ (fun h => ?_) (fun h => ?_)
    · simp only [Bool.or_eq_true, decide_eq_true_eq, Bool.and_eq_true, beq_iff_eq] at h
      omega
    · simp only [Bool.or_eq_false_iff, decide_eq_false_iff_not] at h
      omega
  · rw [Nat.min_eq_right (by omega)]
    have hl : n < 2 ^ (n.log2 + 1) := Nat.lt_log2_self
    have hle : 2 ^ (n.log2 + 2) ≤ 2 ^ drop := Nat.pow_le_pow_right (by decide) (by omega)
    have hs : 2 ^ (n.log2 + 2) = 2 * 2 ^ (n.log2 + 1) := by rw [Nat.pow_succ, Nat.mul_comm]
    generalize 2 ^ (n.log2 + 1) = a at hl hs
    generalize 2 ^ (n.log2 + 2) = g at hs hle
    generalize 2 ^ drop = d at hle
    have d1 : n / g = 0 := Nat.div_eq_of_lt (by omega)
    have d2 : n % g = n := Nat.mod_eq_of_lt (by omega)
    rw [d1, d2]
    have hb : (decide (g < 2 * n) || g == 2 * n && 0 % 2 == 1) = false := by
      simp; omega
    rw [hb]
    refine ⟨by simp, by simp; omega, fun N _ => by simp, fun N hN => ?_⟩
    simp
    cases N with
    | zero => rfl
    | succ N => rw [Nat.add_mul] at hN; omega

def pB : FloatKind → Nat | .f32 => 23 | .f64 => 52
def loK : FloatKind → Int | .f32 => -149 | .f64 => -1074
def hiK : FloatKind → Int | .f32 => 127 | .f64 => 1023
def binK (k : FloatKind) : Nat := 2 ^ pB k
def infR : FloatKind → Nat | .f32 => 2139095040 | .f64 => 9218868437227405312

theorem c_p (k : FloatKind) : k.format.fractionBits = pB k := by cases k <;> rfl
theorem c_lo (k : FloatKind) : k.format.leastPlace = loK k := by cases k <;> decide
theorem c_bin (k : FloatKind) : k.format.binade = binK k := by cases k <;> rfl
theorem c_inf (k : FloatKind) : k.format.infRung = infR k := by cases k <;> rfl
theorem bin_pos (k : FloatKind) : 0 < binK k := Nat.two_pow_pos _
theorem two_bin (k : FloatKind) : two (pB k) = (binK k : Rat) := two_nat _
theorem infR_eq (k : FloatKind) : infR k = (hiK k - pB k - loK k + 2).toNat * binK k := by cases k <;> decide

theorem read_word (k : FloatKind) (s : Bool) (r : Nat) (h : r < infR k) :
    k.format.read (k.format.word s r) = if r < binK k then .number s r (loK k) else .number s (binK k + r % binK k) (loK k + ((r / binK k - 1 : Nat) : Int)) := by
  unfold Format.read Format.word
  rw [c_bin, c_inf, c_lo]
  have hs : infR k < k.format.signWeight := by cases k <;> decide
  have hp : 0 < k.format.signWeight := by omega
  generalize k.format.signWeight = W at hs hp
  cases s
  · have d1 : r / W = 0 := Nat.div_eq_of_lt (by omega)
    have d2 : r % W = r := Nat.mod_eq_of_lt (by omega)
    simp [d1, d2, h]
  · have d1 : (W + r) / W = 1 := by rw [Nat.add_div_left _ hp, Nat.div_eq_of_lt (by omega)]
    have d2 : (W + r) % W = r := by rw [Nat.add_mod_left, Nat.mod_eq_of_lt (by omega)]
    simp [d1, d2, h]

/-- R is X rounded, X not below nought. -/
structure RndP (k : FloatKind) (X R : Rat) : Prop where
  up : ∀ (m : Nat) (e : Int), m < 2 * binK k → loK k ≤ e → X ≤ m * two e → R ≤ m * two e
  dn : ∀ (m : Nat) (e : Int), m < 2 * binK k → loK k ≤ e → m * two e ≤ X → m * two e ≤ R
  e1 : R ≤ X + X * two (-(pB k + 1)) + two (loK k - 1)
  e2 : X ≤ R + X * two (-(pB k + 1)) + two (loK k - 1)

theorem nat_mul_two {m : Nat} (e : Int) (n : Nat) : ((m * 2 ^ n : Nat) : Rat) * two e = m * two (e + n) := by
  rw [two_add, two_nat, Rat.natCast_mul, Rat.mul_comm (two e), Rat.mul_assoc]
theorem cast_mul_le {a b : Nat} {e : Int} : (a : Rat) * two e ≤ b * two e ↔ a ≤ b := by
  rw [le_mul_cancel (two_pos e)]; exact Rat.natCast_le_natCast
theorem cast_mul_lt {a b : Nat} {e : Int} : (a : Rat) * two e < b * two e ↔ a < b := by
  rw [Rat.mul_lt_mul_right (two_pos e)]; exact Rat.natCast_lt_natCast

/-- The cut, over what the number stands for. -/
theorem cut_rat (s : Bool) (mag : Nat) (place last : Int) : ∃ kept : Nat, Toward.even.cut s (mag <<< (place - last).toNat) (last - place).toNat = kept ∧
    2 * (kept * two last) ≤ 2 * (mag * two place) + two last ∧ 2 * (mag * two place) ≤ 2 * (kept * two last) + two last ∧
    (∀ N : Nat, mag * two place ≤ N * two last → kept ≤ N) ∧ (∀ N : Nat, N * two last ≤ mag * two place → N ≤ kept) := by
  rw [Nat.shiftLeft_eq]
  obtain ⟨kept, h0, h1, h2, h3, h4⟩ := cut_spec s (mag * 2 ^ (place - last).toNat) (last - place).toNat
  refine ⟨kept, h0, ?_⟩
  clear h0
  have ex : (mag : Rat) * two place = ((mag * 2 ^ (place - last).toNat : Nat) : Rat) * two (min place last) := by
    rw [nat_mul_two]; congr 2; omega
  have el : ∀ N : Nat, (N : Rat) * two last = ((N * 2 ^ (last - place).toNat : Nat) : Rat) * two (min place last) := by
    intro N; rw [nat_mul_two]; congr 2; omega
  have e1 : two last = ((2 ^ (last - place).toNat : Nat) : Rat) * two (min place last) := by
    have := el 1
    rw [Nat.one_mul] at this
    rw [← this]; simp
  have pp := two_pos (min place last)
  rw [ex, e1]
  simp only [el, ← e1]
  generalize mag * 2 ^ (place - last).toNat = n at *
  generalize 2 ^ (last - place).toNat = g at *
  generalize two (min place last) = t at *
  refine ⟨?_, ?_, fun N hN => ?_, fun N hN => ?_⟩
  · have : ((2 * (kept * g) : Nat) : Rat) * t ≤ ((2 * n + g : Nat) : Rat) * t := (le_mul_cancel pp).2 (Rat.natCast_le_natCast.2 h1)
    rw [Rat.natCast_mul, Rat.natCast_add, Rat.natCast_mul] at this
    grind
  · have : ((2 * n : Nat) : Rat) * t ≤ ((2 * (kept * g) + g : Nat) : Rat) * t := (le_mul_cancel pp).2 (Rat.natCast_le_natCast.2 h2)
    rw [Rat.natCast_mul, Rat.natCast_add, Rat.natCast_mul] at this
    grind
  · exact h3 N (Rat.natCast_le_natCast.1 ((le_mul_cancel pp).1 hN))
  · exact h4 N (Rat.natCast_le_natCast.1 ((le_mul_cancel pp).1 hN))

theorem mag_bounds {mag : Nat} (h : mag ≠ 0) (place : Int) : two (place + mag.log2) ≤ mag * two place ∧ mag * two place < two (place + mag.log2 + 1) := by
  have h1 : 2 ^ mag.log2 ≤ mag := Nat.log2_self_le h
  have h2 : mag < 2 ^ (mag.log2 + 1) := Nat.lt_log2_self
  constructor
  · rw [show two (place + mag.log2) = ((2 ^ mag.log2 : Nat) : Rat) * two place by rw [two_add, two_nat, Rat.mul_comm]]
    exact cast_mul_le.2 h1
  · rw [show two (place + mag.log2 + 1) = ((2 ^ (mag.log2 + 1) : Nat) : Rat) * two place by rw [Int.add_assoc, two_add, ← two_nat, Rat.mul_comm]; rfl]
    exact cast_mul_lt.2 h2

/-- What is written is what is nearest: its place, how near it is, and that all numbers of the format stand to it as to what was to be written. -/
theorem nearest_num (k : FloatKind) (s : Bool) (mag : Nat) (place k0 : Int) (hk : k0 ≤ hiK k) (h : mag * two place ≤ two k0) :
    ∃ (m : Nat) (e : Int), k.format.read (k.format.nearest s mag place) = .number s m e ∧ loK k ≤ e ∧ m < 2 * binK k ∧ RndP k (mag * two place) (m * two e) := by
  have hB := bin_pos k
  unfold Format.nearest
  by_cases h0 : mag = 0
  · subst h0
    refine ⟨0, loK k, ?_, Int.le_refl _, by omega, ?_⟩
    · rw [if_pos rfl, read_word k s 0 (by rw [infR_eq]; exact Nat.mul_pos (by cases k <;> decide) hB), if_pos hB]
    · have := two_pos (loK k - 1)
      constructor
      · intro m e _ _ hx; simpa using hx
      · intro m e _ _ hx; simpa using hx
      · simp; grind
      · simp; grind
  · rw [if_neg h0]
    dsimp only
    rw [c_lo, c_p, c_bin, c_inf]
    obtain ⟨b1, b2⟩ := mag_bounds h0 place
    have hek := two_lt_iff (i := place + mag.log2) (j := k0 + 1) (by have := two_lt (show k0 < k0 + 1 by omega); grind)
    generalize hlast : max (place + (mag.log2 : Int) - (pB k : Int)) (loK k) = last
    obtain ⟨kept, hc, c1, c2, c3, c4⟩ := cut_rat s mag place last
    rw [hc]
    clear hc
    generalize mag * two place = X at *
    generalize place + (mag.log2 : Int) = e at *
    have l1 : loK k ≤ last := by omega
    have tb := two_bin k
    have tl := two_pos last
    -- X over the last place
    have k2 : kept ≤ 2 * binK k := by
      refine c3 _ ?_
      have x1 : two (e + 1) ≤ two (last + pB k + 1) := two_le (by omega)
      have x2 : two (last + pB k + 1) = ((2 * binK k : Nat) : Rat) * two last := by
        rw [two_add, two_add, tb, Rat.natCast_mul, show two 1 = ((2 : Nat) : Rat) from rfl]; grind
      grind
    have k1 : loK k < last → binK k ≤ kept ∧ ((binK k : Nat) : Rat) * two last ≤ X := by
      intro hl
      have x2 : two e = ((binK k : Nat) : Rat) * two last := by
        rw [← tb, ← two_add]; congr 1; omega
      have : ((binK k : Nat) : Rat) * two last ≤ X := by grind
      exact ⟨c4 _ this, this⟩
    -- the rung
    have hr : (last - loK k).toNat * binK k + kept < infR k := by
      rw [infR_eq]
      by_cases hl : loK k < last
      · obtain ⟨k1, k1'⟩ := k1 hl
        have hle : last + pB k ≤ k0 := by
          refine two_le_iff ?_
          rw [two_add, tb, Rat.mul_comm]; grind
        by_cases he : last + pB k = k0
        · have : kept ≤ binK k := by
            refine c3 _ ?_
            rw [← tb, ← two_add, show (pB k : Int) + last = k0 by omega]; exact h
          have hm : (last - loK k).toNat * binK k + binK k = ((last - loK k).toNat + 1) * binK k := by rw [Nat.add_mul, Nat.one_mul]
          have : ((last - loK k).toNat + 1) * binK k < (hiK k - pB k - loK k + 2).toNat * binK k := Nat.mul_lt_mul_of_pos_right (by omega) hB
          omega
        · have hm : (last - loK k).toNat * binK k + 2 * binK k = ((last - loK k).toNat + 2) * binK k := by rw [Nat.add_mul]
          have : ((last - loK k).toNat + 2) * binK k < (hiK k - pB k - loK k + 2).toNat * binK k := Nat.mul_lt_mul_of_pos_right (by omega) hB
          omega
      · have hz : (last - loK k).toNat = 0 := by omega
        rw [hz]
        have : 2 * binK k < (hiK k - pB k - loK k + 2).toNat * binK k := Nat.mul_lt_mul_of_pos_right (by cases k <;> decide) hB
        omega
    rw [Nat.min_eq_left (Nat.le_of_lt hr), read_word k s _ hr]
    -- what is read
    have hread : ∃ (m : Nat) (e' : Int), (if (last - loK k).toNat * binK k + kept < binK k then Datum.number s ((last - loK k).toNat * binK k + kept) (loK k)
        else .number s (binK k + ((last - loK k).toNat * binK k + kept) % binK k) (loK k + ((((last - loK k).toNat * binK k + kept) / binK k - 1 : Nat) : Int))) = .number s m e' ∧ loK k ≤ e' ∧ m < 2 * binK k ∧ (m : Rat) * two e' = kept * two last := by
      by_cases hl : (last - loK k).toNat * binK k + kept < binK k
      · rw [if_pos hl]
        have hz : (last - loK k).toNat = 0 := by
          rcases Nat.eq_zero_or_pos (last - loK k).toNat with hz | hz
          · exact hz
          · have := Nat.mul_le_mul_right (binK k) hz; omega
        rw [hz] at hl ⊢
        refine ⟨_, _, rfl, Int.le_refl _, by omega, ?_⟩
        rw [Nat.zero_mul, Nat.zero_add, show loK k = last by omega]
      · rw [if_neg hl]
        have hkb : binK k ≤ kept := by
          by_cases hl' : loK k < last
          · exact (k1 hl').1
          · rw [show (last - loK k).toNat = 0 by omega] at hl; omega
        by_cases h2b : kept = 2 * binK k
        · have d1 : ((last - loK k).toNat * binK k + kept) / binK k = (last - loK k).toNat + 2 := by
            rw [h2b, ← Nat.add_mul, Nat.mul_div_cancel _ hB]
          have d2 : ((last - loK k).toNat * binK k + kept) % binK k = 0 := by
            rw [h2b, ← Nat.add_mul, Nat.mul_mod_left]
          refine ⟨_, _, rfl, by omega, by rw [d2]; omega, ?_⟩
          rw [d1, d2, h2b, show (loK k + (((last - loK k).toNat + 2 - 1 : Nat) : Int)) = last + (1 : Nat) by omega, ← nat_mul_two, Nat.add_zero, Nat.pow_one, Nat.mul_comm]
        · have d1 : ((last - loK k).toNat * binK k + kept) / binK k = (last - loK k).toNat + 1 := by
            rw [show (last - loK k).toNat * binK k + kept = (kept - binK k) + ((last - loK k).toNat + 1) * binK k by rw [Nat.add_mul]; omega, Nat.add_mul_div_right _ _ hB, Nat.div_eq_of_lt (by omega)]; omega
          have d2 : ((last - loK k).toNat * binK k + kept) % binK k = kept - binK k := by
            rw [show (last - loK k).toNat * binK k + kept = (kept - binK k) + ((last - loK k).toNat + 1) * binK k by rw [Nat.add_mul]; omega, Nat.add_mul_mod_self_right, Nat.mod_eq_of_lt (by omega)]
          refine ⟨_, _, rfl, by omega, by rw [d2]; omega, ?_⟩
          rw [d1, d2]
          congr 2 <;> omega
    obtain ⟨m, e', hre, hle, hm, hv⟩ := hread
    refine ⟨m, e', hre, hle, hm, ?_⟩
    rw [hv]
    have far : ∀ (m' : Nat) (e'' : Int), m' < 2 * binK k → loK k ≤ e'' → e'' < last → (m' : Rat) * two e'' < binK k * two last := by
      intro m' e'' hm' h1 h2
      have x1 : (m' : Rat) * two e'' < ((2 * binK k : Nat) : Rat) * two e'' := cast_mul_lt.2 hm'
      have x2 : ((2 * binK k : Nat) : Rat) * two e'' = binK k * two (e'' + 1) := by
        rw [two_add, Rat.natCast_mul, show two 1 = ((2 : Nat) : Rat) from rfl]; grind
      have x3 : (binK k : Rat) * two (e'' + 1) ≤ binK k * two last := Rat.mul_le_mul_of_nonneg_left (two_le (by omega)) Rat.natCast_nonneg
      grind
    have near : ∀ (m' : Nat) (e'' : Int), last ≤ e'' → (m' : Rat) * two e'' = ((m' * 2 ^ (e'' - last).toNat : Nat) : Rat) * two last := by
      intro m' e'' h1
      rw [nat_mul_two]; congr 2; omega
    have half : two last ≤ 2 * (X * two (-(pB k + 1)) + two (loK k - 1)) := by
      have p1 := two_pos (loK k - 1)
      have p2 := two_pos (-(pB k + 1 : Int))
      have t2 : (2 : Rat) = two 1 := rfl
      by_cases hl : loK k < last
      · have : two last = 2 * (two e * two (-(pB k + 1))) := by
          rw [t2, ← two_add, ← two_add]; congr 1; omega
        have : two e * two (-(pB k + 1)) ≤ X * two (-(pB k + 1)) := Rat.mul_le_mul_of_nonneg_right b1 (Rat.le_of_lt p2)
        grind
      · have : two last = 2 * two (loK k - 1) := by
          rw [t2, ← two_add]; congr 1; omega
        have hX : 0 ≤ X * two (-(pB k + 1)) := Rat.mul_nonneg (Rat.le_trans (Rat.le_of_lt (two_pos e)) b1) (Rat.le_of_lt p2)
        grind
    constructor
    · intro m' e'' hm' h1 hX
      by_cases hl : e'' < last
      · have := far m' e'' hm' h1 hl
        have := (k1 (by omega)).2
        grind
      · rw [near m' e'' (by omega)] at hX ⊢
        exact cast_mul_le.2 (c3 _ hX)
    · intro m' e'' hm' h1 hX
      by_cases hl : e'' < last
      · have f1 := far m' e'' hm' h1 hl
        have f2 : (binK k : Rat) * two last ≤ kept * two last := cast_mul_le.2 (k1 (by omega)).1
        grind
      · rw [near m' e'' (by omega)] at hX ⊢
        exact cast_mul_le.2 (c4 _ hX)
    · grind
    · grind

/-- What a number stands for. -/
def dv (s : Bool) (m : Nat) (e : Int) : Rat := if s then -(m * two e) else m * two e
/-- The word w is finite and stands for q. -/
def Num (k : FloatKind) (w : Nat) (q : Rat) : Prop := ∃ s m e, k.format.read w = .number s m e ∧ dv s m e = q
/-- A number that the format has, but for its greatness. -/
def Rep (k : FloatKind) (q : Rat) : Prop := ∃ (m : Nat) (e : Int), m < 2 * binK k ∧ loK k ≤ e ∧ (q = m * two e ∨ q = -(m * two e))
theorem Rep.neg {k : FloatKind} {q : Rat} (h : Rep k q) : Rep k (-q) := by
  obtain ⟨m, e, h1, h2, h3⟩ := h
  refine ⟨m, e, h1, h2, ?_⟩
  rcases h3 with rfl | rfl
  · exact .inr rfl
  · exact .inl (by rw [Rat.neg_neg])
/-- The other number is the one rounded. -/
structure Rnd (k : FloatKind) (x r : Rat) : Prop where
  up : ∀ c, Rep k c → x ≤ c → r ≤ c
  dn : ∀ c, Rep k c → c ≤ x → c ≤ r
theorem Rep.zero (k : FloatKind) : Rep k 0 := ⟨0, loK k, by have := bin_pos k; omega, Int.le_refl _, .inl (by simp)⟩
theorem Rnd.exact {k : FloatKind} {x r : Rat} (h : Rnd k x r) (hx : Rep k x) : r = x := Rat.le_antisymm (h.up x hx Rat.le_refl) (h.dn x hx Rat.le_refl)
theorem Rnd.nonneg {k : FloatKind} {x r : Rat} (h : Rnd k x r) (hx : 0 ≤ x) : 0 ≤ r := h.dn 0 (Rep.zero k) hx
theorem Rnd.nonpos {k : FloatKind} {x r : Rat} (h : Rnd k x r) (hx : x ≤ 0) : r ≤ 0 := h.up 0 (Rep.zero k) hx
theorem Rnd.neg {k : FloatKind} {x r : Rat} (h : Rnd k x r) : Rnd k (-x) (-r) :=
  ⟨fun c hc hx => by have := h.dn (-c) hc.neg (by grind); grind, fun c hc hx => by have := h.up (-c) hc.neg (by grind); grind⟩
theorem rep_two (k : FloatKind) (e : Int) (h : loK k ≤ e) : Rep k (two e) := ⟨1, e, by cases k <;> decide, h, .inl (by simp)⟩
theorem Rnd.le_two {k : FloatKind} {x r : Rat} (h : Rnd k x r) {e : Int} (he : loK k ≤ e) (hx : x ≤ two e) : r ≤ two e := h.up _ (rep_two k e he) hx
theorem Rnd.ge_two {k : FloatKind} {x r : Rat} (h : Rnd k x r) {e : Int} (he : loK k ≤ e) (hx : -two e ≤ x) : -two e ≤ r := h.dn _ (rep_two k e he).neg hx

theorem Num.rep {k : FloatKind} {w : Nat} {q : Rat} (h : Num k w q) : Rep k q := by
  obtain ⟨s, m, e, hr, rfl⟩ := h
  have hB := bin_pos k
  unfold Format.read at hr
  rw [c_bin, c_inf, c_lo] at hr
  dsimp only at hr
  have fin : ∀ (s : Bool) (m : Nat) (e : Int), m < 2 * binK k → loK k ≤ e → Rep k (dv s m e) := by
    intro s m e h1 h2
    refine ⟨m, e, h1, h2, ?_⟩
    cases s
    · exact .inl rfl
    · exact .inr rfl
  split at hr
  · cases hr; exact fin _ _ _ (by omega) (Int.le_refl _)
  · split at hr
    · cases hr
      refine fin _ _ _ ?_ (by omega)
      have := Nat.mod_lt (w % k.format.signWeight) hB
      omega
    · split at hr <;> cases hr
theorem Num.unique {k : FloatKind} {w : Nat} {q q' : Rat} (h : Num k w q) (h' : Num k w q') : q = q' := by
  obtain ⟨s, m, e, hr, rfl⟩ := h
  obtain ⟨s', m', e', hr', rfl⟩ := h'
  rw [hr] at hr'; cases hr'; rfl

theorem RndP.rnd {k : FloatKind} {X R : Rat} (h : RndP k X R) (hX : 0 ≤ X) (hR : 0 ≤ R) : Rnd k X R := by
  constructor
  · rintro c ⟨m, e, h1, h2, rfl | rfl⟩ hc
    · exact h.up m e h1 h2 hc
    · have p : (0 : Rat) ≤ m * two e := Rat.mul_nonneg Rat.natCast_nonneg (Rat.le_of_lt (two_pos e))
      have p0 : (m : Rat) * two e = 0 := by grind
      have hx0 : X ≤ m * two e := by grind
      have := h.up m e h1 h2 hx0
      grind
  · rintro c ⟨m, e, h1, h2, rfl | rfl⟩ hc
    · exact h.dn m e h1 h2 hc
    · have p : (0 : Rat) ≤ m * two e := Rat.mul_nonneg Rat.natCast_nonneg (Rat.le_of_lt (two_pos e))
      grind

theorem dv_abs (s : Bool) (m : Nat) (e : Int) : dv s m e = if s then -(dv false m e) else dv false m e := by cases s <;> rfl

/-- A number is written. -/
theorem write_num (k : FloatKind) (s : Bool) (m : Nat) (e k0 : Int) (hk : k0 ≤ hiK k) (h : m * two e ≤ two k0) :
    ∃ r, Num k (k.format.write (.number s m e)) r ∧ Rnd k (dv s m e) r := by
  obtain ⟨m', e', h1, h2, h3, h4⟩ := nearest_num k s m e k0 hk h
  have p1 : (0 : Rat) ≤ m * two e := Rat.mul_nonneg Rat.natCast_nonneg (Rat.le_of_lt (two_pos e))
  have p2 : (0 : Rat) ≤ m' * two e' := Rat.mul_nonneg Rat.natCast_nonneg (Rat.le_of_lt (two_pos e'))
  refine ⟨dv s m' e', ⟨s, m', e', h1, rfl⟩, ?_⟩
  have := h4.rnd p1 p2
  cases s
  · exact this
  · exact this.neg


/-- A positive number lies between two powers of two. -/
theorem between {x : Rat} (h : 0 < x) : ∃ e : Int, two e ≤ x ∧ x < two (e + 1) := by
  have hn : 0 < x.num := by
    have := Rat.lt_iff 0 x
    simpa using this.1 h
  have hd : x.den ≠ 0 := x.den_nz
  obtain ⟨n, hn'⟩ : ∃ n : Nat, x.num = n := ⟨x.num.toNat, by omega⟩
  have hn0 : n ≠ 0 := by omega
  have hx : x * (x.den : Rat) = n := by
    have := Rat.mkRat_eq_div x.num x.den
    rw [Rat.mkRat_self] at this
    have hd' : (x.den : Rat) ≠ 0 := by exact_mod_cast hd
    rw [hn'] at this
    have h2 : x * (x.den : Rat) = ((n : Int) : Rat) := by
      conv => lhs; lhs; rw [this]
      exact Rat.div_mul_cancel hd'
    exact h2
  obtain ⟨a1, a2⟩ := mag_bounds hn0 0
  obtain ⟨b1, b2⟩ := mag_bounds hd 0
  have z : two 0 = 1 := rfl
  rw [z, Rat.mul_one] at a1 a2 b1 b2
  rw [Int.zero_add] at a1 a2 b1 b2
  rw [← hx] at a1 a2
  generalize (n.log2 : Int) = a at *
  generalize (x.den.log2 : Int) = b at *
  generalize (x.den : Rat) = d at *
  have tb := two_pos b
  -- x * d in [2^a, 2^(a+1)), d in [2^b, 2^(b+1))
  have u : x < two (a - b + 1) := by
    have h1 : x * two b ≤ x * d := Rat.mul_le_mul_of_nonneg_left b1 (Rat.le_of_lt h)
    have h2 : two (a + 1) = two (a - b + 1) * two b := by rw [← two_add]; congr 1; omega
    have h3 : x * two b < two (a - b + 1) * two b := by grind
    exact (Rat.mul_lt_mul_right tb).1 h3
  have l : two (a - b - 1) ≤ x := by
    have h1 : x * d < x * two (b + 1) := Rat.mul_lt_mul_of_pos_left b2 h
    have h2 : two a = two (a - b - 1) * two (b + 1) := by rw [← two_add]; congr 1; omega
    have h3 : two (a - b - 1) * two (b + 1) ≤ x * two (b + 1) := by grind
    exact (le_mul_cancel (two_pos _)).1 h3
  by_cases hm : x < two (a - b)
  · exact ⟨a - b - 1, l, by rw [show a - b - 1 + 1 = a - b by omega]; exact hm⟩
  · exact ⟨a - b, by grind, u⟩

/-- The error of rounding, over a grid. -/
theorem Rnd.grid {k : FloatKind} {x r : Rat} (h : Rnd k x r) (hx : 0 ≤ x) (e : Int) (he : loK k ≤ e) (hb : x < two (e + pB k + 1)) : r ≤ x + two e ∧ x ≤ r + two e := by
  have te := two_pos e
  have hq : 0 ≤ (x * two (-e)).floor := Rat.le_floor_iff.2 (by simpa using Rat.mul_nonneg hx (Rat.le_of_lt (two_pos _)))
  obtain ⟨q, hq'⟩ : ∃ q : Nat, (x * two (-e)).floor = q := ⟨_, (Int.toNat_of_nonneg hq).symm⟩
  have f1 := Rat.floor_le (x * two (-e))
  have f2 := Rat.lt_floor_add_one (x * two (-e))
  rw [hq'] at f1 f2
  have c : two (-e) * two e = 1 := by rw [← two_add, Int.add_left_neg]; rfl
  have g1 : (q : Rat) * two e ≤ x := by
    have := Rat.mul_le_mul_of_nonneg_right f1 (Rat.le_of_lt te)
    rw [Rat.mul_assoc, c, Rat.mul_one] at this
    exact this
  have g2 : x < ((q + 1 : Nat) : Rat) * two e := by
    have := Rat.mul_lt_mul_of_pos_right f2 te
    rw [Rat.mul_assoc, c, Rat.mul_one] at this
    exact this
  have hB := bin_pos k
  have hq2 : q < 2 * binK k := by
    have : (q : Rat) * two e < ((2 * binK k : Nat) : Rat) * two e := by
      have : two (e + pB k + 1) = ((2 * binK k : Nat) : Rat) * two e := by
        rw [two_add, two_add, two_bin, Rat.natCast_mul, show two 1 = ((2 : Nat) : Rat) from rfl]; grind
      grind
    exact cast_mul_lt.1 this
  have r1 : Rep k (q * two e) := ⟨q, e, hq2, he, .inl rfl⟩
  have r2 : Rep k (((q + 1 : Nat) : Rat) * two e) := by
    by_cases hl : q + 1 < 2 * binK k
    · exact ⟨q + 1, e, hl, he, .inl rfl⟩
    · refine ⟨binK k, e + 1, by omega, by omega, .inl ?_⟩
      rw [show q + 1 = binK k * 2 ^ 1 by omega, nat_mul_two]; rfl
  have k1 := h.dn _ r1 g1
  have k2 := h.up _ r2 (Rat.le_of_lt g2)
  have k3 : ((q + 1 : Nat) : Rat) * two e = q * two e + two e := by rw [Rat.natCast_add]; grind
  rw [k3] at k2 g2
  grind
/-- The error of rounding. -/
theorem Rnd.err0 {k : FloatKind} {x r : Rat} (h : Rnd k x r) (hx : 0 ≤ x) : r ≤ x + (x * two (-(pB k)) + two (loK k)) ∧ x ≤ r + (x * two (-(pB k)) + two (loK k)) := by
  rcases Rat.le_iff_lt_or_eq.1 hx with h0 | rfl
  · obtain ⟨e, e1, e2⟩ := between h0
    have hp := two_pos (-(pB k : Int))
    have hl := two_pos (loK k)
    have hxp : 0 ≤ x * two (-(pB k : Int)) := Rat.mul_nonneg hx (Rat.le_of_lt hp)
    by_cases hc : loK k ≤ e - pB k
    · have := h.grid hx (e - pB k) hc (by rw [show e - (pB k : Int) + (pB k : Int) + 1 = e + 1 by omega]; exact e2)
      have : two (e - pB k) ≤ x * two (-(pB k)) := by
        rw [Int.sub_eq_add_neg, two_add]
        exact Rat.mul_le_mul_of_nonneg_right e1 (Rat.le_of_lt hp)
      grind
    · have := h.grid hx (loK k) (Int.le_refl _) (by have := two_lt (show e + 1 < loK k + pB k + 1 by omega); grind)
      grind
  · have h0 := h.exact (Rep.zero k)
    have hl := two_pos (loK k)
    rw [h0]; grind
theorem Rnd.err1 {k : FloatKind} {x r : Rat} (h : Rnd k x r) (hx : x ≤ 0) : r ≤ x + (-x * two (-(pB k)) + two (loK k)) ∧ x ≤ r + (-x * two (-(pB k)) + two (loK k)) := by
  have := h.neg.err0 (by grind)
  grind

/-- From -2^k0 to 2^k0. -/
def Bd (k0 : Int) (q : Rat) : Prop := -two k0 ≤ q ∧ q ≤ two k0
theorem Bd.mono {i j : Int} {q : Rat} (h : Bd i q) (hij : i ≤ j) : Bd j q := by
  have := two_le hij
  obtain ⟨h1, h2⟩ := h
  constructor <;> grind
theorem Bd.neg {i : Int} {q : Rat} (h : Bd i q) : Bd i (-q) := by
  obtain ⟨h1, h2⟩ := h
  constructor <;> grind
theorem Bd.add {i : Int} {a b : Rat} (h : Bd i a) (h' : Bd i b) : Bd (i + 1) (a + b) := by
  obtain ⟨h1, h2⟩ := h
  obtain ⟨h3, h4⟩ := h'
  have : two (i + 1) = two i + two i := by rw [two_add, show two 1 = (2 : Rat) from rfl]; grind
  constructor <;> grind
theorem Bd.sub {i : Int} {a b : Rat} (h : Bd i a) (h' : Bd i b) : Bd (i + 1) (a - b) := by
  rw [Rat.sub_eq_add_neg]; exact h.add h'.neg
theorem Bd.mul {i j : Int} {a b : Rat} (h : Bd i a) (h' : Bd j b) : Bd (i + j) (a * b) := by
  obtain ⟨h1, h2⟩ := h
  obtain ⟨h3, h4⟩ := h'
  have pi := two_pos i
  have pj := two_pos j
  unfold Bd
  rw [two_add]
  generalize two i = s at *
  generalize two j = t at *
  have k1 : 0 ≤ (s - a) * (t - b) := Rat.mul_nonneg (by grind) (by grind)
  have k2 : 0 ≤ (s + a) * (t + b) := Rat.mul_nonneg (by grind) (by grind)
  have k3 : 0 ≤ (s - a) * (t + b) := Rat.mul_nonneg (by grind) (by grind)
  have k4 : 0 ≤ (s + a) * (t - b) := Rat.mul_nonneg (by grind) (by grind)
  constructor <;> grind
theorem Rnd.bd {k : FloatKind} {x r : Rat} (h : Rnd k x r) {e : Int} (he : loK k ≤ e) (hx : Bd e x) : Bd e r := ⟨h.ge_two he hx.1, h.le_two he hx.2⟩

theorem dv_bd {s : Bool} {m : Nat} {e k0 : Int} (h : Bd k0 (dv s m e)) : m * two e ≤ two k0 := by
  obtain ⟨h1, h2⟩ := h
  cases s <;> simp [dv] at h1 h2 <;> grind
theorem write_bd (k : FloatKind) (s : Bool) (m : Nat) (e k0 : Int) (hk : k0 ≤ hiK k) (h : Bd k0 (dv s m e)) :
    ∃ r, Num k (k.format.write (.number s m e)) r ∧ Rnd k (dv s m e) r := write_num k s m e k0 hk (dv_bd h)

theorem signed_rat (s : Bool) (m : Nat) (i base : Int) (h : base ≤ i) : ((signed s m (i - base).toNat : Int) : Rat) * two base = dv s m i := by
  unfold signed dv
  have : ((m <<< (i - base).toNat : Nat) : Rat) * two base = m * two i := by
    rw [Nat.shiftLeft_eq, nat_mul_two]; congr 2; omega
  cases s
  · exact this
  · simp only [if_true]
    rw [Rat.intCast_neg, Rat.neg_mul]
    exact congrArg _ this
theorem dv_neg (s : Bool) (m : Nat) (e : Int) : dv (!s) m e = -dv s m e := by cases s <;> simp [dv, Rat.neg_neg]
theorem sum_dv (s t : Bool) (m n : Nat) (i j : Int) : ∃ u l e, (Datum.number s m i).sum (.number t n j) = some (.number u l e) ∧ dv u l e = dv s m i + dv t n j := by
  refine ⟨_, _, min i j, rfl, ?_⟩
  have e0 : ∀ u l, dv u l (min i j) = if u then -(l * two (min i j)) else l * two (min i j) := fun _ _ => rfl
  rw [e0]
  have h1 := signed_rat s m i (min i j) (by omega)
  have h2 := signed_rat t n j (min i j) (by omega)
  rw [← h1, ← h2, ← Rat.add_mul, ← Rat.intCast_add]
  generalize signed s m (i - min i j).toNat + signed t n (j - min i j).toNat = z
  generalize two (min i j) = tw
  by_cases hz : z = 0
  · subst hz; cases (s && t) <;> simp
  · simp only [if_neg hz]
    by_cases hn : z < 0
    · simp only [hn, decide_true, if_true]
      rw [← Rat.neg_mul, show ((z.natAbs : Nat) : Rat) = ((z.natAbs : Int) : Rat) from rfl, ← Rat.intCast_neg, show -(z.natAbs : Int) = z by omega]
    · simp only [hn, decide_false, Bool.false_eq_true, if_false]
      rw [show ((z.natAbs : Nat) : Rat) = ((z.natAbs : Int) : Rat) from rfl, show (z.natAbs : Int) = z by omega]

section
variable {k : FloatKind} {x y : Nat} {a b : Rat}
theorem add_num (hx : Num k x a) (hy : Num k y b) {k0 : Int} (hk : k0 ≤ hiK k) (h : Bd k0 (a + b)) : ∃ z r, k.format.add x y = some z ∧ Num k z r ∧ Rnd k (a + b) r := by
  obtain ⟨s, m, i, hr, rfl⟩ := hx
  obtain ⟨t, n, j, hr', rfl⟩ := hy
  obtain ⟨u, l, e, h1, h2⟩ := sum_dv s t m n i j
  rw [← h2] at h ⊢
  obtain ⟨r, h3, h4⟩ := write_bd k u l e k0 hk h
  exact ⟨_, r, by rw [Format.add, hr, hr', h1]; rfl, h3, h4⟩
theorem sub_num (hx : Num k x a) (hy : Num k y b) {k0 : Int} (hk : k0 ≤ hiK k) (h : Bd k0 (a - b)) : ∃ z r, k.format.sub x y = some z ∧ Num k z r ∧ Rnd k (a - b) r := by
  obtain ⟨s, m, i, hr, rfl⟩ := hx
  obtain ⟨t, n, j, hr', rfl⟩ := hy
  obtain ⟨u, l, e, h1, h2⟩ := sum_dv s (!t) m n i j
  rw [dv_neg, ← Rat.sub_eq_add_neg] at h2
  rw [← h2] at h ⊢
  obtain ⟨r, h3, h4⟩ := write_bd k u l e k0 hk h
  exact ⟨_, r, by rw [Format.sub, hr, hr', Datum.opposite, h1]; rfl, h3, h4⟩
theorem dv_mul (s t : Bool) (m n : Nat) (i j : Int) : dv (s ^^ t) (m * n) (i + j) = dv s m i * dv t n j := by
  unfold dv
  rw [two_add, Rat.natCast_mul]
  cases s <;> cases t <;> simp <;> grind
theorem mul_num (hx : Num k x a) (hy : Num k y b) {k0 : Int} (hk : k0 ≤ hiK k) (h : Bd k0 (a * b)) : ∃ z r, k.format.mul x y = some z ∧ Num k z r ∧ Rnd k (a * b) r := by
  obtain ⟨s, m, i, hr, rfl⟩ := hx
  obtain ⟨t, n, j, hr', rfl⟩ := hy
  rw [← dv_mul] at h ⊢
  obtain ⟨r, h3, h4⟩ := write_bd k _ _ _ k0 hk h
  exact ⟨_, r, by rw [Format.mul, hr, hr', Datum.product]; rfl, h3, h4⟩

/-- How two finite numbers stand. -/
def cmpQ (a b : Rat) : Ordering := if a < b then .lt else if a = b then .eq else .gt
theorem order_num (hx : Num k x a) (hy : Num k y b) : k.format.order x y = some (cmpQ a b) := by
  obtain ⟨s, m, i, hr, rfl⟩ := hx
  obtain ⟨t, n, j, hr', rfl⟩ := hy
  rw [Format.order, hr, hr', Datum.order]
  congr 1
  have h1 := signed_rat s m i (min i j) (by omega)
  have h2 := signed_rat t n j (min i j) (by omega)
  rw [← h1, ← h2]
  have tp := two_pos (min i j)
  generalize signed s m (i - min i j).toNat = p
  generalize signed t n (j - min i j).toNat = q
  generalize two (min i j) = tw at tp
  unfold cmpQ
  have hlt : ((p : Rat) * tw < q * tw) ↔ p < q := by rw [Rat.mul_lt_mul_right tp, Rat.intCast_lt_intCast]
  rcases Int.lt_trichotomy p q with h | rfl | h
  · rw [Int.compare_eq_lt.2 h, if_pos (hlt.2 h)]
  · rw [if_neg (fun hh => by have := hlt.1 hh; omega), if_pos rfl, Int.compare_eq_eq.2 rfl]
  · rw [if_neg (fun hh => by have := hlt.1 hh; omega), if_neg, Int.compare_eq_gt.2 h]
    intro he
    have : (q : Rat) * tw < p * tw := (Rat.mul_lt_mul_right tp).2 (Rat.intCast_lt_intCast.2 h)
    grind
end

theorem near_mul (m' : Nat) {e e'' : Int} (h1 : e ≤ e'') : (m' : Rat) * two e'' = ((m' * 2 ^ (e'' - e).toNat : Nat) : Rat) * two e := by
  rw [nat_mul_two]; congr 2; omega

/-- A quotient told by more digits than are kept, the last of which is 1 where anything is left over: the numbers of the format stand to it as to the quotient. -/
theorem sticky (k : FloatKind) {X : Rat} {q S : Nat} {t : Int} (hq : 2 * binK k ≤ q) (h : (S = 2 * q ∧ X = S * two t) ∨ (S = 2 * q + 1 ∧ ((2 * q : Nat) : Rat) * two t < X ∧ X < ((2 * q + 2 : Nat) : Rat) * two t)) :
    (∀ c, Rep k c → X ≤ c → S * two t ≤ c) ∧ (∀ c, Rep k c → c ≤ X → c ≤ S * two t) := by
  have hB := bin_pos k
  have ht := two_pos t
  have hX : ((2 * q : Nat) : Rat) * two t ≤ X := by
    rcases h with ⟨h1, h2⟩ | ⟨h1, h2, h3⟩
    · rw [h2, h1]; exact Rat.le_refl
    · exact Rat.le_of_lt h2
  have hS : ((2 * q : Nat) : Rat) * two t ≤ S * two t := cast_mul_le.2 (by rcases h with ⟨h1, _⟩ | ⟨h1, _⟩ <;> omega)
  have low : ∀ (m : Nat) (e : Int), m < 2 * binK k → e ≤ t → (m : Rat) * two e < ((2 * q : Nat) : Rat) * two t := by
    intro m e hm he
    have x1 : (m : Rat) * two e ≤ m * two t := Rat.mul_le_mul_of_nonneg_left (two_le he) Rat.natCast_nonneg
    have x2 : (m : Rat) * two t < ((2 * q : Nat) : Rat) * two t := cast_mul_lt.2 (by omega)
    grind
  have pos : ∀ (m : Nat) (e : Int), (0 : Rat) ≤ m * two e := fun m e => Rat.mul_nonneg Rat.natCast_nonneg (Rat.le_of_lt (two_pos e))
  have hX0 : (0 : Rat) < X := by
    have : (0 : Rat) < ((2 * q : Nat) : Rat) * two t := Rat.mul_pos (Rat.natCast_pos.2 (by omega)) ht
    grind
  have even : ∀ (m : Nat) (e : Int), t < e → (m : Rat) * two e = ((2 * (m * 2 ^ (e - t - 1).toNat) : Nat) : Rat) * two t := by
    intro m e he
    rw [near_mul m (show t ≤ e by omega)]
    congr 2
    rw [show (e - t).toNat = (e - t - 1).toNat + 1 by omega, Nat.pow_succ, ← Nat.mul_assoc, Nat.mul_comm]
  constructor
  · rintro c ⟨m, e, h1, h2, rfl | rfl⟩ hc
    · by_cases he : e ≤ t
      · have := low m e h1 he; grind
      · rw [even m e (by omega)] at hc ⊢
        generalize m * 2 ^ (e - t - 1).toNat = N at hc ⊢
        refine cast_mul_le.2 ?_
        rcases h with ⟨h3, h4⟩ | ⟨h3, h4, h5⟩
        · rw [h4] at hc; exact cast_mul_le.1 hc
        · have hh : ((2 * q : Nat) : Rat) * two t < ((2 * N : Nat) : Rat) * two t := by grind
          have := cast_mul_lt.1 hh
          omega
    · have := pos m e; grind
  · rintro c ⟨m, e, h1, h2, rfl | rfl⟩ hc
    · by_cases he : e ≤ t
      · have := low m e h1 he; grind
      · rw [even m e (by omega)] at hc ⊢
        generalize m * 2 ^ (e - t - 1).toNat = N at hc ⊢
        refine cast_mul_le.2 ?_
        rcases h with ⟨h3, h4⟩ | ⟨h3, h4, h5⟩
        · rw [h4] at hc; exact cast_mul_le.1 hc
        · have hh : ((2 * N : Nat) : Rat) * two t < ((2 * q + 2 : Nat) : Rat) * two t := by grind
          have := cast_mul_lt.1 hh
          omega
    · have p1 := pos m e
      have p2 := pos S t
      clear low even pos h
      grind

section
variable {k : FloatKind} {x y : Nat} {a b : Rat}
theorem div_dv (s t : Bool) (m n : Nat) (i j : Int) (hn : n ≠ 0) : dv s m i / dv t n j = if (s ^^ t) then -((m * two i) / (n * two j)) else (m * two i) / (n * two j) := by
  have pn : (0 : Rat) < n * two j := Rat.mul_pos (Rat.natCast_pos.2 (by omega)) (two_pos j)
  have hc := fun z : Rat => Rat.div_mul_cancel (a := z) (Rat.ne_of_gt pn)
  unfold dv
  generalize (n : Rat) * two j = N at *
  generalize (m : Rat) * two i = M at *
  have hi : (-N)⁻¹ = -(N⁻¹) := by
    refine Rat.inv_eq_of_mul_eq_one ?_
    have := Rat.mul_inv_cancel N (Rat.ne_of_gt pn)
    grind
  cases s <;> cases t <;> simp [Rat.div_def, hi, Rat.neg_mul, Rat.mul_neg, Rat.neg_neg]
theorem div_num (hx : Num k x a) (hy : Num k y b) (hb : b ≠ 0) {k0 : Int} (hl : loK k ≤ k0) (hk : k0 ≤ hiK k) (h : Bd k0 (a / b)) : ∃ z r, k.format.div x y = some z ∧ Num k z r ∧ Rnd k (a / b) r := by
  obtain ⟨s, m, i, hr, rfl⟩ := hx
  obtain ⟨t, n, j, hr', rfl⟩ := hy
  have hn : n ≠ 0 := by rintro rfl; exact hb (by cases t <;> simp [dv])
  rw [div_dv s t m n i j hn] at h ⊢
  rw [Format.div, hr, hr', c_p, Datum.quotient, if_neg hn]
  dsimp only
  generalize hmore : pB k + 2 + n.log2 - m.log2 = more
  rw [Nat.shiftLeft_eq]
  have pn : (0 : Rat) < n * two j := Rat.mul_pos (Rat.natCast_pos.2 (by omega)) (two_pos j)
  have hc := Rat.div_mul_cancel (a := (m : Rat) * two i) (Rat.ne_of_gt pn)
  have h01 := Nat.div_add_mod (m * 2 ^ more) n
  have h02 := Nat.mod_lt (m * 2 ^ more) (Nat.pos_of_ne_zero hn)
  generalize hX : (m : Rat) * two i / (n * two j) = X at *
  -- X times n, at the unit
  have hXn : X * n = ((m * 2 ^ more : Nat) : Rat) * two (i - j - more) := by
    rw [nat_mul_two]
    have : (m : Rat) * two (i - j - more + more) = m * two i * two (-j) := by rw [Rat.mul_assoc, ← two_add]; congr 2; omega
    rw [this, ← hc, Rat.mul_assoc X, Rat.mul_assoc (n : Rat), ← two_add, Int.add_right_neg, show two 0 = 1 from rfl, Rat.mul_one]
  have pn' : (0 : Rat) < n := Rat.natCast_pos.2 (by omega)
  by_cases hm : m = 0
  · subst hm
    have hX0 : X = 0 := by
      simp at hc
      exact (Rat.mul_eq_zero.1 hc).resolve_right (Rat.ne_of_gt pn)
    have e0 : 2 * (0 * 2 ^ more / n) + (0 * 2 ^ more % n != 0).toNat = 0 := by simp
    rw [e0]
    obtain ⟨r, h3, h4⟩ := write_num k (s ^^ t) 0 (i - j - more - 1) k0 hk (by simp; exact Rat.le_of_lt (two_pos _))
    refine ⟨_, r, rfl, h3, ?_⟩
    have : dv (s ^^ t) 0 (i - j - more - 1) = if (s ^^ t) = true then -X else X := by
      rw [hX0]; cases (s ^^ t) <;> simp [dv]
    rw [← this]; exact h4
  · have hq : 2 * binK k ≤ m * 2 ^ more / n := by
      rw [Nat.le_div_iff_mul_le (Nat.pos_of_ne_zero hn)]
      have g1 : n < 2 ^ (n.log2 + 1) := Nat.lt_log2_self
      have g2 : 2 ^ m.log2 ≤ m := Nat.log2_self_le hm
      have g3 : 2 ^ (pB k + 2 + n.log2) ≤ m * 2 ^ more := by
        refine Nat.le_trans (Nat.pow_le_pow_right (by decide) (show pB k + 2 + n.log2 ≤ m.log2 + more by omega)) ?_
        rw [Nat.pow_add]
        exact Nat.mul_le_mul_right _ g2
      have g4 : 2 ^ (pB k + 2 + n.log2) = 2 * binK k * 2 ^ (n.log2 + 1) := by
        rw [show pB k + 2 + n.log2 = pB k + 1 + (n.log2 + 1) by omega, Nat.pow_add, Nat.pow_succ, Nat.mul_comm (2 ^ pB k)]; rfl
      exact Nat.le_trans (Nat.mul_le_mul_left _ (Nat.le_of_lt g1)) (by omega)
    generalize m * 2 ^ more / n = q at *
    generalize m * 2 ^ more % n = rest at *
    have hv : X * n = ((n * q + rest : Nat) : Rat) * two (i - j - more) := by rw [hXn, ← h01]
    have ht : two (i - j - more) = 2 * two (i - j - more - 1) := by
      rw [show (2 : Rat) = two 1 from rfl, ← two_add]; congr 1; omega
    generalize hu : i - j - more - 1 = u at *
    have hst := sticky k (X := X) (q := q) (S := 2 * q + (rest != 0).toNat) (t := u) hq (by
      have pu := two_pos u
      rw [ht, Rat.natCast_add, Rat.natCast_mul] at hv
      by_cases h0 : rest = 0
      · subst h0
        left
        refine ⟨rfl, ?_⟩
        have : X * n = ((2 * q : Nat) : Rat) * two u * n := by
          rw [hv, Rat.natCast_mul]; grind
        have := (Rat.mul_eq_zero (a := X - ((2 * q : Nat) : Rat) * two u) (b := n)).1 (by grind)
        rcases this with h | h
        · simp; grind
        · grind
      · right
        have hne : (rest != 0) = true := by simpa using h0
        rw [hne]
        have pr : (0 : Rat) < rest := Rat.natCast_pos.2 (by omega)
        have pr' : (rest : Rat) < n := Rat.natCast_lt_natCast.2 h02
        refine ⟨rfl, ?_, ?_⟩
        · refine (Rat.mul_lt_mul_right pn').1 ?_
          rw [hv, Rat.natCast_mul]
          have := Rat.mul_pos pr pu
          grind
        · refine (Rat.mul_lt_mul_right pn').1 ?_
          rw [hv, Rat.natCast_add, Rat.natCast_mul]
          have := Rat.mul_lt_mul_of_pos_right pr' pu
          grind)
    generalize 2 * q + (rest != 0).toNat = S at *
    obtain ⟨st1, st2⟩ := hst
    have hXb : X ≤ two k0 := by
      obtain ⟨h1, h2⟩ := h
      by_cases hs : (s ^^ t) = true
      · rw [if_pos hs] at h1; grind
      · rw [if_neg hs] at h2; exact h2
    obtain ⟨r, h3, h4⟩ := write_num k (s ^^ t) S u k0 hk (st1 _ (rep_two k k0 hl) hXb)
    refine ⟨_, r, rfl, h3, ?_⟩
    revert h4
    cases (s ^^ t)
    · intro h4
      exact ⟨fun c hc hx => h4.up c hc (st1 c hc (by simpa using hx)), fun c hc hx => h4.dn c hc (st2 c hc (by simpa using hx))⟩
    · intro h4
      refine ⟨fun c hc hx => h4.up c hc ?_, fun c hc hx => h4.dn c hc ?_⟩
      · have := st2 (-c) hc.neg (by simp at hx; grind)
        simp [dv]; grind
      · have := st1 (-c) hc.neg (by simp at hx; grind)
        simp [dv]; grind
end

/-- Not finite: an infinity or a NaN. -/
def Inf (k : FloatKind) (w : Nat) (s : Bool) : Prop := k.format.read w = .infinity s
def NaN (k : FloatKind) (w : Nat) : Prop := ∃ s f, k.format.read w = .nan s f
theorem kinds (k : FloatKind) (w : Nat) : (∃ q, Num k w q) ∨ (∃ s, Inf k w s) ∨ NaN k w := by
  unfold Num Inf NaN
  cases h : k.format.read w with
  | number s m e => exact .inl ⟨_, s, m, e, rfl, rfl⟩
  | infinity s => exact .inr (.inl ⟨s, rfl⟩)
  | nan s f => exact .inr (.inr ⟨s, f, rfl⟩)

section
variable {k : FloatKind} {x y : Nat} {a b : Rat} {s t : Bool}
theorem order_nan_l (h : NaN k x) : k.format.order x y = none := by
  obtain ⟨s, f, h⟩ := h
  rw [Format.order, h]; rfl
theorem order_nan_r (h : NaN k y) : k.format.order x y = none := by
  obtain ⟨s, f, h⟩ := h
  rw [Format.order, h]; cases k.format.read x <;> rfl
theorem order_inf_num (h : Inf k x s) (h' : Num k y b) : k.format.order x y = some (if s then .lt else .gt) := by
  obtain ⟨t, m, e, h', _⟩ := h'
  rw [Format.order, h, h']; rfl
theorem order_num_inf (h : Num k x a) (h' : Inf k y t) : k.format.order x y = some (if t then .gt else .lt) := by
  obtain ⟨s, m, e, h, _⟩ := h
  rw [Format.order, h, h']; rfl
theorem order_inf_inf (h : Inf k x s) (h' : Inf k y t) : k.format.order x y = some (compare t.toNat s.toNat) := by
  rw [Format.order, h, h']; rfl

theorem sub_self_inf (h : Inf k x s) : k.format.sub x x = none := by
  rw [Format.sub, h]
  cases s <;> rfl
theorem sub_self_nan (h : NaN k x) : k.format.sub x x = none := by
  obtain ⟨s, f, h⟩ := h
  rw [Format.sub, h]; rfl
theorem add_inf_num (h : Inf k x s) (h' : Num k y b) : k.format.add x y = some (k.format.word s k.format.infRung) := by
  obtain ⟨t, m, e, h', _⟩ := h'
  rw [Format.add, h, h']; rfl
theorem sub_inf_num (h : Inf k x s) (h' : Num k y b) : k.format.sub x y = some (k.format.word s k.format.infRung) := by
  obtain ⟨t, m, e, h', _⟩ := h'
  rw [Format.sub, h, h']; rfl
theorem sub_num_inf (h : Num k x a) (h' : Inf k y t) : k.format.sub x y = some (k.format.word (!t) k.format.infRung) := by
  obtain ⟨s, m, e, h, _⟩ := h
  rw [Format.sub, h, h']; rfl

theorem num_zero (k : FloatKind) : Num k 0 0 := ⟨false, 0, loK k, by cases k <;> decide, by simp [dv]⟩
theorem read_inf (k : FloatKind) (s : Bool) : Inf k (k.format.word s k.format.infRung) s := by
  cases k <;> cases s <;> (unfold Inf; decide +kernel)

/-- What a NaN among answers reads as. -/
theorem nan_cut (op : BinOp) (k : FloatKind) (x y t : Nat) : NaN k ((Question.nanBits k x y).cut t) := by
  have key : ∀ (k : FloatKind) (b f : Nat), f < binK k - 1 → NaN k (b % 2 * k.format.signWeight + k.format.infRung + 1 + f) := by
    intro k b f hf
    have hb : b % 2 < 2 := Nat.mod_lt _ (by decide)
    unfold NaN Format.read
    have hs : k.format.infRung + binK k = k.format.signWeight := by cases k <;> rfl
    have hB := bin_pos k
    have hlt : k.format.binade ≤ k.format.infRung := by cases k <;> decide
    generalize k.format.signWeight = W at *
    generalize k.format.infRung = I at *
    have d2 : (b % 2 * W + I + 1 + f) % W = I + 1 + f := by
      rw [Nat.add_assoc, Nat.add_assoc, Nat.mul_add_mod_self_right, Nat.mod_eq_of_lt (by omega), Nat.add_assoc]
    dsimp only
    rw [d2, if_neg (by omega), if_neg (by omega), if_neg (by omega)]
    exact ⟨_, _, rfl⟩
  cases k
  · have := key .f32 t (t / 2 % (2 ^ 23 - 1)) (Nat.mod_lt _ (by decide))
    exact this
  · have := key .f64 t (t / 2 % (2 ^ 52 - 1)) (Nat.mod_lt _ (by decide))
    exact this

theorem run_float_none {P : Program} (w : World) (op : BinOp) (t : TypeId) (k : FloatKind) (x y : Nat) (ho : op = .add ∨ op = .sub ∨ op = .mul ∨ op = .quo) (h : floatBits op k x y = none) :
    ∃ b, NaN k b ∧ (binOp op t (.float k x) (.float k y)).run P w = .ok (.float k b) w.drew := by
  refine ⟨_, nan_cut op k x y (w.tape w.drawn (.nanBits k x y)), ?_⟩
  unfold floatBits at h
  rcases ho with rfl | rfl | rfl | rfl <;> simp only at h <;> simp [binOp, Op.floatArith, h, Question.forced]
end

/-- From one kind to the other. -/
theorem conv_num {k k' : FloatKind} {x : Nat} {a : Rat} (hx : Num k x a) {k0 : Int} (hk : k0 ≤ hiK k') (h : Bd k0 a) (hne : k ≠ k') :
    ∃ z r, floatToFloatBits k x k' = some z ∧ Num k' z r ∧ Rnd k' a r := by
  obtain ⟨s, m, e, hr, rfl⟩ := hx
  obtain ⟨r, h1, h2⟩ := write_bd k' s m e k0 hk h
  refine ⟨_, r, ?_, h1, h2⟩
  unfold floatToFloatBits FloatKind.decode
  rw [if_neg hne, hr]
  simp only
  obtain ⟨s', m', e', h3, _⟩ := h1
  rw [if_neg]
  · rfl
  · unfold FloatKind.encode
    rw [h3]; simp [Datum.isInfinity]
theorem rep_up {a : Rat} (h : Rep .f32 a) : Rep .f64 a := by
  obtain ⟨m, e, h1, h2, h3⟩ := h
  refine ⟨m, e, ?_, ?_, h3⟩
  · have : 2 * binK .f32 ≤ 2 * binK .f64 := by decide
    omega
  · have : loK .f64 ≤ loK .f32 := by decide
    omega
/-- A finite word lies within the format. -/
theorem Num.bd {k : FloatKind} {w : Nat} {q : Rat} (h : Num k w q) : Bd (hiK k + 1) q := by
  obtain ⟨s, m, e, hr, rfl⟩ := h
  have hB := bin_pos k
  unfold Format.read at hr
  rw [c_bin, c_inf, c_lo] at hr
  dsimp only at hr
  have fin : ∀ (s : Bool) (m : Nat) (e : Int), m < 2 * binK k → e + pB k + 1 ≤ hiK k + 1 → Bd (hiK k + 1) (dv s m e) := by
    intro s m e h1 h2
    have x1 : (m : Rat) * two e ≤ ((2 * binK k : Nat) : Rat) * two e := cast_mul_le.2 (by omega)
    have x2 : ((2 * binK k : Nat) : Rat) * two e = two (e + pB k + 1) := by
      rw [two_add, two_add, two_bin, Rat.natCast_mul, show two 1 = ((2 : Nat) : Rat) from rfl]; grind
    have x3 := two_le h2
    have x4 : (0 : Rat) ≤ m * two e := Rat.mul_nonneg Rat.natCast_nonneg (Rat.le_of_lt (two_pos e))
    cases s
    · constructor <;> simp [dv] <;> grind
    · constructor <;> simp [dv] <;> grind
  split at hr
  · cases hr; exact fin _ _ _ (by omega) (by cases k <;> decide)
  · split at hr
    · rename_i hlt
      cases hr
      refine fin _ _ _ ?_ ?_
      · have := Nat.mod_lt (w % k.format.signWeight) hB
        omega
      · rw [infR_eq] at hlt
        have : w % k.format.signWeight / binK k < (hiK k - pB k - loK k + 2).toNat := Nat.div_lt_of_lt_mul (by rw [Nat.mul_comm]; exact hlt)
        have : loK k + pB k ≤ hiK k := by cases k <;> decide
        omega
    · split at hr <;> cases hr
/-- A float32 as a float64. -/
theorem conv_up {x : Nat} {a : Rat} (hx : Num .f32 x a) : ∃ z, floatToFloatBits .f32 x .f64 = some z ∧ Num .f64 z a := by
  obtain ⟨z, r, h1, h2, h3⟩ := conv_num (k' := .f64) hx (k0 := 128) (by decide) hx.bd (by decide)
  rw [h3.exact (rep_up hx.rep)] at h2
  exact ⟨z, h1, h2⟩
/-- An integer as a float. -/
theorem int_num (k : FloatKind) (n : Int) {k0 : Int} (hk : k0 ≤ hiK k) (h : Bd k0 (n : Rat)) : ∃ r, Num k (floatOfInt k n) r ∧ Rnd k (n : Rat) r := by
  have hv : dv (n < 0) n.natAbs 0 = (n : Rat) := by
    unfold dv
    rw [show two 0 = 1 from rfl, Rat.mul_one, show ((n.natAbs : Nat) : Rat) = ((n.natAbs : Int) : Rat) from rfl]
    by_cases hn : n < 0
    · simp only [hn, decide_true, if_true]
      rw [← Rat.intCast_neg]; congr 1; omega
    · simp only [hn, decide_false, Bool.false_eq_true, if_false]
      congr 1; omega
  rw [← hv] at h ⊢
  exact write_bd k _ _ _ k0 hk h
theorem rep_int (k : FloatKind) (n : Int) (h : n.natAbs < 2 * binK k) : Rep k (n : Rat) := by
  refine ⟨n.natAbs, 0, h, by cases k <;> decide, ?_⟩
  rw [show two 0 = 1 from rfl, Rat.mul_one, show ((n.natAbs : Nat) : Rat) = ((n.natAbs : Int) : Rat) from rfl]
  by_cases hn : n < 0
  · right; rw [← Rat.intCast_neg]; congr 1; omega
  · left; congr 1; omega
theorem bd_int {n : Int} {j : Nat} (h : n.natAbs ≤ 2 ^ j) : Bd j (n : Rat) := by
  unfold Bd
  rw [two_nat, show ((2 ^ j : Nat) : Rat) = ((2 ^ j : Nat) : Int) from rfl, ← Rat.intCast_neg, Rat.intCast_le_intCast, Rat.intCast_le_intCast]
  omega
/-- A small integer is itself as a float. -/
theorem int_exact (k : FloatKind) (n : Int) (h : n.natAbs < 2 ^ 24) : Num k (floatOfInt k n) (n : Rat) := by
  obtain ⟨r, h1, h2⟩ := int_num k n (k0 := 24) (by cases k <;> decide) (bd_int (Nat.le_of_lt h))
  rw [h2.exact (rep_int k n (Nat.lt_of_lt_of_le h (by cases k <;> decide)))] at h1
  exact h1

/-- The opposite. -/
theorem neg_read (k : FloatKind) (x : Nat) : k.format.read (Op.negFloat k x) = (k.format.read x).opposite := by
  have hx : ∀ n, (x ^^^ 2 ^ n) % 2 ^ n = x % 2 ^ n := fun n => by rw [Nat.xor_mod_two_pow, Nat.mod_self, Nat.xor_zero]
  have hd : ∀ n, (x ^^^ 2 ^ n) / 2 ^ n = (x / 2 ^ n) ^^^ 1 := fun n => by rw [Nat.xor_div_two_pow, Nat.div_self (Nat.two_pow_pos n)]
  have h2 : ∀ a : Nat, (a ^^^ 1) % 2 = 1 - a % 2 := by
    intro a
    have := Nat.xor_mod_two_pow (a := a) (b := 1) (n := 1)
    rw [Nat.pow_one] at this
    rw [this]
    rcases Nat.mod_two_eq_zero_or_one a with h | h <;> rw [h] <;> rfl
  unfold Op.negFloat Format.read
  have hs : k.format.signWeight = 2 ^ (k.format.exponentBits + k.format.fractionBits) := rfl
  rw [hs, hx, hd, h2]
  dsimp only
  have hb : (1 - x / 2 ^ (k.format.exponentBits + k.format.fractionBits) % 2 == 1) = !(x / 2 ^ (k.format.exponentBits + k.format.fractionBits) % 2 == 1) := by
    have := Nat.mod_two_eq_zero_or_one (x / 2 ^ (k.format.exponentBits + k.format.fractionBits))
    rcases this with h | h <;> rw [h] <;> rfl
  rw [hb]
  split
  · rfl
  · split
    · rfl
    · split <;> rfl
theorem neg_num {k : FloatKind} {x : Nat} {a : Rat} (h : Num k x a) : Num k (Op.negFloat k x) (-a) := by
  obtain ⟨s, m, e, hr, rfl⟩ := h
  exact ⟨!s, m, e, by rw [neg_read, hr]; rfl, dv_neg s m e⟩

end Go.Proofs.Ytiejljlmbpgbiaa
