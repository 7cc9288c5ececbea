/- Contexts of bits, how often bits came in them, what they cost. Plain; conditions: what each theorem names. -/
import Derived.Test.YthafmldcfdcngaaCotP
namespace Go.Proofs.Ythafmldcfdcngaa
open Ieee
set_option maxRecDepth 100000
set_option linter.unusedVariables false
set_option linter.unusedSimpArgs false

/-- What a word of a format is read as. -/
theorem read_parts (k : FloatKind) {x : Nat} (hx : x < 2 * k.format.signWeight) {s : Bool} {m : Nat} {e : Int} (h : k.format.read x = .number s m e) :
    m < 2 * binK k ∧ loK k ≤ e ∧ (e = loK k ∨ binK k ≤ m) ∧ x = (if s then k.format.signWeight else 0) + ((e - loK k).toNat * binK k + m) := by
  have hB := bin_pos k
  unfold Format.read at h
  rw [c_bin, c_inf, c_lo] at h
  dsimp only at h
  have hW : 0 < k.format.signWeight := by cases k <;> decide
  generalize k.format.signWeight = W at *
  have hsx : x = (if (x / W % 2 == 1) = true then W else 0) + x % W := by
    have h1 := Nat.div_add_mod x W
    have h2 : x / W < 2 := Nat.div_lt_of_lt_mul (by omega)
    generalize x / W = d at h1 h2 ⊢
    generalize x % W = r at h1 ⊢
    rcases (show d = 0 ∨ d = 1 by omega) with rfl | rfl <;> simp <;> omega
  split at h
  · cases h
    refine ⟨by omega, Int.le_refl _, .inl rfl, ?_⟩
    have : (loK k - loK k).toNat = 0 := by omega
    rw [this, Nat.zero_mul, Nat.zero_add]; exact hsx
  · split at h
    · cases h
      have h3 := Nat.div_add_mod (x % W) (binK k)
      have h4 := Nat.mod_lt (x % W) hB
      have h5 : 1 ≤ x % W / binK k := (Nat.one_le_div_iff hB).2 (by omega)
      refine ⟨by omega, by omega, .inr (by omega), ?_⟩
      have e1 : (loK k + ((x % W / binK k - 1 : Nat) : Int) - loK k).toNat = x % W / binK k - 1 := by omega
      rw [e1]
      have e2 : (x % W / binK k - 1) * binK k + binK k = x % W / binK k * binK k := by
        rw [← Nat.succ_mul]; congr 1; omega
      rw [Nat.mul_comm] at h3
      omega
    · split at h <;> cases h
/-- A number that is not nought has one word. -/
theorem word_unique (k : FloatKind) {x y : Nat} (hx : x < 2 * k.format.signWeight) (hy : y < 2 * k.format.signWeight) {q : Rat} (h : Num k x q) (h' : Num k y q) (hq : q ≠ 0) : x = y := by
  obtain ⟨s, m, e, hr, hv⟩ := h
  obtain ⟨s', m', e', hr', hv'⟩ := h'
  obtain ⟨a1, a2, a3, a4⟩ := read_parts k hx hr
  obtain ⟨b1, b2, b3, b4⟩ := read_parts k hy hr'
  have pos : ∀ (m : Nat) (e : Int), (0 : Rat) ≤ m * two e := fun m e => Rat.mul_nonneg Rat.natCast_nonneg (Rat.le_of_lt (two_pos e))
  have p1 := pos m e
  have p2 := pos m' e'
  have hs : s = s' := by
    unfold dv at hv hv'
    cases s <;> cases s' <;> simp at hv hv' <;> first | rfl | (exfalso; grind)
  subst hs
  have hm : (m : Rat) * two e = m' * two e' := by
    unfold dv at hv hv'
    cases s <;> simp at hv hv' <;> grind
  have hee : ∀ (m m' : Nat) (e e' : Int), m < 2 * binK k → (e' = loK k ∨ binK k ≤ m') → loK k ≤ e → (m : Rat) * two e = m' * two e' → e' ≤ e := by
    intro m m' e e' h1 h2 h3 h4
    refine Int.not_lt.1 fun hlt => ?_
    rcases h2 with h2 | h2
    · omega
    · have x1 : (m : Rat) * two e < ((2 * binK k : Nat) : Rat) * two e := cast_mul_lt.2 h1
      have x2 : ((2 * binK k : Nat) : Rat) * two e = binK k * two (e + 1) := by
        rw [two_add, Rat.natCast_mul, show two 1 = ((2 : Nat) : Rat) from rfl]; grind
      have x3 : (binK k : Rat) * two (e + 1) ≤ binK k * two e' := Rat.mul_le_mul_of_nonneg_left (two_le (by omega)) Rat.natCast_nonneg
      have x4 : (binK k : Rat) * two e' ≤ m' * two e' := cast_mul_le.2 h2
      grind
  have he : e = e' := Int.le_antisymm (hee m' m e' e b1 a3 b2 hm.symm) (hee m m' e e' a1 b3 a2 hm)
  subst he
  have hmm : m = m' := Nat.le_antisymm (cast_mul_le.1 (by rw [hm]; exact Rat.le_refl)) (cast_mul_le.1 (by rw [hm]; exact Rat.le_refl))
  rw [a4, b4, hmm]
theorem i32_lt (n : Int) : I32 n < 2 * FloatKind.f32.format.signWeight  := by
  have h : I32 n < 2 ^ single.width := Format.nearest_lt single _ _ _
  exact h
theorem fadd_lt {x y z : Nat} (h : floatBits .add .f32 x y = some z) : z < 2 * FloatKind.f32.format.signWeight  := by
  have h' : z < 2 ^ single.width := Format.add_lt single h
  exact h'
/-- Small integers add up as integers. -/
theorem i32_add (a b : Int) (ha : 0 ≤ a) (hb : 0 ≤ b) (h : a + b < 16777216) : floatBits .add .f32 (I32 a) (I32 b) = some (I32 (a + b)) := by
  have na := i32_num a (by omega)
  have nb := i32_num b (by omega)
  have hc : (a : Rat) + b = ((a + b : Int) : Rat) := (Rat.intCast_add a b).symm
  have hbd : Bd 24 ((a : Rat) + b) := by rw [hc]; exact bd_int (j := 24) (by omega)
  obtain ⟨z, r, h1, h2, h3⟩ := add_num na nb (k0 := 24) (by decide) hbd
  rw [hc] at h3
  rw [h3.exact (rep_int .f32 (a + b) (by have : 2 * binK .f32 = 16777216 := rfl; omega))] at h2
  by_cases hz : a + b = 0
  · obtain rfl : a = 0 := by omega
    obtain rfl : b = 0 := by omega
    decide +kernel
  · have := word_unique .f32 (fadd_lt h1) (i32_lt (a + b)) h2 (i32_num (a + b) (by omega)) (by intro h0; exact hz (Rat.intCast_eq_zero_iff.1 h0))
    rw [← this]; exact h1
theorem i32_one : I32 1 = 1065353216 := by decide +kernel
theorem num_half : Num .f32 1056964608 (1 / 2) := ⟨false, 8388608, -24, by decide +kernel, by decide +kernel⟩
/-- A count and a half. -/
def hlfW (c : Nat) : Nat := fadd .f32 (I32 c) 1056964608
theorem hlf_num (c : Nat) (h : c ≤ 4096) : floatBits .add .f32 (I32 c) 1056964608 = some (hlfW c) ∧ Num .f32 (hlfW c) ((c : Rat) + 1 / 2) := by
  have nc := i32_num c (by omega)
  have e : ((c : Int) : Rat) + 1 / 2 = ((2 * c + 1 : Nat) : Rat) * two (-1) := by
    rw [show two (-1) = 1 / 2 by decide +kernel, Rat.natCast_add, Rat.natCast_mul]
    simp only [Rat.intCast_natCast]
    grind
  have hb : Bd 13 (((c : Int) : Rat) + 1 / 2) := by
    rw [e]
    have h1 : ((2 * c + 1 : Nat) : Rat) * two (-1) ≤ ((2 ^ 14 : Nat) : Rat) * two (-1) := cast_mul_le.2 (by omega)
    rw [← two_nat, ← two_add] at h1
    have h2 : (0 : Rat) ≤ ((2 * c + 1 : Nat) : Rat) * two (-1) := Rat.mul_nonneg Rat.natCast_nonneg (Rat.le_of_lt (two_pos _))
    have h3 := two_pos 13
    exact ⟨by grind, h1⟩
  obtain ⟨g, r, h1, h2⟩ := add_o nc num_half (k0 := 13) (by decide) hb
  rw [h2.exact (by rw [e]; exact ⟨2 * c + 1, -1, by have : 2 * binK .f32 = 16777216 := rfl; omega, by decide, .inl rfl⟩)] at h1
  exact ⟨g, h1⟩
/-- The chance of a bit that came c times of n - 1. -/
def chW (c n : Nat) : Nat := fdiv .f32 (hlfW c) (I32 n)
theorem ch_num (c n : Nat) (h : c + 1 ≤ n) (hn : n ≤ 4096) : floatBits .quo .f32 (hlfW c) (I32 n) = some (chW c n) ∧ ∃ a, Num .f32 (chW c n) a ∧ 0 < a ∧ a ≤ 1 ∧ Rnd .f32 (((c : Rat) + 1 / 2) / (n : Rat)) a := by
  obtain ⟨-, nc⟩ := hlf_num c (by omega)
  have nn := i32_num n (by omega)
  rw [Rat.intCast_natCast] at nn
  have c0 : (0 : Rat) ≤ (c : Rat) := Rat.natCast_nonneg
  have c1 : (c : Rat) + 1 ≤ n := by
    have : ((c + 1 : Nat) : Rat) ≤ n := Rat.natCast_le_natCast.2 h
    rw [Rat.natCast_add] at this; exact this
  have n3 : (n : Rat) ≤ 4096 := by
    have : (n : Rat) ≤ ((4096 : Nat) : Rat) := Rat.natCast_le_natCast.2 hn
    exact this
  have hq := Rat.div_mul_cancel (a := (c : Rat) + 1 / 2) (b := (n : Rat)) (by grind)
  have hlow : two (-13) ≤ ((c : Rat) + 1 / 2) / n := by
    refine Rat.not_lt.1 fun hn => ?_
    have k1 := Rat.mul_lt_mul_of_pos_right hn (show (0 : Rat) < n by grind)
    have k2 : two (-13) * (n : Rat) ≤ two (-13) * 4096 := Rat.mul_le_mul_of_nonneg_left n3 (Rat.le_of_lt (two_pos _))
    have k3 : two (-13) * 4096 = 1 / 2 := by decide +kernel
    grind
  have hup : ((c : Rat) + 1 / 2) / n ≤ two 0 := by
    rw [show two 0 = 1 from rfl]
    refine Rat.not_lt.1 fun hn => ?_
    have k1 := Rat.mul_lt_mul_of_pos_right hn (show (0 : Rat) < n by grind)
    grind
  have hp := two_pos (-13)
  have hb : Bd 0 (((c : Rat) + 1 / 2) / n) := ⟨by rw [show two 0 = 1 from rfl]; grind, hup⟩
  obtain ⟨g, a, h1, r⟩ := div_o nc nn (by grind) (k0 := 0) (by decide) (by decide) hb
  refine ⟨g, a, h1, ?_, ?_, r⟩
  · have := r.dn (two (-13)) (rep_two _ _ (by decide)) hlow
    grind
  · exact r.le_two (e := 0) (by decide) hup

/-- The number of the context of a bit. -/
def ctxN (bits : List Bool) (pos : Nat) : Nat → Nat
  | 0 => 0
  | d + 1 => ctxN bits pos d + (if d < pos ∧ bits.getD (pos - 1 - d) false = true then 2 ^ d else 0)
theorem ctxN_lt (bits : List Bool) (pos d : Nat) : ctxN bits pos d < 2 ^ d := by
  induction d with
  | zero => simp [ctxN]
  | succ d ih => rw [ctxN, Nat.pow_succ]; split <;> omega
/-- How often a bit came in a context. -/
def cnt (bits : List Bool) (deep c : Nat) (b : Bool) : Nat → Nat
  | 0 => 0
  | i + 1 => cnt bits deep c b i + (if ctxN bits i deep = c ∧ bits.getD i false = b then 1 else 0)
theorem cnt_le (bits : List Bool) (deep c : Nat) (i : Nat) : cnt bits deep c false i + cnt bits deep c true i ≤ i := by
  induction i with
  | zero => simp [cnt]
  | succ i ih =>
    simp only [cnt]
    cases bits.getD i false <;> by_cases h : ctxN bits i deep = c <;> simp [h] <;> omega
/-- The chance of the bit at a place, by its context. -/
def pcW (bits : List Bool) (deep i : Nat) : Nat :=
  chW (cnt bits deep (ctxN bits i deep) (bits.getD i false) i) (cnt bits deep (ctxN bits i deep) false i + cnt bits deep (ctxN bits i deep) true i + 1)
theorem cnt_sub (bits : List Bool) (deep c : Nat) (b : Bool) (i : Nat) : cnt bits deep c b i ≤ cnt bits deep c false i + cnt bits deep c true i := by
  cases b <;> omega
theorem pc_num (bits : List Bool) (deep i : Nat) (h : i < 1024) : ∃ a, Num .f32 (pcW bits deep i) a ∧ 0 < a ∧ a ≤ 1 := by
  obtain ⟨-, a, h1, h2, h3, -⟩ := ch_num _ _ (Nat.succ_le_succ (cnt_sub bits deep (ctxN bits i deep) (bits.getD i false) i)) (by have := cnt_le bits deep (ctxN bits i deep) i; omega)
  exact ⟨a, h1, h2, h3⟩
/-- The sum of the logarithms of a context. -/
def smW (bits : List Bool) (deep c : Nat) : Nat → Nat
  | 0 => 0
  | i + 1 => if ctxN bits i deep = c then fadd .f32 (smW bits deep c i) (LOG (pcW bits deep i)) else smW bits deep c i
/-- The sum of what all bits cost. -/
def alW (bits : List Bool) (deep : Nat) : Nat → Nat
  | 0 => 0
  | i + 1 => fadd .f32 (alW bits deep i) (costW (pcW bits deep i))
theorem Acc.mono {s n m : Nat} (h : Acc s n) (hm : n ≤ m) : Acc s m := by
  obtain ⟨q, h1, h2, h3⟩ := h
  have : (n : Rat) * two 10 ≤ (m : Rat) * two 10 := cast_mul_le.2 hm
  exact ⟨q, h1, by grind, by grind⟩
theorem sm_acc (bits : List Bool) (deep c : Nat) (i : Nat) (h : i ≤ 1024) : Acc (smW bits deep c i) i := by
  induction i with
  | zero => exact acc_zero
  | succ i ih =>
    rw [smW]
    split
    · obtain ⟨a, h1, h2, -⟩ := pc_num bits deep i (by omega)
      obtain ⟨-, l, h3, h4⟩ := log_num h1 h2
      exact (acc_step (ih (by omega)) h3 (h4.mono (by decide)) (by omega)).2
    · exact (ih (by omega)).mono (by omega)
theorem sm_step (bits : List Bool) (deep c : Nat) (i : Nat) (h : i < 1024) : floatBits .add .f32 (smW bits deep c i) (LOG (pcW bits deep i)) = some (fadd .f32 (smW bits deep c i) (LOG (pcW bits deep i))) := by
  obtain ⟨a, h1, h2, -⟩ := pc_num bits deep i (by omega)
  obtain ⟨-, l, h3, h4⟩ := log_num h1 h2
  exact (acc_step (sm_acc bits deep c i (by omega)) h3 (h4.mono (by decide)) (by omega)).1
theorem al_acc (bits : List Bool) (deep : Nat) (i : Nat) (h : i ≤ 1024) : Acc (alW bits deep i) i := by
  induction i with
  | zero => exact acc_zero
  | succ i ih =>
    obtain ⟨a, h1, h2, -⟩ := pc_num bits deep i (by omega)
    obtain ⟨-, l, h3, h4⟩ := cost_num h1 h2
    exact (acc_step (ih (by omega)) h3 h4 (by omega)).2
theorem al_step (bits : List Bool) (deep : Nat) (i : Nat) (h : i < 1024) : floatBits .add .f32 (alW bits deep i) (costW (pcW bits deep i)) = some (alW bits deep (i + 1)) := by
  obtain ⟨a, h1, h2, -⟩ := pc_num bits deep i (by omega)
  obtain ⟨-, l, h3, h4⟩ := cost_num h1 h2
  exact (acc_step (al_acc bits deep i (by omega)) h3 h4 (by omega)).1
end Go.Proofs.Ythafmldcfdcngaa
