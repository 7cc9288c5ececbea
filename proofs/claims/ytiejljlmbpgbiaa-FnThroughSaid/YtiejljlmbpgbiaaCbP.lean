/- The bits that rows and columns of a table tell in common, as words. Plain; conditions: what each theorem names. -/
import Derived.Test.YtiejljlmbpgbiaaGrdP
import Derived.Test.YtiejljlmbpgbiaaCotP
namespace Go.Proofs.Ytiejljlmbpgbiaa
open Ieee Go.RowKit
set_option maxRecDepth 100000
set_option linter.unusedVariables false
set_option linter.unusedSimpArgs false

/-- Above nought. -/
def posB (x : Nat) : Bool := FloatKind.f32.format.order x 0 == some .gt
def bW (x : Nat) : Nat := fdiv .f32 (LOG x) 1060205080
def d1W (p x : Nat) : Nat := fsub .f32 (bW p) (bW x)
def d2W (p x c : Nat) : Nat := fsub .f32 (d1W p x) (bW c)
def tmW (p x c : Nat) : Nat := fmul .f32 p (d2W p x c)
def cbStep (s p x c : Nat) : Nat := if posB p = true then fadd .f32 s (tmW p x c) else s
def cbK (xs R C : List Nat) (m i s : Nat) : Nat → Nat
  | 0 => s
  | k + 1 => cbStep (cbK xs R C m i s k) (xs.getD (i * m + k) 0) (R.getD i 0) (C.getD k 0)
def cbN (xs R C : List Nat) (m : Nat) : Nat → Nat
  | 0 => 0
  | i + 1 => cbK xs R C m i (cbN xs R C m i) m
theorem bW_num {x : Nat} {a : Rat} (h : Num .f32 x a) (h0 : 0 < a) : floatBits .quo .f32 (LOG x) 1060205080 = some (bW x) ∧ ∃ b, Num .f32 (bW x) b ∧ Bd 10 b := by
  obtain ⟨-, l, hl, hb⟩ := log_num h h0
  have hd : Bd 10 (l / lnbQ) := div_half hb lnb_bd.1
  obtain ⟨g, c, h1, h2⟩ := div_o hl num_lnb (by have := lnb_bd; grind) (k0 := 10) (by decide) (by decide) hd
  exact ⟨g, c, h1, h2.bd (by decide) hd⟩
/-- One term: no operation fails. -/
structure TmOk (p x c : Nat) : Prop where
  b1 : ∀ a, Num .f32 p a → 0 < a → floatBits .quo .f32 (LOG p) 1060205080 = some (bW p)
  d1 : floatBits .sub .f32 (bW p) (bW x) = some (d1W p x)
  d2 : floatBits .sub .f32 (d1W p x) (bW c) = some (d2W p x c)
  t : floatBits .mul .f32 p (d2W p x c) = some (tmW p x c)
  tn : ∃ q, Num .f32 (tmW p x c) q ∧ Bd 13 q
theorem tm_ok {p x c : Nat} {a b d : Rat} (hp : Num .f32 p a) (hx : Num .f32 x b) (hc : Num .f32 c d) (p0 : 0 < a) (p2 : a ≤ 2) (x0 : 0 < b) (c0 : 0 < d) : TmOk p x c := by
  obtain ⟨g1, u1, n1, e1⟩ := bW_num hp p0
  obtain ⟨g2, u2, n2, e2⟩ := bW_num hx x0
  obtain ⟨g3, u3, n3, e3⟩ := bW_num hc c0
  have f1 := e1.sub e2
  obtain ⟨k1, v1, m1, r1⟩ := sub_o n1 n2 (k0 := 11) (by decide) f1
  have f2 := (r1.bd (by decide) f1).sub (e3.mono (show (10 : Int) ≤ 11 by decide))
  obtain ⟨k2, v2, m2, r2⟩ := sub_o m1 n3 (k0 := 12) (by decide) f2
  have f3 : Bd 13 (a * v2) := by
    have ba : Bd 1 a := by rw [Bd, show two 1 = 2 from rfl]; constructor <;> grind
    exact ba.mul (r2.bd (by decide) f2)
  obtain ⟨k3, v3, m3, r3⟩ := mul_o hp m2 (k0 := 13) (by decide) f3
  exact ⟨fun _ _ _ => g1, k1, k2, k3, v3, m3, r3.bd (by decide) f3⟩
/-- A sum of at most n numbers, none greater than 2^13. -/
def Ac13 (s n : Nat) : Prop := ∃ q, Num .f32 s q ∧ -((n : Rat) * two 13) ≤ q ∧ q ≤ (n : Rat) * two 13
theorem ac13_step {s n t : Nat} {c : Rat} (h : Ac13 s n) (ht : Num .f32 t c) (hc : Bd 13 c) (hn : n < 1000) : floatBits .add .f32 s t = some (fadd .f32 s t) ∧ Ac13 (fadd .f32 s t) (n + 1) := by
  obtain ⟨q, hs, h1, h2⟩ := h
  obtain ⟨h3, h4⟩ := hc
  have e : ((n + 1 : Nat) : Rat) * two 13 = n * two 13 + two 13 := by rw [Rat.natCast_add]; grind
  have hb : Bd 37 (q + c) := by
    have : ((n + 1 : Nat) : Rat) * two 13 ≤ ((2 ^ 24 : Nat) : Rat) * two 13 := cast_mul_le.2 (by omega)
    rw [← two_nat, ← two_add, show ((24 : Nat) : Int) + 13 = 37 from rfl] at this
    constructor <;> grind
  obtain ⟨g, r, hr, rr⟩ := add_o hs ht (k0 := 37) (by decide) hb
  have hrep : Rep .f32 (((n + 1 : Nat) : Rat) * two 13) := ⟨n + 1, 13, by have : 2 * binK .f32 = 16777216 := rfl; omega, by decide, .inl rfl⟩
  refine ⟨g, r, hr, ?_, ?_⟩
  · exact rr.dn _ hrep.neg (by grind)
  · exact rr.up _ hrep (by grind)
theorem Ac13.more {s n n' : Nat} (h : Ac13 s n) (hn : n ≤ n') : Ac13 s n' := by
  obtain ⟨q, hs, h1, h2⟩ := h
  have : (n : Rat) * two 13 ≤ n' * two 13 := cast_mul_le.2 hn
  exact ⟨q, hs, by grind, by grind⟩
/-- A table, the sums of its rows and of its columns: each chance from nought to two, none above a sum that is nought. -/
structure CbOk (n m : Nat) (xs R C : List Nat) : Prop where
  n8 : n ≤ 8
  m8 : m ≤ 8
  len : xs.length = n * m
  r : R.length = n
  c : C.length = m
  p : ∀ i k, i < n → k < m → Ch (xs.getD (i * m + k) 0)
  q : ∀ i k, i < n → k < m → posB (xs.getD (i * m + k) 0) = true → (∃ a, Num .f32 (R.getD i 0) a ∧ 0 < a) ∧ (∃ b, Num .f32 (C.getD k 0) b ∧ 0 < b)
theorem pos_num {x : Nat} {a : Rat} (h : Num .f32 x a) : posB x = decide (0 < a) := by
  unfold posB; rw [order_num h (num_zero .f32)]
  rcases (show a < 0 ∨ a = 0 ∨ 0 < a by grind) with h | h | h
  · rw [cmp_lt.2 h, decide_eq_false (by grind)]; rfl
  · rw [cmp_eq.2 h, decide_eq_false (by grind)]; rfl
  · rw [cmp_gt.2 h, decide_eq_true (by grind)]; rfl
/-- Not nought is above nought. -/
theorem pos_ne {x : Nat} (h : Ch x) : (FloatKind.f32.format.order x 0 != some .eq) = posB x := by
  obtain ⟨a, ha, a0, -⟩ := h
  rw [pos_num ha, order_num ha (num_zero .f32)]
  rcases (show a = 0 ∨ 0 < a by grind) with h | h
  · rw [cmp_eq.2 h, decide_eq_false (by grind)]; rfl
  · rw [cmp_gt.2 h, decide_eq_true (by grind)]; rfl
theorem CbOk.tm {n m : Nat} {xs R C : List Nat} (h : CbOk n m xs R C) {i k : Nat} (hi : i < n) (hk : k < m) (hp : posB (xs.getD (i * m + k) 0) = true) : TmOk (xs.getD (i * m + k) 0) (R.getD i 0) (C.getD k 0) ∧ (∃ a, Num .f32 (xs.getD (i * m + k) 0) a ∧ 0 < a) := by
  obtain ⟨a, ha, a0, a2⟩ := h.p i k hi hk
  obtain ⟨⟨b, hb, b0⟩, c, hc, c0⟩ := h.q i k hi hk hp
  rw [pos_num ha] at hp
  have := of_decide_eq_true hp
  exact ⟨tm_ok ha hb hc this a2 b0 c0, a, ha, this⟩
theorem CbOk.accK {n m : Nat} {xs R C : List Nat} (h : CbOk n m xs R C) {i s t : Nat} (hi : i < n) (hs : Ac13 s t) (ht : t ≤ 64) : ∀ k, k ≤ m → Ac13 (cbK xs R C m i s k) (t + k)
  | 0, _ => hs
  | k + 1, hk => by
    have h8 := h.m8
    have ih := CbOk.accK h hi hs ht k (by omega)
    rw [cbK, cbStep]
    split
    · rename_i hp
      obtain ⟨q, nq, bq⟩ := (h.tm hi (show k < m by omega) hp).1.tn
      exact (ac13_step ih nq bq (by omega)).2
    · exact ih.more (by omega)
theorem CbOk.accN {n m : Nat} {xs R C : List Nat} (h : CbOk n m xs R C) : ∀ i, i ≤ n → Ac13 (cbN xs R C m i) (i * m)
  | 0, _ => ⟨0, num_zero .f32, by simp, by simp⟩
  | i + 1, hi => by
    have ih := CbOk.accN h i (by omega)
    have hm := Nat.mul_le_mul (show i ≤ 8 by have := h.n8; omega) h.m8
    have := h.accK (show i < n by omega) ih hm m (Nat.le_refl _)
    rw [cbN, Nat.add_mul, Nat.one_mul]; exact this
theorem CbOk.add {n m : Nat} {xs R C : List Nat} (h : CbOk n m xs R C) {i k : Nat} (hi : i < n) (hk : k < m) (hp : posB (xs.getD (i * m + k) 0) = true) :
    floatBits .add .f32 (cbK xs R C m i (cbN xs R C m i) k) (tmW (xs.getD (i * m + k) 0) (R.getD i 0) (C.getD k 0)) = some (cbK xs R C m i (cbN xs R C m i) (k + 1)) := by
  have h8 := h.m8
  have hm := Nat.mul_le_mul (show i ≤ 8 by have := h.n8; omega) h.m8
  have ih := h.accK hi (h.accN i (by omega)) hm k (by omega)
  obtain ⟨q, nq, bq⟩ := (h.tm hi hk hp).1.tn
  rw [cbK, cbStep, if_pos hp]
  exact (ac13_step ih nq bq (by omega)).1
theorem CbOk.fin {n m : Nat} {xs R C : List Nat} (h : CbOk n m xs R C) : ∃ q, Num .f32 (cbN xs R C m n) q := by
  obtain ⟨q, hq, -⟩ := h.accN n (Nat.le_refl _); exact ⟨q, hq⟩
end Go.Proofs.Ytiejljlmbpgbiaa
