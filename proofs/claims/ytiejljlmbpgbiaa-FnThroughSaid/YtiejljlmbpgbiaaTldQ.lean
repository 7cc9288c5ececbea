/- A row and a channel in words near chances: their joint table, its parts, and the told word. Plain; conditions: what each theorem names. -/
import Derived.Test.YtiejljlmbpgbiaaApQ
import Derived.Test.YtiejljlmbpgbiaaTb4
namespace Go.Proofs.Ytiejljlmbpgbiaa
open Ieee
set_option maxRecDepth 100000
set_option linter.unusedVariables false
set_option linter.unusedSimpArgs false

theorem lnb_b : (69 : Rat) / 100 ≤ lnbQ ∧ lnbQ ≤ 7 / 10 := by constructor <;> decide +kernel
theorem lr_lo16 {A : Rat} (h : two (-16) ≤ A) (h1 : A ≤ 1) : -12 ≤ Lr A ∧ Lr A ≤ 1 / 1000 := by
  have hi : In A := in_of (i := -16) (j := 0) (by decide) (by decide) h h1
  have k1 := lr_two (a := 1) (k := -16) ⟨by decide +kernel, by decide +kernel⟩ ⟨by decide +kernel, by decide +kernel⟩
  rw [show two (-16) * 1 = two (-16) by grind, show ((-16 : Int) : Rat) = -16 from rfl] at k1
  have k2 := lr_le (x := two (-16)) ⟨by decide +kernel, by decide +kernel⟩ hi h
  have k3 := lr_top hi h1
  have k4 := lr_one
  have e : ep4 ≤ 1 / 2000 := by decide +kernel
  have l : ln2Q * (-16) ≥ -(116 / 10) := by decide +kernel
  obtain ⟨k1, -⟩ := k1
  obtain ⟨k4, -⟩ := k4
  constructor <;> grind
theorem lr_lo8 {A : Rat} (h : two (-8) ≤ A) (h1 : A ≤ 1) : -(29 / 5) ≤ Lr A ∧ Lr A ≤ 1 / 1000 := by
  have hi : In A := in_of (i := -8) (j := 0) (by decide) (by decide) h h1
  have k1 := lr_two (a := 1) (k := -8) ⟨by decide +kernel, by decide +kernel⟩ ⟨by decide +kernel, by decide +kernel⟩
  rw [show two (-8) * 1 = two (-8) by grind, show ((-8 : Int) : Rat) = -8 from rfl] at k1
  have k2 := lr_le (x := two (-8)) ⟨by decide +kernel, by decide +kernel⟩ hi h
  have k3 := lr_top hi h1
  have k4 := lr_one
  have e : ep4 ≤ 1 / 2000 := by decide +kernel
  have l : ln2Q * (-8) ≥ -(57 / 10) := by decide +kernel
  obtain ⟨k1, -⟩ := k1
  obtain ⟨k4, -⟩ := k4
  constructor <;> grind
/-- The bits of a word. -/
theorem bw_near {x : Nat} {A : Rat} (h : WAp 17 x A) (A0 : two (-16) ≤ A) (A1 : A ≤ 1) : ∃ b, Num .f32 (bW x) b ∧ Ab (two (-16)) (b * lnbQ) (Lr A) := by
  obtain ⟨a, ha, pa⟩ := h
  obtain ⟨u1, u2⟩ := pa.dbl (by decide)
  have t16 : two (-16) = 2 * two (-17) := by decide +kernel
  have tp := two_pos (-17)
  have a0 : two (-17) ≤ a := by grind
  have a1 : a ≤ two 1 := by rw [show two 1 = 2 from rfl]; grind
  obtain ⟨l, nl, al⟩ := log_near ha (Rat.le_trans (two_le (by decide)) a0) (Rat.le_trans a1 (two_le (by decide)))
  have lr := pa.lr (Nat.le_refl _) (in_of (by decide) (by decide) a0 a1) (in_of (i := -16) (j := 0) (by decide) (by decide) A0 A1)
  obtain ⟨b1, b2⟩ := lr_lo16 A0 A1
  obtain ⟨c1, c2⟩ := lnb_b
  have t : two (-17) = 4 * two (-19) ∧ two (-18) = 2 * two (-19) ∧ ep4 ≤ two (-19) := by refine ⟨?_, ?_, ?_⟩ <;> decide +kernel
  have tp := two_pos (-19)
  have t3 : two (-19) ≤ 1 / 1000 := by decide +kernel
  obtain ⟨al1, al2⟩ := al
  obtain ⟨lr1, lr2⟩ := lr
  have hq := Rat.div_mul_cancel (a := l) (b := lnbQ) (by grind)
  obtain ⟨d, hd⟩ : ∃ d, l / lnbQ = d := ⟨_, rfl⟩
  have q5 : two 5 = 32 := by decide +kernel
  have l1 : -13 ≤ l ∧ l ≤ 1 := by constructor <;> grind
  rw [hd] at hq
  have d1 : -20 ≤ d := Rat.not_lt.1 fun hn => by
    have := Rat.mul_lt_mul_of_pos_right hn (show 0 < lnbQ by grind); grind
  have d2 : d ≤ 20 := Rat.not_lt.1 fun hn => by
    have := Rat.mul_lt_mul_of_pos_right hn (show 0 < lnbQ by grind); grind
  obtain ⟨-, b, nb, rb⟩ := div_o nl num_lnb (by have := lnb_bd; grind) (k0 := 5) (by decide) (by decide) (by rw [hd]; exact ⟨by grind, by grind⟩)
  rw [hd] at rb
  have q1 : two (-19 + 24) = 32 := by decide +kernel
  obtain ⟨e1, e2⟩ := near32 (-19) (by decide) rb (by rw [q1]; grind) (by rw [q1]; grind)
  refine ⟨b, nb, ?_⟩
  have m1 := Rat.mul_le_mul_of_nonneg_right e1 (show 0 ≤ lnbQ by grind)
  have m2 := Rat.mul_le_mul_of_nonneg_right e2 (show 0 ≤ lnbQ by grind)
  have m3 := Rat.mul_le_mul_of_nonneg_left c2 (show 0 ≤ two (-19) by grind)
  constructor <;> grind
def dT : Rat := 6 * two (-15)
def gT : Rat := two (-18)
theorem bw_rng {b L : Rat} (h : Ab (two (-16)) (b * lnbQ) L) (h1 : -12 ≤ L) (h2 : L ≤ 1 / 1000) : -18 ≤ b ∧ b ≤ 1 / 100 := by
  obtain ⟨c1, c2⟩ := lnb_b
  obtain ⟨k1, k2⟩ := h
  have t : two (-16) ≤ 1 / 1000 := by decide +kernel
  constructor
  · exact Rat.not_lt.1 fun hn => by
      have := Rat.mul_lt_mul_of_pos_right hn (show 0 < lnbQ by grind); grind
  · exact Rat.not_lt.1 fun hn => by
      have := Rat.mul_lt_mul_of_pos_right hn (show 0 < lnbQ by grind); grind
/-- One term. -/
theorem tm_near {p x c : Nat} {X Y C : Rat} (hp : WAp 17 p (X * Y)) (hx : WAp 17 x X) (hc : WAp 17 c C) (X0 : two (-8) ≤ X) (X1 : X ≤ 1) (Y0 : two (-8) ≤ Y) (Y1 : Y ≤ 1) (C0 : two (-8) ≤ C) (C1 : C ≤ 1) :
    ∃ t, Num .f32 (tmW p x c) t ∧ Ab (X * Y * dT + two (-19)) (t * lnbQ) (X * Y * (Lr Y - Lr C)) ∧ -(6 * (X * Y)) ≤ X * Y * (Lr Y - Lr C) ∧ X * Y * (Lr Y - Lr C) ≤ 6 * (X * Y) ∧ 0 < X * Y := by
  obtain ⟨⟨m1, m2⟩, -⟩ := pr_mul X0 X1 Y0 Y1
  have p8 := two_pos (-8)
  have e8 : two (-16) = two (-8) * two (-8) := by rw [← two_add]; rfl
  have w0 := Rat.mul_le_mul_of_nonneg_right X0 (show 0 ≤ Y by grind)
  have w1 := Rat.mul_le_mul_of_nonneg_left Y0 (Rat.le_of_lt p8)
  have w2 := Rat.mul_le_mul_of_nonneg_right X1 (show 0 ≤ Y by grind)
  have w3 : two (-16) ≤ X * Y := by grind
  have w4 : X * Y ≤ 1 := by grind
  have p16 := two_pos (-16)
  have wp : 0 < X * Y := by grind
  obtain ⟨b1, n1, a1⟩ := bw_near hp w3 w4
  obtain ⟨b2, n2, a2⟩ := bw_near hx (Rat.le_trans (two_le (by decide)) X0) X1
  obtain ⟨b3, n3, a3⟩ := bw_near hc (Rat.le_trans (two_le (by decide)) C0) C1
  obtain ⟨r1, r2⟩ := bw_rng a1 (lr_lo16 w3 w4).1 (lr_lo16 w3 w4).2
  obtain ⟨x1, x2⟩ := lr_lo8 X0 X1
  obtain ⟨y1, y2⟩ := lr_lo8 Y0 Y1
  obtain ⟨z1, z2⟩ := lr_lo8 C0 C1
  obtain ⟨r3, r4⟩ := bw_rng a2 (by grind) x2
  obtain ⟨r5, r6⟩ := bw_rng a3 (by grind) z2
  clear hx hc w0 w1 w2 e8
  have r7 : -9 ≤ b3 := by
    obtain ⟨c1, c2⟩ := lnb_b
    obtain ⟨k1, k2⟩ := a3
    have t : two (-16) ≤ 1 / 1000 := by decide +kernel
    exact Rat.not_lt.1 fun hn => by
      have := Rat.mul_lt_mul_of_pos_right hn (show 0 < lnbQ by grind); grind
  have q5 : two 5 = 32 := by decide +kernel
  have q1 : two (-19 + 24) = 32 := by decide +kernel
  obtain ⟨-, d1, nd1, rd1⟩ := sub_o n1 n2 (k0 := 5) (by decide) ⟨by rw [q5]; grind, by rw [q5]; grind⟩
  obtain ⟨g1, g2⟩ := near32 (-19) (by decide) rd1 (by rw [q1]; grind) (by rw [q1]; grind)
  have t19 : two (-19) ≤ 1 / 1000 := by decide +kernel
  obtain ⟨-, d2, nd2, rd2⟩ := sub_o nd1 n3 (k0 := 5) (by decide) ⟨by rw [q5]; grind, by rw [q5]; grind⟩
  obtain ⟨g3, g4⟩ := near32 (-19) (by decide) rd2 (by rw [q1]; grind) (by rw [q1]; grind)
  obtain ⟨c1, c2⟩ := lnb_b
  have tt : two (-15) = 16 * two (-19) ∧ two (-16) = 8 * two (-19) ∧ two (-17) = 4 * two (-19) := by refine ⟨?_, ?_, ?_⟩ <;> decide +kernel
  have tp := two_pos (-19)
  have hD : Ab (3 * two (-15)) (d2 * lnbQ) (Lr Y - Lr C) := by
    obtain ⟨u1, u2⟩ := a1
    obtain ⟨u3, u4⟩ := a2
    obtain ⟨u5, u6⟩ := a3
    have v1 := Rat.mul_le_mul_of_nonneg_right (show d2 ≤ b1 - b2 - b3 + 2 * two (-19) by grind) (show 0 ≤ lnbQ by grind)
    have v2 := Rat.mul_le_mul_of_nonneg_right (show b1 - b2 - b3 ≤ d2 + 2 * two (-19) by grind) (show 0 ≤ lnbQ by grind)
    have v3 := Rat.mul_le_mul_of_nonneg_left c2 (show 0 ≤ two (-19) by grind)
    constructor <;> grind
  clear a1 a2 a3 g1 g2 g3 g4 rd1 rd2 nd1 m1 m2
  obtain ⟨p', np, ap⟩ := hp
  have an := ap.near (Nat.le_refl _)
  have ae : Ab (two (-17) * (X * Y)) p' (X * Y) := an
  have pq := ap.q
  have t17 : two (-17) ≤ 1 / 4 := by decide +kernel
  have t17p := two_pos (-17)
  generalize X * Y = P at *
  have pP : p' ≤ 5 / 4 * P := by
    obtain ⟨k1, -⟩ := an
    have := Rat.mul_le_mul_of_nonneg_right t17 (Rat.le_of_lt wp); grind
  have hm := Ab.mul (A := 5 / 4 * P) (B := 6) ae hD ⟨by grind, pP⟩ ⟨by grind, by grind⟩ (by have := Rat.mul_pos t17p wp; grind) (by grind)
  -- the product
  have l6 : -7 ≤ d2 * lnbQ ∧ d2 * lnbQ ≤ 7 := by obtain ⟨k1, k2⟩ := hD; constructor <;> grind
  have d2a : -(21 / 2) ≤ d2 := Rat.not_lt.1 fun hn => by
    have := Rat.mul_lt_mul_of_pos_right hn (show 0 < lnbQ by grind); grind
  have d2b : d2 ≤ 21 / 2 := Rat.not_lt.1 fun hn => by
    have := Rat.mul_lt_mul_of_pos_right hn (show 0 < lnbQ by grind); grind
  have pd1 : -15 ≤ p' * d2 := by
    have k1 := Rat.mul_le_mul_of_nonneg_left d2a (Rat.le_of_lt pq); grind
  have pd2 : p' * d2 ≤ 15 := by
    have k1 := Rat.mul_le_mul_of_nonneg_left d2b (Rat.le_of_lt pq); grind
  obtain ⟨-, t, nt, rt⟩ := mul_o np nd2 (k0 := 5) (by decide) ⟨by rw [q5]; grind, by rw [q5]; grind⟩
  obtain ⟨s1, s2⟩ := near32 (-19) (by decide) rt (by rw [q1]; grind) (by rw [q1]; grind)
  refine ⟨t, nt, ?_, ?_, ?_, wp⟩
  · have v1 := Rat.mul_le_mul_of_nonneg_right s1 (show 0 ≤ lnbQ by grind)
    have v2 := Rat.mul_le_mul_of_nonneg_right s2 (show 0 ≤ lnbQ by grind)
    have v3 := Rat.mul_le_mul_of_nonneg_left c2 (show 0 ≤ two (-19) by grind)
    have tP := Rat.mul_pos tp wp
    obtain ⟨h1, h2⟩ := hm
    generalize Lr Y - Lr C = D at *
    have ed : P * dT = 96 * (two (-19) * P) := by unfold dT; rw [tt.1]; grind
    rw [ed]
    rw [tt.1, tt.2.2] at h1 h2
    constructor <;> grind
  · have := Rat.mul_le_mul_of_nonneg_left (show -6 ≤ Lr Y - Lr C by grind) (Rat.le_of_lt wp); grind
  · have := Rat.mul_le_mul_of_nonneg_left (show Lr Y - Lr C ≤ 6 by grind) (Rat.le_of_lt wp); grind
/-- A running sum. -/
def Cb (s : Nat) (w : Rat) (c : Nat) (e : Rat) : Prop := ∃ q, Num .f32 s q ∧ Ab (w * dT + c * gT) (q * lnbQ) e ∧ -(6 * w) ≤ e ∧ e ≤ 6 * w
theorem cb_zero : Cb 0 0 0 0 := ⟨0, num_zero .f32, by rw [show ((0 : Nat) : Rat) = 0 from rfl]; constructor <;> grind, by grind, by grind⟩
theorem cb_step {s t : Nat} {w P e f T : Rat} {c : Nat} (h : Cb s w c e) (nt : Num .f32 t T) (at' : Ab (P * dT + two (-19)) (T * lnbQ) f) (f1 : -(6 * P) ≤ f) (f2 : f ≤ 6 * P) (P0 : 0 ≤ P) (hw : w + P ≤ 1) (w0 : 0 ≤ w) (hc : c ≤ 64) : Cb (fadd .f32 s t) (w + P) (c + 1) (e + f) := by
  obtain ⟨q, nq, aq, e1, e2⟩ := h
  obtain ⟨c1, c2⟩ := lnb_b
  have dd : 0 ≤ dT ∧ dT ≤ 1 / 1000 := by constructor <;> decide +kernel
  have gg : 0 ≤ gT ∧ gT ≤ 1 / 100000 := by constructor <;> decide +kernel
  have t19 : two (-19) ≤ 1 / 1000 := by decide +kernel
  have tt : gT = 2 * two (-19) := by decide +kernel
  have tp := two_pos (-19)
  have cc : (c : Rat) ≤ 64 := by rw [show (64 : Rat) = ((64 : Nat) : Rat) from rfl, Rat.natCast_le_natCast]; exact hc
  have c0 : (0 : Rat) ≤ c := Rat.natCast_nonneg
  have k1 := Rat.mul_le_mul_of_nonneg_right (show w ≤ 1 by grind) dd.1
  have k2 := Rat.mul_le_mul_of_nonneg_right cc gg.1
  have k3 := Rat.mul_le_mul_of_nonneg_right (show P ≤ 1 by grind) dd.1
  have e' : ((c + 1 : Nat) : Rat) = c + 1 := by rw [Rat.natCast_add]; rfl
  obtain ⟨h1, h2⟩ := aq
  obtain ⟨h3, h4⟩ := at'
  have qa : -8 ≤ (q + T) * lnbQ ∧ (q + T) * lnbQ ≤ 8 := by constructor <;> grind
  have qa1 : -15 ≤ q + T := Rat.not_lt.1 fun hn => by
    have := Rat.mul_lt_mul_of_pos_right hn (show 0 < lnbQ by grind); grind
  have qa2 : q + T ≤ 15 := Rat.not_lt.1 fun hn => by
    have := Rat.mul_lt_mul_of_pos_right hn (show 0 < lnbQ by grind); grind
  have q5 : two 5 = 32 := by decide +kernel
  have q1 : two (-19 + 24) = 32 := by decide +kernel
  obtain ⟨-, r, nr, rr⟩ := add_o nq nt (k0 := 5) (by decide) ⟨by rw [q5]; grind, by rw [q5]; grind⟩
  obtain ⟨s1, s2⟩ := near32 (-19) (by decide) rr (by rw [q1]; grind) (by rw [q1]; grind)
  have v1 := Rat.mul_le_mul_of_nonneg_right s1 (show 0 ≤ lnbQ by grind)
  have v2 := Rat.mul_le_mul_of_nonneg_right s2 (show 0 ≤ lnbQ by grind)
  have v3 := Rat.mul_le_mul_of_nonneg_left c2 (show 0 ≤ two (-19) by grind)
  refine ⟨r, nr, ?_, by grind, by grind⟩
  rw [e']
  constructor <;> grind
end Go.Proofs.Ytiejljlmbpgbiaa
namespace Go.Proofs.Ytiejljlmbpgbiaa
open Ieee
set_option maxRecDepth 100000
set_option linter.unusedVariables false
set_option linter.unusedSimpArgs false

structure Tld (j l n m : Nat) (row xs : List Nat) (X : Nat → Rat) (Y : Nat → Nat → Rat) : Prop where
  n1 : 1 ≤ n
  n8 : n ≤ 8
  m1 : 1 ≤ m
  m8 : m ≤ 8
  nm : n * m ≤ 36
  jl : j + l ≤ 8
  rl : row.length = n
  xl : xs.length = n * m
  r : ∀ i, i < n → WAp j (row.getD i 0) (X i)
  x : ∀ i k, i < n → k < m → WAp l (xs.getD (i * m + k) 0) (Y i k)
  pX : Pr X n
  pY : ∀ i, i < n → Pr (Y i) m
theorem two20 {A : Rat} (h : two (-8) ≤ A) : two (-20) ≤ A := Rat.le_trans (two_le (by decide)) h
section
variable {j l n m : Nat} {row xs : List Nat} {X : Nat → Rat} {Y : Nat → Nat → Rat}
theorem Tld.chan (h : Tld j l n m row xs X Y) : ChanOk n m xs := by
  have h1 := h.jl
  have h2 := h.m8
  refine ⟨h.n1, h.n8, h.m1, h.m8, h.xl, fun i hi => ?_⟩
  refine row_ap (j := l) (A := Y i) (rowL_len h.xl hi) (fun k hk => ?_) (fun k hk => two20 ((h.pY i hi).lo k hk)) (by omega) h.m1 (by omega) (h.pY i hi).sum
  rw [List.getD_eq_getElem?_getD, rowL_get h.xl hi hk]
  exact h.x i k hi hk
theorem Tld.rowk (h : Tld j l n m row xs X Y) : isRowW row = true := by
  have h1 := h.jl
  have h2 := h.n8
  exact row_ap (j := j) h.rl h.r (fun k hk => two20 (h.pX.lo k hk)) (by omega) h.n1 (by omega) h.pX.sum
theorem Tld.jw (h : Tld j l n m row xs X Y) (i k : Nat) (hi : i < n) (hk : k < m) : WAp (j + l + 1) ((jL row xs n m).getD (i * m + k) 0) (X i * Y i k) := by
  have h1 := h.jl
  unfold jL
  rw [gridA_get _ _ _ _ _ hi hk]
  exact wap_mul (h.r i hi) (h.x i k hi hk) (by omega) (two20 (h.pX.lo i hi)) (h.pX.le hi) (two20 ((h.pY i hi).lo k hk)) ((h.pY i hi).le hk)
theorem Tld.jlo (h : Tld j l n m row xs X Y) (i k : Nat) (hi : i < n) (hk : k < m) : two (-20) ≤ X i * Y i k ∧ X i * Y i k ≤ 1 := by
  have p8 := two_pos (-8)
  have e8 : two (-16) = two (-8) * two (-8) := by rw [← two_add]; rfl
  have hY := h.pY i hi
  have w0 := Rat.mul_le_mul_of_nonneg_right (h.pX.lo i hi) (Rat.le_of_lt (hY.pos hk))
  have w1 := Rat.mul_le_mul_of_nonneg_left (hY.lo k hk) (Rat.le_of_lt p8)
  have w2 := Rat.mul_le_mul_of_nonneg_right (h.pX.le hi) (Rat.le_of_lt (hY.pos hk))
  have := two_le (show (-20 : Int) ≤ -16 by decide)
  have := hY.le hk
  constructor <;> grind
theorem jL_len (row xs : List Nat) (n m : Nat) : (jL row xs n m).length = n * m := gridA_len _ _ _
theorem Tld.rw' (h : Tld j l n m row xs X Y) (i : Nat) (hi : i < n) : WAp 17 ((rsL (jL row xs n m) n m).getD i 0) (X i) := by
  have h1 := h.jl
  have h2 := h.m8
  have e : (rsL (jL row xs n m) n m).getD i 0 = sumF 0 (rowL (jL row xs n m) m i) := by simp [rsL, hi]
  have s : Sm (fun k => X i * Y i k) m = X i := by rw [sm_mul, (h.pY i hi).sum]; grind
  have := wap_all (j := j + l + 1) (n := m) (xs := rowL (jL row xs n m) m i) (A := fun k => X i * Y i k) (rowL_len (jL_len _ _ _ _) hi) (fun k hk => by
    rw [List.getD_eq_getElem?_getD, rowL_get (jL_len _ _ _ _) hi hk]; exact h.jw i k hi hk) (fun k hk => h.jlo i k hi hk) (by omega) h.m1
  rw [s] at this
  rw [e]; exact this.more (by omega)
theorem Tld.cw (h : Tld j l n m row xs X Y) (k : Nat) (hk : k < m) : WAp 17 ((rsL (turnL (jL row xs n m) n m) m n).getD k 0) (ou X Y n k) := by
  have h1 := h.jl
  have h2 := h.n8
  have e : (rsL (turnL (jL row xs n m) n m) m n).getD k 0 = sumF 0 (rowL (turnL (jL row xs n m) n m) n k) := by simp [rsL, hk]
  have := wap_all (j := j + l + 1) (n := n) (xs := rowL (turnL (jL row xs n m) n m) n k) (A := fun i => X i * Y i k) (by rw [turnL, gridA_row _ _ _ _ hk]; simp) (fun i hi => by
    rw [turnL, gridA_row _ _ _ _ hk]
    have := h.jw i k hi hk
    simpa [hi] using this) (fun i hi => h.jlo i k hi hk) (by omega) h.n1
  rw [e]; exact this.more (by omega)
theorem Tld.tab (h : Tld j l n m row xs X Y) : TabN n m (jL row xs n m) := by
  refine ⟨h.n1, h.n8, h.m1, h.m8, jL_len _ _ _ _, fun x hx => ?_⟩
  obtain ⟨i, k, hi, hk, rfl⟩ := gridA_mem _ _ _ _ hx
  have := h.jw i k hi hk
  unfold jL at this
  rw [gridA_get _ _ _ _ _ hi hk] at this
  obtain ⟨a, ha, -⟩ := this
  exact ⟨a, ha⟩
theorem Tld.one (h : Tld j l n m row xs X Y) : oneW (jL row xs n m) = true := by
  have h1 := h.jl
  have h2 := h.nm
  have h3 := Nat.mul_pos h.n1 h.m1
  have hs : Sm (fun t => X (t / m) * Y (t / m) (t % m)) (n * m) = 1 := by
    rw [sm_two (fun i k => X i * Y i k)]; exact ou_all h.pX h.pY
  refine one_ap (j := j + l + 1) (n := n * m) (A := fun t => X (t / m) * Y (t / m) (t % m)) (jL_len _ _ _ _) (fun t ht => ?_) (fun t ht => ?_) (by omega) (by omega) hs
  · obtain ⟨a, b⟩ := div_lt' ht
    have := h.jw _ _ a b
    rwa [show t / m * m + t % m = t by have := Nat.div_add_mod t m; rw [Nat.mul_comm] at this; exact this] at this
  · obtain ⟨a, b⟩ := div_lt' ht
    exact (h.jlo _ _ a b).1
theorem Tld.rr (h : Tld j l n m row xs X Y) : isRowW (rsL (jL row xs n m) n m) = true := by
  have h2 := h.n8
  exact row_ap (rsL_len _ _ _) (fun i hi => h.rw' i hi) (fun i hi => two20 (h.pX.lo i hi)) (by omega) h.n1 (by omega) h.pX.sum
theorem Tld.rc (h : Tld j l n m row xs X Y) : isRowW (rsL (turnL (jL row xs n m) n m) m n) = true := by
  have h2 := h.m8
  have hC := ou_pr h.pX h.pY
  exact row_ap (rsL_len _ _ _) (fun i hi => h.cw i hi) (fun i hi => two20 (hC.lo i hi)) (by omega) h.m1 (by omega) hC.sum
theorem Tld.cb (h : Tld j l n m row xs X Y) : CbOk n m (jL row xs n m) (rsL (jL row xs n m) n m) (rsL (turnL (jL row xs n m) n m) m n) := by
  have h1 := h.jl
  exact ⟨h.n8, h.m8, jL_len _ _ _ _, rsL_len _ _ _, rsL_len _ _ _, fun i k hi hk => (h.jw i k hi hk).ch (by omega) (h.jlo i k hi hk).2, fun i k hi hk _ => ⟨(h.rw' i hi).pos, (h.cw k hk).pos⟩⟩
/-- The word that is told. -/
def tdW (row xs : List Nat) (n m : Nat) : Nat := cbN (jL row xs n m) (rsL (jL row xs n m) n m) (rsL (turnL (jL row xs n m) n m) m n) m n
theorem Tld.accK (h : Tld j l n m row xs X Y) (i : Nat) (hi : i < n) {s : Nat} {w e : Rat} (h0 : Cb s w (i * m) e) (w0 : 0 ≤ w) (hw : w + Sm (fun k => X i * Y i k) m ≤ 1) : ∀ k, k ≤ m →
    Cb (cbK (jL row xs n m) (rsL (jL row xs n m) n m) (rsL (turnL (jL row xs n m) n m) m n) m i s k) (w + Sm (fun k => X i * Y i k) k) (i * m + k) (e + Sm (fun k => X i * Y i k * (Lr (Y i k) - Lr (ou X Y n k))) k)
  | 0, _ => by
    show Cb s (w + 0) (i * m) (e + 0)
    rw [Rat.add_zero, Rat.add_zero]; exact h0
  | k + 1, hk => by
    have hC := ou_pr h.pX h.pY
    have h1 := h.jl
    have h2 := h.nm
    have ih := Tld.accK h i hi h0 w0 hw k (by omega)
    have hjw := h.jw i k hi (by omega)
    obtain ⟨t, nt, at', f1, f2, P0⟩ := tm_near (hjw.more (by omega)) (h.rw' i hi) (h.cw k (by omega)) (h.pX.lo i hi) (h.pX.le hi) ((h.pY i hi).lo k (by omega)) ((h.pY i hi).le (by omega)) (hC.lo k (by omega)) (hC.le (by omega))
    have hs : ∀ k, k ≤ m → 0 ≤ Sm (fun k => X i * Y i k) k := fun k hk => sm_nonneg fun t ht => Rat.le_of_lt (Rat.mul_pos (h.pX.pos hi) ((h.pY i hi).pos (by omega)))
    have mono : Sm (fun k => X i * Y i k) (k + 1) ≤ Sm (fun k => X i * Y i k) m := by
      obtain ⟨d, hd⟩ := Nat.le.dest hk
      rw [← hd, sm_more (fun k => X i * Y i k) (k + 1) d]
      have := sm_nonneg (f := fun t => X i * Y i (k + 1 + t)) (n := d) fun t ht => Rat.le_of_lt (Rat.mul_pos (h.pX.pos hi) ((h.pY i hi).pos (by omega)))
      grind
    have hat := at_lt (n := n) (m := m) hi (show k < m by omega)
    rw [cbK, cbStep, if_pos hjw.posB]
    have e1 : w + Sm (fun k => X i * Y i k) (k + 1) = (w + Sm (fun k => X i * Y i k) k) + X i * Y i k := by rw [Sm]; grind
    have e2 : e + Sm (fun k => X i * Y i k * (Lr (Y i k) - Lr (ou X Y n k))) (k + 1) = (e + Sm (fun k => X i * Y i k * (Lr (Y i k) - Lr (ou X Y n k))) k) + X i * Y i k * (Lr (Y i k) - Lr (ou X Y n k)) := by rw [Sm]; grind
    rw [e1, e2]
    exact cb_step (c := i * m + k) ih nt at' f1 f2 (Rat.le_of_lt P0) (by rw [← e1]; exact Rat.le_trans (by rw [Rat.add_comm w, Rat.add_comm w]; exact (Rat.add_le_add_right).2 mono) hw) (by have := hs k (by omega); grind) (by omega)
theorem Tld.accN (h : Tld j l n m row xs X Y) : ∀ i, i ≤ n → Cb (cbN (jL row xs n m) (rsL (jL row xs n m) n m) (rsL (turnL (jL row xs n m) n m) m n) m i) (Sm (fun i => Sm (fun k => X i * Y i k) m) i) (i * m) (Sm (fun i => Sm (fun k => X i * Y i k * (Lr (Y i k) - Lr (ou X Y n k))) m) i)
  | 0, _ => by
    show Cb 0 0 (0 * m) 0
    rw [Nat.zero_mul]; exact cb_zero
  | i + 1, hi => by
    have ih := Tld.accN h i (by omega)
    have nn : ∀ i, i < n → 0 ≤ Sm (fun k => X i * Y i k) m := fun i hi => sm_nonneg fun t ht => Rat.le_of_lt (Rat.mul_pos (h.pX.pos hi) ((h.pY i hi).pos (by omega)))
    have mono : Sm (fun i => Sm (fun k => X i * Y i k) m) (i + 1) ≤ 1 := by
      rw [← ou_all h.pX h.pY]
      obtain ⟨d, hd⟩ := Nat.le.dest hi
      have := sm_nonneg (f := fun t => Sm (fun k => X (i + 1 + t) * Y (i + 1 + t) k) m) (n := d) fun t ht => nn _ (by omega)
      rw [← hd, sm_more (fun i => Sm (fun k => X i * Y i k) m) (i + 1) d]
      grind
    rw [Sm] at mono
    have := h.accK i (by omega) ih (sm_nonneg fun t ht => nn t (by omega)) mono m (Nat.le_refl _)
    rw [cbN, Nat.add_mul, Nat.one_mul]
    exact this
/-- The told word, times what a bit costs, is near what is told. -/
theorem Tld.near (h : Tld j l n m row xs X Y) : ∃ t, Num .f32 (tdW row xs n m) t ∧ Ab (dT + (n * m : Nat) * gT) (t * lnbQ) (MI X Y n m) := by
  obtain ⟨q, nq, aq, -, -⟩ := h.accN n (Nat.le_refl _)
  rw [ou_all h.pX h.pY, Rat.one_mul] at aq
  exact ⟨q, nq, aq⟩
end
end Go.Proofs.Ytiejljlmbpgbiaa
