/- What the three fixed channels tell. No conditions. -/
import Derived.Test.YtiejljlmbpgbiaaTldQ
import Derived.Test.YtiejljlmbpgbiaaChdC
import Derived.Test.YtiejljlmbpgbiaaTb6
import Derived.Test.YtiejljlmbpgbiaaRow
import Derived.Test.YtiejljlmbpgbiaaGive
import Derived.Laws.Externs
import Derived.Test.YtiejljlmbpgbiaaMds2
import Derived.Test.YtiejljlmbpgbiaaChnI
namespace Go.Proofs.Ytiejljlmbpgbiaa
open Ieee
set_option maxRecDepth 100000
set_option linter.unusedVariables false
set_option linter.unusedSimpArgs false

def enT (x : Nat) : Nat := fmul .f32 x (bW x)
def enK (xs : List Nat) : Nat → Nat
  | 0 => 0
  | k + 1 => fadd .f32 (enK xs k) (enT (xs.getD k 0))
def entW (xs : List Nat) : Nat := fsub .f32 0 (enK xs xs.length)
structure EnOk (xs : List Nat) : Prop where
  p : ∀ k, k < xs.length → ∃ a, Num .f32 (xs.getD k 0) a ∧ 0 < a
  m : ∀ k, k < xs.length → floatBits .mul .f32 (xs.getD k 0) (bW (xs.getD k 0)) = some (enT (xs.getD k 0))
  a : ∀ k, k < xs.length → floatBits .add .f32 (enK xs k) (enT (xs.getD k 0)) = some (enK xs (k + 1))
  s : floatBits .sub .f32 0 (enK xs xs.length) = some (entW xs)
  f : finW (entW xs) = true
theorem en_term {x : Nat} {X : Rat} (h : WAp 17 x X) (X0 : two (-8) ≤ X) (X1 : X ≤ 1) :
    floatBits .mul .f32 x (bW x) = some (enT x) ∧ ∃ t, Num .f32 (enT x) t ∧ Ab (X * dT + two (-19)) (t * lnbQ) (X * Lr X) ∧ -(6 * X) ≤ X * Lr X ∧ X * Lr X ≤ 6 * X := by
  obtain ⟨b, nb, ab⟩ := bw_near h (Rat.le_trans (two_le (by decide)) X0) X1
  obtain ⟨x1, x2⟩ := lr_lo8 X0 X1
  obtain ⟨c1, c2⟩ := lnb_b
  have p8 := two_pos (-8)
  obtain ⟨a, na, pa⟩ := h
  have an := pa.near (Nat.le_refl _)
  have aq := pa.q
  have wp : 0 < X := pa.p
  have t16 : two (-16) ≤ 1 / 1000 := by decide +kernel
  have t17 : two (-17) ≤ 1 / 4 := by decide +kernel
  have t17p := two_pos (-17)
  have hD : Ab (3 * two (-15)) (b * lnbQ) (Lr X) := ab.more (by decide +kernel)
  have b1 : -9 ≤ b := Rat.not_lt.1 fun hn => by
    have := Rat.mul_lt_mul_of_pos_right hn (show 0 < lnbQ by grind); obtain ⟨k1, k2⟩ := ab; grind
  have b2 : b ≤ 1 := Rat.not_lt.1 fun hn => by
    have := Rat.mul_lt_mul_of_pos_right hn (show 0 < lnbQ by grind); obtain ⟨k1, k2⟩ := ab; grind
  have pP : a ≤ 5 / 4 * X := by
    obtain ⟨k1, -⟩ := an
    have := Rat.mul_le_mul_of_nonneg_right t17 (Rat.le_of_lt wp); grind
  have hm := Ab.mul (A := 5 / 4 * X) (B := 6) an hD ⟨by grind, pP⟩ ⟨by grind, by grind⟩ (by have := Rat.mul_pos t17p wp; grind) (by have := two_pos (-15); grind)
  have q5 : two 5 = 32 := by decide +kernel
  have q1 : two (-19 + 24) = 32 := by decide +kernel
  have pd1 : -15 ≤ a * b := by have k1 := Rat.mul_le_mul_of_nonneg_left b1 (Rat.le_of_lt aq); grind
  have pd2 : a * b ≤ 15 := by have k1 := Rat.mul_le_mul_of_nonneg_left b2 (Rat.le_of_lt aq); grind
  obtain ⟨g, t, nt, rt⟩ := mul_o na nb (k0 := 5) (by decide) ⟨by rw [q5]; grind, by rw [q5]; grind⟩
  obtain ⟨s1, s2⟩ := near32 (-19) (by decide) rt (by rw [q1]; grind) (by rw [q1]; grind)
  refine ⟨g, t, nt, ?_, ?_, ?_⟩
  · have tt : two (-15) = 16 * two (-19) ∧ two (-17) = 4 * two (-19) := by refine ⟨?_, ?_⟩ <;> decide +kernel
    have tp := two_pos (-19)
    have v1 := Rat.mul_le_mul_of_nonneg_right s1 (show 0 ≤ lnbQ by grind)
    have v2 := Rat.mul_le_mul_of_nonneg_right s2 (show 0 ≤ lnbQ by grind)
    have v3 := Rat.mul_le_mul_of_nonneg_left c2 (show 0 ≤ two (-19) by grind)
    have tP := Rat.mul_pos tp wp
    obtain ⟨h1, h2⟩ := hm
    have ed : X * dT = 96 * (two (-19) * X) := by unfold dT; rw [tt.1]; grind
    rw [ed]
    rw [tt.1, tt.2] at h1 h2
    generalize Lr X = D at *
    constructor <;> grind
  · have := Rat.mul_le_mul_of_nonneg_left (show -6 ≤ Lr X by grind) (Rat.le_of_lt wp); grind
  · have := Rat.mul_le_mul_of_nonneg_left (show Lr X ≤ 6 by grind) (Rat.le_of_lt wp); grind
section
variable {n : Nat} {xs : List Nat} {X : Nat → Rat}
theorem en_acc (hl : xs.length = n) (hx : ∀ i, i < n → WAp 17 (xs.getD i 0) (X i)) (hX : Pr X n) (n8 : n ≤ 8) : ∀ k, k ≤ n → Cb (enK xs k) (Sm X k) k (Sm (fun i => X i * Lr (X i)) k)
  | 0, _ => cb_zero
  | k + 1, hk => by
    have ih := en_acc hl hx hX n8 k (by omega)
    obtain ⟨-, t, nt, at', f1, f2⟩ := en_term (hx k (by omega)) (hX.lo k (by omega)) (hX.le (by omega))
    have nn : ∀ i, i < n → 0 ≤ X i := fun i hi => Rat.le_of_lt (hX.pos hi)
    have mono : Sm X (k + 1) ≤ 1 := by
      rw [← hX.sum]
      obtain ⟨d, hd⟩ := Nat.le.dest hk
      have := sm_nonneg (f := fun t => X (k + 1 + t)) (n := d) fun t ht => nn _ (by omega)
      rw [← hd, sm_more X (k + 1) d]; grind
    rw [Sm] at mono
    rw [enK, Sm, Sm]
    exact cb_step ih nt at' f1 f2 (nn k (by omega)) mono (sm_nonneg fun i hi => nn i (by omega)) (by omega)
theorem en_ok (hl : xs.length = n) (hx : ∀ i, i < n → WAp 17 (xs.getD i 0) (X i)) (hX : Pr X n) (n8 : n ≤ 8) : EnOk xs ∧ ∃ E, Num .f32 (entW xs) E ∧ Ab (dT + ((n : Nat) : Rat) * gT) (E * lnbQ) (En X n) := by
  have bd : ∀ {s : Nat} {w e : Rat} {c : Nat}, Cb s w c e → w ≤ 1 → 0 ≤ w → c ≤ 8 → ∃ q, Num .f32 s q ∧ -10 ≤ q ∧ q ≤ 10 := by
    intro s w e c h hw w0 hc
    obtain ⟨q, nq, aq, e1, e2⟩ := h
    obtain ⟨c1, c2⟩ := lnb_b
    have dd : 0 ≤ dT ∧ dT ≤ 1 / 1000 := by constructor <;> decide +kernel
    have gg : 0 ≤ gT ∧ gT ≤ 1 / 100000 := by constructor <;> decide +kernel
    have cc : (c : Rat) ≤ 8 := by rw [show (8 : Rat) = ((8 : Nat) : Rat) from rfl, Rat.natCast_le_natCast]; exact hc
    have k1 := Rat.mul_le_mul_of_nonneg_right hw dd.1
    have k2 := Rat.mul_le_mul_of_nonneg_right cc gg.1
    obtain ⟨h1, h2⟩ := aq
    refine ⟨q, nq, Rat.not_lt.1 fun hn => ?_, Rat.not_lt.1 fun hn => ?_⟩
    · have := Rat.mul_lt_mul_of_pos_right hn (show 0 < lnbQ by grind); grind
    · have := Rat.mul_lt_mul_of_pos_right hn (show 0 < lnbQ by grind); grind
  have nn : ∀ i, i < n → 0 ≤ X i := fun i hi => Rat.le_of_lt (hX.pos hi)
  have w1 : ∀ k, k ≤ n → Sm X k ≤ 1 := by
    intro k hk
    rw [← hX.sum]
    obtain ⟨d, hd⟩ := Nat.le.dest hk
    have := sm_nonneg (f := fun t => X (k + t)) (n := d) fun t ht => nn _ (by omega)
    rw [← hd, sm_more X k d]; grind
  have w0 : ∀ k, k ≤ n → 0 ≤ Sm X k := fun k hk => sm_nonneg fun i hi => nn i (by omega)
  have q5 : two 5 = 32 := by decide +kernel
  obtain ⟨q, nq, q1, q2⟩ := bd (en_acc hl hx hX n8 n (Nat.le_refl _)) (w1 n (Nat.le_refl _)) (w0 n (Nat.le_refl _)) n8
  obtain ⟨g, r, nr, rr⟩ := sub_o (num_zero .f32) nq (k0 := 5) (by decide) ⟨by rw [q5]; grind, by rw [q5]; grind⟩
  have ex : r = -q := by
    have := rr.exact (by rw [show (0 : Rat) - q = -q by grind]; exact nq.rep.neg)
    grind
  subst hl
  refine ⟨⟨fun k hk => (hx k hk).pos, fun k hk => (en_term (hx k hk) (hX.lo k hk) (hX.le hk)).1, fun k hk => ?_, g, fin_num nr⟩, r, nr, ?_⟩
  · obtain ⟨q', nq', q1', q2'⟩ := bd (en_acc rfl hx hX n8 k (by omega)) (w1 k (by omega)) (w0 k (by omega)) (by omega)
    obtain ⟨-, t, nt, at', f1, f2⟩ := en_term (hx k hk) (hX.lo k hk) (hX.le hk)
    obtain ⟨c1, c2⟩ := lnb_b
    have d1 : dT ≤ 1 / 1000 := by decide +kernel
    have d0 : 0 ≤ dT := by decide +kernel
    have t19 : two (-19) ≤ 1 / 1000 := by decide +kernel
    have xk := hX.le hk
    have k1 := Rat.mul_le_mul_of_nonneg_right xk d0
    obtain ⟨h1, h2⟩ := at'
    have t1 : -10 ≤ t := Rat.not_lt.1 fun hn => by
      have := Rat.mul_lt_mul_of_pos_right hn (show 0 < lnbQ by grind); grind
    have t2 : t ≤ 10 := Rat.not_lt.1 fun hn => by
      have := Rat.mul_lt_mul_of_pos_right hn (show 0 < lnbQ by grind); grind
    exact (add_o nq' nt (k0 := 5) (by decide) ⟨by rw [q5]; grind, by rw [q5]; grind⟩).1
  · obtain ⟨q', nq', aq, -, -⟩ := en_acc rfl hx hX n8 xs.length (Nat.le_refl _)
    have := nq'.unique nq
    subst this
    rw [hX.sum, Rat.one_mul] at aq
    have e : En X xs.length = 0 - Sm (fun i => X i * Lr (X i)) xs.length := by
      have z := sm_sub (fun _ => 0) (fun i => X i * Lr (X i)) xs.length
      rw [sm_zero] at z
      rw [← z]
      exact sm_congr fun i _ => by grind
    rw [e, ex]
    obtain ⟨h1, h2⟩ := aq
    constructor <;> grind
end
end Go.Proofs.Ytiejljlmbpgbiaa
namespace Go.Proofs.Ytiejljlmbpgbiaa
open Ieee
set_option maxRecDepth 100000
set_option linter.unusedVariables false
set_option linter.unusedSimpArgs false

theorem num_0001 : Num .f64 4547007122018943789 (7378697629483821 * two (-66)) := ⟨false, 7378697629483821, -66, by decide +kernel, by decide +kernel⟩
theorem num_m001 : Num .f64 13785626545772145148 (-milQ) := ⟨true, 4611686018427388, -62, by decide +kernel, by decide +kernel⟩
theorem q0001 : (99 : Rat) / 1000000 ≤ 7378697629483821 * two (-66) := by decide +kernel
theorem gt_gt {a b : Rat} (h : b < a) : (some (cmpQ a b) == some Ordering.gt) = true := by rw [cmp_gt.2 h]; rfl
/-- A product in 64 bits. -/
def pW (row xs : List Nat) (m k i : Nat) : Nat := fmul .f64 (fup (row.getD i 0)) (fup (xs.getD (i * m + k) 0))
def smW (row xs : List Nat) (m k : Nat) : Nat → Nat
  | 0 => 0
  | i + 1 => fadd .f64 (smW row xs m k i) (pW row xs m k i)
/-- Near in 64 bits. -/
structure Gp (x y : Nat) : Prop where
  n : ∃ a b, Num .f64 x a ∧ Num .f64 y b ∧ Ab 200 a b
  g : (FloatKind.f64.format.order (gapW x y) 4547007122018943789 == some .gt) = false
theorem gp_of {x y : Nat} {a b d : Rat} (hx : Num .f64 x a) (hy : Num .f64 y b) (h : Ab d a b) (hd : d ≤ 98 / 1000000) : Gp x y := by
  refine ⟨⟨a, b, hx, hy, h.more (by grind)⟩, ?_⟩
  obtain ⟨g, hg, g1⟩ := gap_num hx hy h (by grind)
  have t45 : two (-45) ≤ 1 / 1000000 := by decide +kernel
  have := q0001
  rw [order_num hg num_0001]
  exact lt_gt (by grind)
section
variable {n m : Nat} {row xs : List Nat} {X : Nat → Rat} {Y : Nat → Nat → Rat}
structure PrOk (row xs : List Nat) (m k i : Nat) (P : Rat) : Prop where
  u1 : floatToFloatBits .f32 (row.getD i 0) .f64 = some (fup (row.getD i 0))
  u2 : floatToFloatBits .f32 (xs.getD (i * m + k) 0) .f64 = some (fup (xs.getD (i * m + k) 0))
  p : floatBits .mul .f64 (fup (row.getD i 0)) (fup (xs.getD (i * m + k) 0)) = some (pW row xs m k i)
  n : ∃ q, Num .f64 (pW row xs m k i) q ∧ Ab (two (-17) * P + two (-45)) q P ∧ 0 ≤ q ∧ q ≤ 3
  j : floatToFloatBits .f32 (jF row xs m i k) .f64 = some (fup (jF row xs m i k))
  g : Gp (fup (jF row xs m i k)) (pW row xs m k i)
theorem Tld.pr (h : Tld 1 1 n m row xs X Y) (i k : Nat) (hi : i < n) (hk : k < m) : PrOk row xs m k i (X i * Y i k) := by
  obtain ⟨a, na, pa⟩ := h.r i hi
  obtain ⟨b, nb, pb⟩ := h.x i k hi hk
  obtain ⟨l1, l2⟩ := h.jlo i k hi hk
  have pm := pa.mul pb
  obtain ⟨u1, u2⟩ := pm.dbl (by decide)
  have hn := pm.near (by decide)
  have q1 := pm.q
  obtain ⟨g, q, nq, rq⟩ := mul_o (up_o na).2 (up_o nb).2 (k0 := 8) (by decide) (bd8 (by grind) (by grind))
  obtain ⟨r1, r2⟩ := r64 rq (by grind) (by grind)
  have q8 : two 2 = 4 := by decide +kernel
  obtain ⟨-, j, nj, rj⟩ := mul_o na nb (k0 := 2) (by decide) (bd_of (Rat.le_of_lt q1) (by rw [q8]; grind))
  have q22' : two (-22 + 24) = 4 := by decide +kernel
  obtain ⟨s1, s2⟩ := near32 (-22) (by decide) rj (by rw [q22']; grind) (by rw [q22']; grind)
  have t45 : two (-45) ≤ 1 / 1000000 := by decide +kernel
  have t22 : two (-22) ≤ 1 / 1000000 := by decide +kernel
  refine ⟨(up_o na).1, (up_o nb).1, g, ⟨q, nq, ?_, rq.nonneg (Rat.le_of_lt q1), by grind⟩, (up_o nj).1, gp_of (d := 2 / 1000000) (up_o nj).2 nq ⟨by grind, by grind⟩ (by decide +kernel)⟩
  obtain ⟨h1, h2⟩ := hn
  constructor <;> grind
/-- The running sum in 64 bits. -/
def Sg (s : Nat) (S : Rat) (i : Nat) : Prop := ∃ q, Num .f64 s q ∧ Ab (two (-17) * S + (i : Rat) * two (-44)) q S
theorem Tld.part (h : Tld 1 1 n m row xs X Y) (k : Nat) (hk : k < m) (i : Nat) (hi : i ≤ n) : 0 ≤ Sm (fun i => X i * Y i k) i ∧ Sm (fun i => X i * Y i k) i ≤ 1 := by
  have hC := ou_pr h.pX h.pY
  have nn : ∀ i, i < n → 0 ≤ X i * Y i k := fun i hi => Rat.le_of_lt (Rat.mul_pos (h.pX.pos hi) ((h.pY i hi).pos hk))
  refine ⟨sm_nonneg fun j hj => nn j (by omega), Rat.le_trans ?_ (hC.le hk)⟩
  unfold ou
  obtain ⟨d, hd⟩ := Nat.le.dest hi
  have := sm_nonneg (f := fun t => X (i + t) * Y (i + t) k) (n := d) fun t ht => nn _ (by omega)
  rw [← hd, sm_more (fun i => X i * Y i k) i d]; grind
theorem Tld.sums (h : Tld 1 1 n m row xs X Y) (k : Nat) (hk : k < m) : ∀ i, i ≤ n → Sg (smW row xs m k i) (Sm (fun i => X i * Y i k) i) i ∧ (∀ i', i' < i → floatBits .add .f64 (smW row xs m k i') (pW row xs m k i') = some (smW row xs m k (i' + 1)))
  | 0, _ => ⟨⟨0, num_zero .f64, by rw [show ((0 : Nat) : Rat) = 0 from rfl, show Sm (fun i => X i * Y i k) 0 = 0 from rfl]; constructor <;> grind⟩, fun i' hi => absurd hi (by omega)⟩
  | i + 1, hi => by
    obtain ⟨⟨q, nq, aq⟩, ha⟩ := Tld.sums h k hk i (by omega)
    obtain ⟨p, np, ap, p0, p3⟩ := (h.pr i k (by omega) hk).n
    obtain ⟨S0, S1⟩ := h.part k hk i (by omega)
    have n8 := h.n8
    have t44 : two (-44) = 2 * two (-45) := by decide +kernel
    have t45p := two_pos (-45)
    have t45 : two (-45) ≤ 1 / 1000000 := by decide +kernel
    have t17 : two (-17) ≤ 1 / 1000 := by decide +kernel
    have t17p := two_pos (-17)
    have cc : (i : Rat) ≤ 8 := by rw [show (8 : Rat) = ((8 : Nat) : Rat) from rfl, Rat.natCast_le_natCast]; omega
    have c0 : (0 : Rat) ≤ i := Rat.natCast_nonneg
    have k1 := Rat.mul_le_mul_of_nonneg_right cc (Rat.le_of_lt t45p)
    have k2 := Rat.mul_le_mul_of_nonneg_right t17 S0
    have k3 := Rat.mul_nonneg c0 (Rat.le_of_lt t45p)
    obtain ⟨h1, h2⟩ := aq
    obtain ⟨h3, h4⟩ := ap
    rw [t44] at h1 h2
    obtain ⟨g, r, nr, rr⟩ := add_o nq np (k0 := 8) (by decide) (bd8 (by grind) (by grind))
    obtain ⟨r1, r2⟩ := r64 rr (by grind) (by grind)
    have e : ((i + 1 : Nat) : Rat) = i + 1 := by rw [Rat.natCast_add]; rfl
    refine ⟨⟨r, nr, ?_⟩, fun i' hi' => ?_⟩
    · rw [Sm, e, t44]
      constructor <;> grind
    · by_cases e : i' < i
      · exact ha i' e
      · obtain rfl : i' = i := by omega
        exact g
theorem Tld.outGp (h : Tld 1 1 n m row xs X Y) (k : Nat) (hk : k < m) : floatToFloatBits .f32 (thS row xs m k n) .f64 = some (fup (thS row xs m k n)) ∧ Gp (smW row xs m k n) (fup (thS row xs m k n)) := by
  obtain ⟨⟨q, nq, aq⟩, -⟩ := h.sums k hk n (Nat.le_refl _)
  have ho := h.out k hk
  rw [thL_gd _ _ _ _ _ hk] at ho
  obtain ⟨o, no, po⟩ := ho
  have n8 := h.n8
  have hC := ou_pr h.pX h.pY
  have on := po.near (by omega)
  have c1 := hC.le hk
  have c0 := hC.pos hk
  have e : ou X Y n k = Sm (fun i => X i * Y i k) n := rfl
  rw [← e] at aq
  have cc : (n : Rat) ≤ 8 := by rw [show (8 : Rat) = ((8 : Nat) : Rat) from rfl, Rat.natCast_le_natCast]; omega
  have k1 := Rat.mul_le_mul_of_nonneg_right cc (Rat.le_of_lt (two_pos (-44)))
  have k2 := Rat.mul_le_mul_of_nonneg_left c1 (Rat.le_of_lt (two_pos (-17)))
  have b : two (-17) * 1 + 8 * two (-44) + two (-17) * 1 ≤ 98 / 1000000 := by decide +kernel
  refine ⟨(up_o no).1, gp_of (d := two (-17) * 1 + 8 * two (-44) + two (-17) * 1) nq (up_o no).2 ?_ b⟩
  obtain ⟨h1, h2⟩ := aq
  obtain ⟨h3, h4⟩ := on
  constructor <;> grind
end
structure TrpOk (t b o : Nat) : Prop where
  ut : floatToFloatBits .f32 t .f64 = some (fup t)
  ub : floatToFloatBits .f32 b .f64 = some (fup b)
  uo : floatToFloatBits .f32 o .f64 = some (fup o)
  g0 : (FloatKind.f64.format.order (fup t) 13785626545772145148 == some .gt) = true
  a1 : floatBits .add .f64 (fup b) 4562254508917369340 = some (fadd .f64 (fup b) 4562254508917369340)
  l1 : (FloatKind.f64.format.order (fup t) (fadd .f64 (fup b) 4562254508917369340) == some .lt) = true
  a2 : floatBits .add .f64 (fup o) 4562254508917369340 = some (fadd .f64 (fup o) 4562254508917369340)
  l2 : (FloatKind.f64.format.order (fup t) (fadd .f64 (fup o) 4562254508917369340) == some .lt) = true
theorem lt_mil {t f : Nat} {T F e : Rat} (ht : Num .f32 t T) (hf : Num .f32 f F) (h : T * lnbQ ≤ F * lnbQ + e) (he : e ≤ 68 / 100000) (h1 : -2 ≤ F) (h2 : F ≤ 32) :
    floatBits .add .f64 (fup f) 4562254508917369340 = some (fadd .f64 (fup f) 4562254508917369340) ∧ (FloatKind.f64.format.order (fup t) (fadd .f64 (fup f) 4562254508917369340) == some .lt) = true := by
  obtain ⟨m1, m2⟩ := mil_bd
  obtain ⟨c1, c2⟩ := lnb_b
  obtain ⟨g, r, hr, rr⟩ := add_o (up_o hf).2 num_mil (k0 := 8) (by decide) (bd8 (by grind) (by grind))
  refine ⟨g, ?_⟩
  have := (r64 rr (by grind) (by grind)).2
  have t45 : two (-45) ≤ 1 / 1000000 := by decide +kernel
  rw [order_num (up_o ht).2 hr]
  refine lt_lt ?_
  have k : T ≤ F + 68 / 69 / 1000 := Rat.not_lt.1 fun hn => by
    have := Rat.mul_lt_mul_of_pos_right hn (show 0 < lnbQ by grind); grind
  have : (68 : Rat) / 69 / 1000 ≤ 999 / 1000000 - 2 / 1000000 := by decide +kernel
  grind
theorem en_rng {X : Nat → Rat} {n : Nat} (hX : Pr X n) : -1 ≤ En X n ∧ En X n ≤ 20 := by
  have h := sm_le (n := n) (f := fun i => X i * (0 - Lr (X i))) (g := fun i => X i * 20) fun i hi => by
    obtain ⟨a, b⟩ := lr_lo8 (hX.lo i hi) (hX.le hi)
    exact Rat.mul_le_mul_of_nonneg_left (by grind) (Rat.le_of_lt (hX.pos hi))
  have h' := sm_le (n := n) (f := fun i => X i * (-1)) (g := fun i => X i * (0 - Lr (X i))) fun i hi => by
    obtain ⟨a, b⟩ := lr_lo8 (hX.lo i hi) (hX.le hi)
    exact Rat.mul_le_mul_of_nonneg_left (by grind) (Rat.le_of_lt (hX.pos hi))
  rw [sm_mulr, hX.sum] at h h'
  unfold En; constructor <;> grind
theorem trp_all {cs : List Int} {rs : List (List Int)} {n m : Nat} (h : Dr rs n m) (hp : Prt cs) (hl : cs.length = n) (n1 : 1 ≤ n) (n4 : n ≤ 4) (m4 : m ≤ 4) :
    TrpOk (tdW (rwL cs) (rwsL rs) n m) (entW (rwL cs)) (entW (thL (rwL cs) (rwsL rs) n m m)) ∧ EnOk (rwL cs) ∧ EnOk (thL (rwL cs) (rwsL rs) n m m) := by
  have nm : n * m ≤ 16 := Nat.mul_le_mul n4 m4
  have T := tld_drawn h hp hl n1 (by omega) (by omega)
  obtain ⟨t, nt, at'⟩ := T.near
  obtain ⟨k1, b, nb, ab⟩ := en_ok T.rl (fun i hi => (T.r i hi).more (by decide)) T.pX (by omega)
  have hC := ou_pr T.pX T.pY
  obtain ⟨k2, o, no, ao⟩ := en_ok (thL_len (rwL cs) (rwsL rs) n m m) (fun k hk => (T.out k hk).more (by omega)) hC (by omega)
  have cst : ∀ c : Nat, c ≤ 16 → dT + (c : Rat) * gT ≤ dT + 16 * gT := fun c hc => by
    have : (c : Rat) ≤ 16 := by rw [show (16 : Rat) = ((16 : Nat) : Rat) from rfl, Rat.natCast_le_natCast]; exact hc
    have := Rat.mul_le_mul_of_nonneg_right this (show 0 ≤ gT by decide +kernel)
    grind
  have cst4 : ∀ c : Nat, c ≤ 4 → dT + (c : Rat) * gT ≤ dT + 4 * gT := fun c hc => by
    have : (c : Rat) ≤ 4 := by rw [show (4 : Rat) = ((4 : Nat) : Rat) from rfl, Rat.natCast_le_natCast]; exact hc
    have := Rat.mul_le_mul_of_nonneg_right this (show 0 ≤ gT by decide +kernel)
    grind
  have at' := at'.more (cst _ nm)
  have ab := ab.more (cst4 _ n4)
  have ao := ao.more (cst4 _ m4)
  have s4 : dT + 4 * gT ≤ 1 / 1000 := by decide +kernel
  have e1 : (dT + 16 * gT) + (dT + 4 * gT) + 2 * two (-15) ≤ 68 / 100000 := by decide +kernel
  have e2 : (dT + 16 * gT) + (dT + 4 * gT) + 2 * ep4 ≤ 68 / 100000 := by decide +kernel
  have e3 : dT + 16 * gT + ep4 ≤ 68 / 100000 := by decide +kernel
  have i1 := mi_in T.pX T.pY
  have i2 := mi_out T.pX T.pY
  have i3 := mi_low T.pX T.pY
  obtain ⟨b1, b2⟩ := td_rng ab s4 (en_rng T.pX).1 (en_rng T.pX).2
  obtain ⟨o1, o2⟩ := td_rng ao s4 (en_rng hC).1 (en_rng hC).2
  obtain ⟨x1, x2⟩ := lt_mil nt nb (e := (dT + 16 * gT) + (dT + 4 * gT) + 2 * two (-15)) (by obtain ⟨p1, p2⟩ := at'; obtain ⟨p3, p4⟩ := ab; grind) e1 b1 b2
  obtain ⟨x3, x4⟩ := lt_mil nt no (e := (dT + 16 * gT) + (dT + 4 * gT) + 2 * ep4) (by obtain ⟨p1, p2⟩ := at'; obtain ⟨p3, p4⟩ := ao; grind) e2 o1 o2
  refine ⟨⟨(up_o nt).1, (up_o nb).1, (up_o no).1, ?_, x1, x2, x3, x4⟩, k1, k2⟩
  rw [order_num (up_o nt).2 num_m001]
  refine gt_gt ?_
  obtain ⟨m1, m2⟩ := mil_bd
  obtain ⟨c1, c2⟩ := lnb_b
  have : -(68 / 69 / 1000) ≤ t := Rat.not_lt.1 fun hn => by
    have := Rat.mul_lt_mul_of_pos_right hn (show 0 < lnbQ by grind)
    obtain ⟨p1, p2⟩ := at'
    grind
  have : (68 : Rat) / 69 / 1000 ≤ 999 / 1000000 - 2 / 1000000 := by decide +kernel
  grind
end Go.Proofs.Ytiejljlmbpgbiaa
namespace Go.Proofs.Ytiejljlmbpgbiaa
open Go.RowKit
set_option maxRecDepth 100000
set_option linter.unusedVariables false
set_option linter.unusedSimpArgs false

set_option maxHeartbeats 1000000 in
theorem l02Ent_any (v : Value) (xs : List Nat) (w : World) (h : Rg eF w v xs) (hk : EnOk xs) :
    Calls Try.prog 37 #[v] w fun e w' => e = .returned (.float .f32 (entW xs)) ∧ Below w.heap.size w w' := by
  have hlen := h.len
  obtain ⟨ao, cap, rfl⟩ := h.shape
  have H := Lib.hid h
  have HK := Lib.hid hk
  clear h hk
  go_enter Try.func37, Try.ntmps37
  go_wp2
  go_loopw [3, 4] (fun sv iv wr => ∃ i : Nat, iv = .int .i64 i ∧ sv = .float .f32 (enK xs i) ∧ i ≤ xs.length ∧ Below w.heap.size w wr) (fun _ iv _ => xs.length - (intOf iv).toNat)
  case atStart => exact ⟨0, rfl, rfl, Nat.zero_le _, Below.refl _ _⟩
  case round =>
    obtain ⟨i, rfl, rfl, hi, hB⟩ := hrel
    by_cases hin : i < xs.length
    · obtain ⟨b, off, rfl, cA⟩ := getD_cell (H.out.below hB) i hin
      obtain ⟨a, na, a0⟩ := HK.out.p i hin
      have hpw : (FloatKind.f32.format.order (xs.getD i 0) 0 == some .gt) = true := by
        have := pos_num na; unfold posB at this; rw [this]; exact decide_eq_true a0
      have o1 := run_op (P := Try.prog) (HK.out.m i hin)
      have o2 := run_op (P := Try.prog) (HK.out.a i hin)
      have Hb := fun W => l02Bits_any _ a na a0 W
      obtain ⟨s1, hs1⟩ : ∃ s, enK xs (i + 1) = s := ⟨_, rfl⟩
      rw [hs1] at o2
      have Hs1 := Lib.hid hs1
      have HB := Lib.hid hB
      have hiI : (i : Int) < (xs.length : Int) := by omega
      unfold enT at o1 o2
      clear na hB hs1
      generalize enK xs i = s at *
      generalize xs.getD i 0 = x at *
      generalize fmul .f32 x (bW x) = y at *
      go_wp2_with fail
      go_quiet ((go_at_call 61; with_reducible exact Calls.quiet_of (qi (Hb _))))
      go_wp2
      go_roundw
      case rel => exact ⟨i + 1, by go_num, by rw [Hs1.out], by omega, by first | exact bnext HB.out (below_drewN _ _) | exact HB.out⟩
      case measure => simp [intOf]; omega
    · obtain rfl : i = xs.length := by omega
      have o1 := run_op (P := Try.prog) HK.out.s
      have HB := Lib.hid hB
      clear hB
      generalize enK xs xs.length = s at *
      go_wp2
      go_ret
      exact ⟨rfl, HB.out⟩
set_option maxHeartbeats 1000000 in
theorem entS_any (v : Value) (xs : List Nat) (w : World) (h : Rg eF w v xs) (hr : isRowW xs = true) (hk : EnOk xs) :
    Calls Try.prog 15 #[v] w fun e w' => e = .returned (.tuple #[.float .f32 (entW xs), .bool true]) ∧ Below w.heap.size w w' := by
  have h1 := l02Row_any v xs w h
  rw [hr] at h1
  have H2 := Lib.hid (fun W (hb : Below w.heap.size w W) => l02Ent_any v xs W (h.below hb) hk)
  have has := fun W => number_any (entW xs) W
  have hnb : nbV (entW xs) = entW xs := by unfold nbV; rw [hk.f]; rfl
  rw [hk.f, hnb] at has
  have H1 := Lib.hid h1
  clear h hr hk hnb h1
  generalize entW xs = y at *
  go_enter Try.func15, Try.ntmps15
  go_wp2_with fail
  refine H1.out.mono ?_
  rintro e w1 ⟨rfl, n1, rfl⟩
  go_wp2_with fail
  refine (H2.out _ (below_drewN _ _)).mono ?_
  rintro e w2 ⟨rfl, hb2⟩
  have HB := Lib.hid (bnext (below_drewN w n1) hb2)
  clear hb2
  go_wp2_with (go_at_call 36; refine (has _).mono ?_; rintro e w4 ⟨rfl, k3, rfl⟩)
  go_ret2
  exact ⟨rfl, bnext HB.out (below_drewN _ _)⟩
end Go.Proofs.Ytiejljlmbpgbiaa
namespace Go.Proofs.Ytiejljlmbpgbiaa
open Go.RowKit
set_option maxRecDepth 100000
set_option linter.unusedVariables false
set_option linter.unusedSimpArgs false

theorem run_f64bits (x : Nat) (w : World) : (callFunc 75 #[.float .f64 x]).run Try.prog w = .ok (.value (.int .u64 x)) w := by
  rw [run_callFunc_extern (e := Go.Extern.MathFloatBits.float64bits) Try.func75 (by kernel_rfl) (by kernel_rfl) (by kernel_rfl) (by kernel_rfl)]
  rfl
set_option maxHeartbeats 400000 in
theorem signbit_any (x : Nat) : ∃ b : Bool, ∀ w : World, Calls Try.prog 58 #[.float .f64 x] w fun e w' => e = .returned (.bool b) ∧ w' = w := by
  refine ⟨decide (wrap64 (x : Int) < 0), fun w => ?_⟩
  have hr := run_f64bits x
  go_enter Try.func58, Try.ntmps58
  go_wp2_with (simp only [hr])
  go_ret
  exact ⟨rfl, rfl⟩
set_option maxHeartbeats 400000 in
theorem implSame_self (x : Nat) (a : Rat) (h : Num .f32 x a) (w : World) : Calls Try.prog 34 #[.float .f32 x, .float .f32 x] w fun e w' => e = .returned (.bool true) ∧ Below w.heap.size w w' := by
  have o1 : FloatKind.f32.format.order x x = some (cmpQ a a) := order_num h h
  rw [cmp_eq.2 rfl] at o1
  have c1 : (FloatKind.f32.format.order x x != some .eq) = false := by rw [o1]; rfl
  have c2 : (FloatKind.f32.format.order x x == some .eq) = true := by rw [o1]; rfl
  have c_u := cvt_up _ _ (up_o h).1
  obtain ⟨b, hs⟩ := signbit_any (fup x)
  generalize fup x = u at *
  clear o1 h
  go_enter Try.func34, Try.ntmps34
  go_wp2_with (first | simp only [c1] | simp only [c2] | simp only [c_u] | fail)
  refine (hs _).mono ?_
  rintro e w1 ⟨rfl, rfl⟩
  go_wp2_with (first | simp only [c1] | simp only [c2] | simp only [c_u] | fail)
  refine (hs _).mono ?_
  rintro e w1 ⟨rfl, rfl⟩
  go_wp2
  go_ret
  exact ⟨by simp, Below.refl _ _⟩
set_option maxHeartbeats 1000000 in
theorem eqFunc_self (v : Value) (xs : List Nat) (w : World) (h : Rg eF w v xs) (hn : AllNum xs) :
    Calls Try.prog 33 #[v, v, .func (.func 34) #[] #[]] w fun e w' => e = .returned (.bool true) ∧ Below w.heap.size w w' := by
  have hlen := h.len
  obtain ⟨ao, cap, rfl⟩ := h.shape
  have H := Lib.hid h
  have Hn := Lib.hid hn
  have hne : ((xs.length : Int) != (xs.length : Int)) = false := by simp
  clear h hn
  go_enter Try.func33, Try.ntmps33
  go_wp2
  go_loopw [7, 8, 9, 17] (fun _ _ _ iv wr => ∃ i : Nat, iv = .int .i64 i ∧ i ≤ xs.length ∧ Below w.heap.size w wr) (fun _ _ _ iv _ => xs.length - (intOf iv).toNat)
  case atStart => exact ⟨0, rfl, Nat.zero_le _, Below.refl _ _⟩
  case round =>
    obtain ⟨i, rfl, hi, hB⟩ := hrel
    by_cases hin : i < xs.length
    · obtain ⟨b, off, rfl, cA⟩ := getD_cell (H.out.below hB) i hin
      obtain ⟨a, ha⟩ := Hn.out (xs.getD i 0) (by rw [List.getD_eq_getElem?_getD, List.getElem?_eq_getElem hin]; exact List.getElem_mem _)
      have HS := Lib.hid (fun W => implSame_self _ a ha W)
      clear ha
      generalize xs.getD i 0 = x at *
      have HB := Lib.hid hB
      clear hB
      go_wp2_with fail
      refine (HS.out _).mono ?_
      rintro e w1 ⟨rfl, hb1⟩
      have HB := Lib.hid (bnext HB.out hb1)
      clear hb1 cA
      go_wp2
      go_roundw
      case rel => exact ⟨i + 1, by go_num, by omega, HB.out⟩
      case measure => simp [intOf]; omega
    · obtain rfl : i = xs.length := by omega
      have HB := Lib.hid hB
      clear hB
      go_wp2
      go_ret
      exact ⟨rfl, HB.out⟩
set_option maxHeartbeats 1000000 in
theorem sameCh_self (n m : Nat) (v : Value) (xs : List Nat) (w : World) (h : Rg eF w v xs) (hn : AllNum xs) :
    Calls Try.prog 13 #[.agg #[.int .i64 n, .int .i64 m, v], .agg #[.int .i64 n, .int .i64 m, v]] w fun e w' => e = .returned (.bool true) ∧ Below w.heap.size w w' := by
  obtain ⟨ao, cap, rfl⟩ := h.shape
  obtain ⟨w0, hw0⟩ : ∃ W, (w.alloc (.cells #[.int .i64 n, .int .i64 m, .slice ao xs.length cap] 27)).alloc (.cells #[.int .i64 n, .int .i64 m, .slice ao xs.length cap] 27) = W := ⟨_, rfl⟩
  have hb0 : Below w.heap.size w w0 := by rw [← hw0]; go_grown
  have hP : ChP w0 w.heap.size n m (.slice ao xs.length cap) := by rw [← hw0]; exact ⟨by simp [go_sem], by simp [go_sem], by simp [go_sem]⟩
  have hQ : ChP w0 (w.heap.size + 1) n m (.slice ao xs.length cap) := by rw [← hw0]; exact ⟨by simp [go_sem], by simp [go_sem], by simp [go_sem]⟩
  have HE := Lib.hid (eqFunc_self _ xs w0 (h.below hb0) hn)
  obtain ⟨a0, a1, a2⟩ := hP
  obtain ⟨b0, b1, b2⟩ := hQ
  have n1 : ((n : Int) == (n : Int)) = true := by simp
  have n2 : ((m : Int) == (m : Int)) = true := by simp
  have HB := Lib.hid hb0
  clear h hn hb0
  go_enter Try.func13, Try.ntmps13
  go_wp2_with (first | simp only [n1] | simp only [n2] | fail)
  refine HE.out.mono ?_
  rintro e w1 ⟨rfl, hb1⟩
  go_wp2
  go_ret
  exact ⟨rfl, bnext HB.out hb1⟩
end Go.Proofs.Ytiejljlmbpgbiaa
namespace Go.Proofs.Ytiejljlmbpgbiaa
open Go.RowKit
set_option maxRecDepth 100000
set_option linter.unusedVariables false
set_option linter.unusedSimpArgs false

set_option maxHeartbeats 400000 in
theorem implShare (x : Nat) (o1 : FloatKind.f32.format.order x 0 = some .gt ∨ FloatKind.f32.format.order x 0 = some .eq) (o2 : FloatKind.f32.format.order x 1065353216 = some .lt) (w : World) : Calls Try.prog 38 #[.float .f32 x] w fun e w' => e = .returned (.bool true) ∧ w' = w := by
  rcases o1 with o1 | o1
  · have c1 : (FloatKind.f32.format.order x 0 == some .gt) = true := by rw [o1]; rfl
    have c2 : (FloatKind.f32.format.order x 0 == some .eq) = false := by rw [o1]; rfl
    have c3 : (FloatKind.f32.format.order x 1065353216 == some .lt) = true := by rw [o2]; rfl
    have c4 : (FloatKind.f32.format.order x 1065353216 == some .eq) = false := by rw [o2]; rfl
    clear o1 o2
    go_enter Try.func38, Try.ntmps38
    go_wp2_with (first | simp only [c1, c2] | simp only [c3, c4] | fail)
    go_ret
    exact ⟨by simp [c1, c2, c3, c4], rfl⟩
  · have c1 : (FloatKind.f32.format.order x 0 == some .gt) = false := by rw [o1]; rfl
    have c2 : (FloatKind.f32.format.order x 0 == some .eq) = true := by rw [o1]; rfl
    have c3 : (FloatKind.f32.format.order x 1065353216 == some .lt) = true := by rw [o2]; rfl
    have c4 : (FloatKind.f32.format.order x 1065353216 == some .eq) = false := by rw [o2]; rfl
    clear o1 o2
    go_enter Try.func38, Try.ntmps38
    go_wp2_with (first | simp only [c1, c2] | simp only [c3, c4] | fail)
    go_ret
    exact ⟨by simp [c1, c2, c3, c4], rfl⟩
/-- Its words. -/
def flipL : List Nat := [1056964608, 1056964608, 1056964608, 1056964608]
def flipF (i k : Nat) : Nat := flipL.getD (i * 2 + k) 0
theorem flipL_grid : gridA flipF 2 2 = flipL := by decide +kernel
set_option maxHeartbeats 4000000 in
theorem flip1_any (gp gn i k : Nat) (w : World) (hp : w.cell? ⟨gp, 0, none⟩ = some (.float .f32 1056964608)) (hn : w.cell? ⟨gn, 0, none⟩ = some (.int .i64 2)) (hi : i < 2) (hk : k < 2) :
    Calls Try.prog 40 #[.int .i64 i, .int .i64 k, .pointer (some ⟨gp, 0, none⟩), .pointer (some ⟨gn, 0, none⟩)] w fun e w' => e = .returned (eF (flipF i k)) ∧ Below w.heap.size w w' := by
  have s1 : floatBits .sub .f32 1065353216 1056964608 = some 1056964608 := by decide +kernel
  have s2 : floatBits .quo .f32 1056964608 (floatOfInt .f32 1) = some 1056964608 := by decide +kernel
  have o1 := run_op (P := Try.prog) s1
  have o2 := run_op (P := Try.prog) s2
  have hcase : (i = 0 ∧ k = 0) ∨ (i = 0 ∧ k = 1) ∨ (i = 1 ∧ k = 0) ∨ (i = 1 ∧ k = 1) := by omega
  rcases hcase with ⟨rfl, rfl⟩ | ⟨rfl, rfl⟩ | ⟨rfl, rfl⟩ | ⟨rfl, rfl⟩
  all_goals
    go_enter Try.func40, Try.ntmps40
    go_wp2_with (first | simp only [o1] | simp only [o2] | fail)
    go_ret
    exact ⟨rfl, Below.refl _ _⟩
set_option maxHeartbeats 4000000 in
theorem flip_yes (hok : ChanOk 2 2 (gridA flipF 2 2)) (w : World) :
    Calls Try.prog 16 #[.int .i64 2, .float .f32 1056964608] w fun e w' => ∃ v', e = .returned (.tuple #[.agg #[.int .i64 2, .int .i64 2, v'], .bool true]) ∧ Og eF w.heap.size w' v' (gridA flipF 2 2) ∧ Below w.heap.size w w' := by
  obtain ⟨W0, hW0⟩ : ∃ W0, W0 = ((w.alloc (.cells #[.int .i64 2] 2)).alloc (.cells #[.float .f32 1056964608] 36)).alloc (.cells #[.int .i64 0, .int .i64 0, .slice none 0 0] 27) := ⟨_, rfl⟩
  have hB0 : Below w.heap.size w W0 := by rw [hW0]; go_grown
  have a0 : W0.cell? ⟨w.heap.size, 0, none⟩ = some (.int .i64 2) := by rw [hW0]; simp [go_sem]
  have b0 : W0.cell? ⟨w.heap.size + 1, 0, none⟩ = some (.float .f32 1056964608) := by rw [hW0]; simp [go_sem]
  have hR : W0.heap[w.heap.size + 2]? = some (.cells #[.int .i64 0, .int .i64 0, .slice none 0 0] 27 (0, 0)) := by
    have := heap_alloc_new ((w.alloc (.cells #[.int .i64 2] 2)).alloc (.cells #[.float .f32 1056964608] 36)) (.cells #[.int .i64 0, .int .i64 0, .slice none 0 0] 27)
    rw [← hW0, World.size_alloc, World.size_alloc] at this; exact this
  have hmf : ∀ (fn : Fn) (first cap : Array Value) (w : World), (Instr.makeFunc fn first cap).run Try.prog w = .ok (.func fn first cap) w := fun _ _ _ _ => rfl
  have HB0 := Lib.hid hB0
  have HR := Lib.hid hR
  have HA := Lib.hid a0
  have HBx := Lib.hid b0
  have hw := fun W => within_any 2 2 8 W
  simp only [show inB 2 2 8 = true by decide] at hw
  have hs := implShare 1056964608 (by decide +kernel) (by decide +kernel)
  have hcl : ∀ W, Below W0.heap.size W0 W → ∀ i k : Nat, i < 2 → k < 2 → Calls Try.prog 40 #[.int .i64 i, .int .i64 k, .pointer (some ⟨w.heap.size + 1, 0, none⟩), .pointer (some ⟨w.heap.size, 0, none⟩)] W fun e w' => e = .returned (eF (flipF i k)) ∧ Below W.heap.size W w' := fun W hb i k hi hk => flip1_any _ _ i k W (cnext hb HBx.out) (cnext hb HA.out) hi hk
  have HM := Lib.hid (madeFlip_any (.pointer (some ⟨w.heap.size, 0, none⟩)) (.pointer (some ⟨w.heap.size + 1, 0, none⟩)) 2 2 flipF W0 hok hcl)
  clear hB0 hR hcl hok
  generalize flipF = f at *
  go_enter Try.func16, Try.ntmps16
  go_wp2_with (first | (go_at_call 31; refine (hw _).mono ?_; rintro e w' ⟨rfl, rfl⟩) | (go_at_call 38; refine (hs _).mono ?_; rintro e w' ⟨rfl, rfl⟩) | fail)
  rw [← hW0]
  clear hW0
  refine HM.out.mono ?_
  rintro e w9 ⟨v9, rfl, ho9, hb9⟩
  obtain ⟨r0, r1, r2, q0, q1, q2⟩ := cell3 (blk_next hb9 HR.out)
  obtain ⟨ao9, cap9, rfl⟩ := ho9.rg.shape
  have hsw : w.heap.size ≤ W0.heap.size := HB0.out.size
  have hfB := below3 (bnext HB0.out hb9) (w.heap.size + 2) (by omega) (.int .i64 2) (.int .i64 2) (.slice ao9 (gridA f 2 2).length cap9)
  have hfO := Lib.hid (ho9.box3 (w.heap.size + 2) (blk_lt HR.out) (.int .i64 2) (.int .i64 2) (.slice ao9 (gridA f 2 2).length cap9))
  clear a0 b0 ho9
  go_wp2
  exact bodyPost_ret (v := .tuple #[.agg #[.int .i64 2, .int .i64 2, .slice ao9 (gridA f 2 2).length cap9], .bool true]) (by simp [results, Try.results16, go_sem, r0, r1, r2]) rfl ⟨.slice ao9 (gridA f 2 2).length cap9, rfl, Og.mono hsw hfO.out, hfB⟩
/-- Its words. -/
def loseL : List Nat := [1061158912, 0, 1048576000, 0, 1061158912, 1048576000]
def loseF (i k : Nat) : Nat := loseL.getD (i * 3 + k) 0
theorem loseL_grid : gridA loseF 2 3 = loseL := by decide +kernel
set_option maxHeartbeats 4000000 in
theorem lose1_any (gp gn i k : Nat) (w : World) (hp : w.cell? ⟨gp, 0, none⟩ = some (.float .f32 1048576000)) (hn : w.cell? ⟨gn, 0, none⟩ = some (.int .i64 2)) (hi : i < 2) (hk : k < 3) :
    Calls Try.prog 41 #[.int .i64 i, .int .i64 k, .pointer (some ⟨gp, 0, none⟩), .pointer (some ⟨gn, 0, none⟩)] w fun e w' => e = .returned (eF (loseF i k)) ∧ Below w.heap.size w w' := by
  have s1 : floatBits .sub .f32 1065353216 1048576000 = some 1061158912 := by decide +kernel
  have o1 := run_op (P := Try.prog) s1
  have o2 : True := trivial
  have hcase : (i = 0 ∧ k = 0) ∨ (i = 0 ∧ k = 1) ∨ (i = 0 ∧ k = 2) ∨ (i = 1 ∧ k = 0) ∨ (i = 1 ∧ k = 1) ∨ (i = 1 ∧ k = 2) := by omega
  rcases hcase with ⟨rfl, rfl⟩ | ⟨rfl, rfl⟩ | ⟨rfl, rfl⟩ | ⟨rfl, rfl⟩ | ⟨rfl, rfl⟩ | ⟨rfl, rfl⟩
  all_goals
    go_enter Try.func41, Try.ntmps41
    go_wp2_with (first | simp only [o1] | fail)
    go_ret
    exact ⟨rfl, Below.refl _ _⟩
set_option maxHeartbeats 4000000 in
theorem lose_yes (hok : ChanOk 2 3 (gridA loseF 2 3)) (w : World) :
    Calls Try.prog 17 #[.int .i64 2, .float .f32 1048576000] w fun e w' => ∃ v', e = .returned (.tuple #[.agg #[.int .i64 2, .int .i64 3, v'], .bool true]) ∧ Og eF w.heap.size w' v' (gridA loseF 2 3) ∧ Below w.heap.size w w' := by
  obtain ⟨W0, hW0⟩ : ∃ W0, W0 = ((w.alloc (.cells #[.int .i64 2] 2)).alloc (.cells #[.float .f32 1048576000] 36)).alloc (.cells #[.int .i64 0, .int .i64 0, .slice none 0 0] 27) := ⟨_, rfl⟩
  have hB0 : Below w.heap.size w W0 := by rw [hW0]; go_grown
  have a0 : W0.cell? ⟨w.heap.size, 0, none⟩ = some (.int .i64 2) := by rw [hW0]; simp [go_sem]
  have b0 : W0.cell? ⟨w.heap.size + 1, 0, none⟩ = some (.float .f32 1048576000) := by rw [hW0]; simp [go_sem]
  have hR : W0.heap[w.heap.size + 2]? = some (.cells #[.int .i64 0, .int .i64 0, .slice none 0 0] 27 (0, 0)) := by
    have := heap_alloc_new ((w.alloc (.cells #[.int .i64 2] 2)).alloc (.cells #[.float .f32 1048576000] 36)) (.cells #[.int .i64 0, .int .i64 0, .slice none 0 0] 27)
    rw [← hW0, World.size_alloc, World.size_alloc] at this; exact this
  have hmf : ∀ (fn : Fn) (first cap : Array Value) (w : World), (Instr.makeFunc fn first cap).run Try.prog w = .ok (.func fn first cap) w := fun _ _ _ _ => rfl
  have HB0 := Lib.hid hB0
  have HR := Lib.hid hR
  have HA := Lib.hid a0
  have HBx := Lib.hid b0
  have hw := fun W => within_any 2 1 7 W
  simp only [show inB 2 1 7 = true by decide] at hw
  have hs := implShare 1048576000 (by decide +kernel) (by decide +kernel)
  have hcl : ∀ W, Below W0.heap.size W0 W → ∀ i k : Nat, i < 2 → k < 3 → Calls Try.prog 41 #[.int .i64 i, .int .i64 k, .pointer (some ⟨w.heap.size + 1, 0, none⟩), .pointer (some ⟨w.heap.size, 0, none⟩)] W fun e w' => e = .returned (eF (loseF i k)) ∧ Below W.heap.size W w' := fun W hb i k hi hk => lose1_any _ _ i k W (cnext hb HBx.out) (cnext hb HA.out) hi hk
  have HM := Lib.hid (madeLose_any (.pointer (some ⟨w.heap.size, 0, none⟩)) (.pointer (some ⟨w.heap.size + 1, 0, none⟩)) 2 3 loseF W0 hok hcl)
  clear hB0 hR hcl hok
  generalize loseF = f at *
  go_enter Try.func17, Try.ntmps17
  go_wp2_with (first | (go_at_call 31; refine (hw _).mono ?_; rintro e w' ⟨rfl, rfl⟩) | (go_at_call 38; refine (hs _).mono ?_; rintro e w' ⟨rfl, rfl⟩) | fail)
  rw [← hW0]
  clear hW0
  refine HM.out.mono ?_
  rintro e w9 ⟨v9, rfl, ho9, hb9⟩
  obtain ⟨r0, r1, r2, q0, q1, q2⟩ := cell3 (blk_next hb9 HR.out)
  obtain ⟨ao9, cap9, rfl⟩ := ho9.rg.shape
  have hsw : w.heap.size ≤ W0.heap.size := HB0.out.size
  have hfB := below3 (bnext HB0.out hb9) (w.heap.size + 2) (by omega) (.int .i64 2) (.int .i64 3) (.slice ao9 (gridA f 2 3).length cap9)
  have hfO := Lib.hid (ho9.box3 (w.heap.size + 2) (blk_lt HR.out) (.int .i64 2) (.int .i64 3) (.slice ao9 (gridA f 2 3).length cap9))
  clear a0 b0 ho9
  go_wp2
  exact bodyPost_ret (v := .tuple #[.agg #[.int .i64 2, .int .i64 3, .slice ao9 (gridA f 2 3).length cap9], .bool true]) (by simp [results, Try.results17, go_sem, r0, r1, r2]) rfl ⟨.slice ao9 (gridA f 2 3).length cap9, rfl, Og.mono hsw hfO.out, hfB⟩
/-- Its words. -/
def nextL : List Nat := [1065353216, 0, 0, 0, 0, 1065353216, 0, 0, 0, 0, 1065353216, 0, 0, 0, 0, 1065353216]
def nextF (i k : Nat) : Nat := nextL.getD (i * 4 + k) 0
theorem nextL_grid : gridA nextF 4 4 = nextL := by decide +kernel
set_option maxHeartbeats 4000000 in
theorem next1_any (gp gn i k : Nat) (w : World) (hp : w.cell? ⟨gp, 0, none⟩ = some (.float .f32 0)) (hn : w.cell? ⟨gn, 0, none⟩ = some (.int .i64 4)) (hi : i < 4) (hk : k < 4) :
    Calls Try.prog 42 #[.int .i64 i, .int .i64 k, .pointer (some ⟨gp, 0, none⟩), .pointer (some ⟨gn, 0, none⟩)] w fun e w' => e = .returned (eF (nextF i k)) ∧ Below w.heap.size w w' := by
  have s1 : floatBits .sub .f32 1065353216 0 = some 1065353216 := by decide +kernel
  have o1 := run_op (P := Try.prog) s1
  have o2 : True := trivial
  have hcase : (i = 0 ∧ k = 0) ∨ (i = 0 ∧ k = 1) ∨ (i = 0 ∧ k = 2) ∨ (i = 0 ∧ k = 3) ∨ (i = 1 ∧ k = 0) ∨ (i = 1 ∧ k = 1) ∨ (i = 1 ∧ k = 2) ∨ (i = 1 ∧ k = 3) ∨ (i = 2 ∧ k = 0) ∨ (i = 2 ∧ k = 1) ∨ (i = 2 ∧ k = 2) ∨ (i = 2 ∧ k = 3) ∨ (i = 3 ∧ k = 0) ∨ (i = 3 ∧ k = 1) ∨ (i = 3 ∧ k = 2) ∨ (i = 3 ∧ k = 3) := by omega
  rcases hcase with ⟨rfl, rfl⟩ | ⟨rfl, rfl⟩ | ⟨rfl, rfl⟩ | ⟨rfl, rfl⟩ | ⟨rfl, rfl⟩ | ⟨rfl, rfl⟩ | ⟨rfl, rfl⟩ | ⟨rfl, rfl⟩ | ⟨rfl, rfl⟩ | ⟨rfl, rfl⟩ | ⟨rfl, rfl⟩ | ⟨rfl, rfl⟩ | ⟨rfl, rfl⟩ | ⟨rfl, rfl⟩ | ⟨rfl, rfl⟩ | ⟨rfl, rfl⟩
  all_goals
    go_enter Try.func42, Try.ntmps42
    go_wp2_with (first | simp only [o1] | fail)
    go_ret
    exact ⟨rfl, Below.refl _ _⟩
set_option maxHeartbeats 4000000 in
theorem next_yes (hok : ChanOk 4 4 (gridA nextF 4 4)) (w : World) :
    Calls Try.prog 18 #[.int .i64 4, .float .f32 0] w fun e w' => ∃ v', e = .returned (.tuple #[.agg #[.int .i64 4, .int .i64 4, v'], .bool true]) ∧ Og eF w.heap.size w' v' (gridA nextF 4 4) ∧ Below w.heap.size w w' := by
  obtain ⟨W0, hW0⟩ : ∃ W0, W0 = ((w.alloc (.cells #[.int .i64 4] 2)).alloc (.cells #[.float .f32 0] 36)).alloc (.cells #[.int .i64 0, .int .i64 0, .slice none 0 0] 27) := ⟨_, rfl⟩
  have hB0 : Below w.heap.size w W0 := by rw [hW0]; go_grown
  have a0 : W0.cell? ⟨w.heap.size, 0, none⟩ = some (.int .i64 4) := by rw [hW0]; simp [go_sem]
  have b0 : W0.cell? ⟨w.heap.size + 1, 0, none⟩ = some (.float .f32 0) := by rw [hW0]; simp [go_sem]
  have hR : W0.heap[w.heap.size + 2]? = some (.cells #[.int .i64 0, .int .i64 0, .slice none 0 0] 27 (0, 0)) := by
    have := heap_alloc_new ((w.alloc (.cells #[.int .i64 4] 2)).alloc (.cells #[.float .f32 0] 36)) (.cells #[.int .i64 0, .int .i64 0, .slice none 0 0] 27)
    rw [← hW0, World.size_alloc, World.size_alloc] at this; exact this
  have hmf : ∀ (fn : Fn) (first cap : Array Value) (w : World), (Instr.makeFunc fn first cap).run Try.prog w = .ok (.func fn first cap) w := fun _ _ _ _ => rfl
  have HB0 := Lib.hid hB0
  have HR := Lib.hid hR
  have HA := Lib.hid a0
  have HBx := Lib.hid b0
  have hw := fun W => within_any 4 2 8 W
  simp only [show inB 4 2 8 = true by decide] at hw
  have hs := implShare 0 (by decide +kernel) (by decide +kernel)
  have hcl : ∀ W, Below W0.heap.size W0 W → ∀ i k : Nat, i < 4 → k < 4 → Calls Try.prog 42 #[.int .i64 i, .int .i64 k, .pointer (some ⟨w.heap.size + 1, 0, none⟩), .pointer (some ⟨w.heap.size, 0, none⟩)] W fun e w' => e = .returned (eF (nextF i k)) ∧ Below W.heap.size W w' := fun W hb i k hi hk => next1_any _ _ i k W (cnext hb HBx.out) (cnext hb HA.out) hi hk
  have HM := Lib.hid (madeNext_any (.pointer (some ⟨w.heap.size, 0, none⟩)) (.pointer (some ⟨w.heap.size + 1, 0, none⟩)) 4 4 nextF W0 hok hcl)
  clear hB0 hR hcl hok
  generalize nextF = f at *
  go_enter Try.func18, Try.ntmps18
  go_wp2_with (first | (go_at_call 31; refine (hw _).mono ?_; rintro e w' ⟨rfl, rfl⟩) | (go_at_call 38; refine (hs _).mono ?_; rintro e w' ⟨rfl, rfl⟩) | fail)
  rw [← hW0]
  clear hW0
  refine HM.out.mono ?_
  rintro e w9 ⟨v9, rfl, ho9, hb9⟩
  obtain ⟨r0, r1, r2, q0, q1, q2⟩ := cell3 (blk_next hb9 HR.out)
  obtain ⟨ao9, cap9, rfl⟩ := ho9.rg.shape
  have hsw : w.heap.size ≤ W0.heap.size := HB0.out.size
  have hfB := below3 (bnext HB0.out hb9) (w.heap.size + 2) (by omega) (.int .i64 4) (.int .i64 4) (.slice ao9 (gridA f 4 4).length cap9)
  have hfO := Lib.hid (ho9.box3 (w.heap.size + 2) (blk_lt HR.out) (.int .i64 4) (.int .i64 4) (.slice ao9 (gridA f 4 4).length cap9))
  clear a0 b0 ho9
  go_wp2
  exact bodyPost_ret (v := .tuple #[.agg #[.int .i64 4, .int .i64 4, .slice ao9 (gridA f 4 4).length cap9], .bool true]) (by simp [results, Try.results18, go_sem, r0, r1, r2]) rfl ⟨.slice ao9 (gridA f 4 4).length cap9, rfl, Og.mono hsw hfO.out, hfB⟩
end Go.Proofs.Ytiejljlmbpgbiaa
namespace Go.Proofs.Ytiejljlmbpgbiaa
open Ieee Go.RowKit
set_option maxRecDepth 100000
set_option linter.unusedVariables false
set_option linter.unusedSimpArgs false

theorem tab_of {n m : Nat} {xs : List Nat} (n1 : 1 ≤ n) (n8 : n ≤ 8) (m1 : 1 ≤ m) (m8 : m ≤ 8) (hl : xs.length = n * m) (ho : oneW xs = true) : TabN n m xs :=
  ⟨n1, n8, m1, m8, hl, fun x hx => by obtain ⟨a, ha, -⟩ := one_num ho x hx; exact ⟨a, ha⟩⟩
theorem pos_of {x : Nat} (h : (finW x && posB x) = true) : ∃ a, Num .f32 x a ∧ 0 < a := by
  rw [Bool.and_eq_true] at h
  obtain ⟨a, ha⟩ := num_fin h.1
  have := h.2
  rw [pos_num ha] at this
  exact ⟨a, ha, of_decide_eq_true this⟩
theorem cb_of {n m : Nat} {xs R C : List Nat} (n8 : n ≤ 8) (m8 : m ≤ 8) (hl : xs.length = n * m) (hR : R.length = n) (hC : C.length = m) (ho : oneW xs = true)
    (hq : ∀ i : Fin n, ∀ k : Fin m, (!(posB (xs.getD (i.val * m + k.val) 0)) || ((finW (R.getD i.val 0) && posB (R.getD i.val 0)) && (finW (C.getD k.val 0) && posB (C.getD k.val 0)))) = true) : CbOk n m xs R C := by
  refine ⟨n8, m8, hl, hR, hC, fun i k hi hk => ?_, fun i k hi hk hp => ?_⟩
  · have := at_lt (n := n) hi hk
    refine one_num ho _ ?_
    rw [List.getD_eq_getElem?_getD, List.getElem?_eq_getElem (by omega)]
    exact List.getElem_mem _
  · have := hq ⟨i, hi⟩ ⟨k, hk⟩
    simp only [hp, Bool.not_true, Bool.false_or] at this
    rw [Bool.and_eq_true] at this
    exact ⟨pos_of this.1, pos_of this.2⟩
theorem flip_ch : ChanOk 2 2 (gridA flipF 2 2) := by
  have h : ∀ i : Fin 2, isRowW (rowL (gridA flipF 2 2) 2 i.val) = true := by decide +kernel
  exact ⟨by decide, by decide, by decide, by decide, gridA_len _ _ _, fun i hi => h ⟨i, hi⟩⟩
theorem flip_td : tdW [1048576000, 1061158912] (gridA flipF 2 2) 2 2 = 0 := by decide +kernel
theorem flip_told (v u : Value) (w : World) (hv : Rg eF w v (gridA flipF 2 2)) (hu : Rg eF w u [1048576000, 1061158912]) :
    Calls Try.prog 11 #[.agg #[.int .i64 2, .int .i64 2, v], u] w fun e w' => e = .returned (.tuple #[.float .f32 0, .bool true]) ∧ Below w.heap.size w w' := by
  have ho : oneW (jL [1048576000, 1061158912] (gridA flipF 2 2) 2 2) = true := by decide +kernel
  have := told_yes 2 2 v (gridA flipF 2 2) u [1048576000, 1061158912] w hv hu flip_ch (by decide +kernel) rfl (tab_of (by decide) (by decide) (by decide) (by decide) (jL_len _ _ _ _) ho) ho (by decide +kernel) (by decide +kernel)
    (cb_of (by decide) (by decide) (jL_len _ _ _ _) (rsL_len _ _ _) (rsL_len _ _ _) ho (by decide +kernel))
  have e := flip_td
  unfold tdW at e
  rw [e] at this
  exact this
theorem lose_ch : ChanOk 2 3 (gridA loseF 2 3) := by
  have h : ∀ i : Fin 2, isRowW (rowL (gridA loseF 2 3) 3 i.val) = true := by decide +kernel
  exact ⟨by decide, by decide, by decide, by decide, gridA_len _ _ _, fun i hi => h ⟨i, hi⟩⟩
theorem lose_td : tdW [1056964608, 1056964608] (gridA loseF 2 3) 2 3 = 1061158912 := by decide +kernel
theorem lose_told (v u : Value) (w : World) (hv : Rg eF w v (gridA loseF 2 3)) (hu : Rg eF w u [1056964608, 1056964608]) :
    Calls Try.prog 11 #[.agg #[.int .i64 2, .int .i64 3, v], u] w fun e w' => e = .returned (.tuple #[.float .f32 1061158912, .bool true]) ∧ Below w.heap.size w w' := by
  have ho : oneW (jL [1056964608, 1056964608] (gridA loseF 2 3) 2 3) = true := by decide +kernel
  have := told_yes 2 3 v (gridA loseF 2 3) u [1056964608, 1056964608] w hv hu lose_ch (by decide +kernel) rfl (tab_of (by decide) (by decide) (by decide) (by decide) (jL_len _ _ _ _) ho) ho (by decide +kernel) (by decide +kernel)
    (cb_of (by decide) (by decide) (jL_len _ _ _ _) (rsL_len _ _ _) (rsL_len _ _ _) ho (by decide +kernel))
  have e := lose_td
  unfold tdW at e
  rw [e] at this
  exact this
theorem next_ch : ChanOk 4 4 (gridA nextF 4 4) := by
  have h : ∀ i : Fin 4, isRowW (rowL (gridA nextF 4 4) 4 i.val) = true := by decide +kernel
  exact ⟨by decide, by decide, by decide, by decide, gridA_len _ _ _, fun i hi => h ⟨i, hi⟩⟩
theorem next_td : tdW [1048576000, 1048576000, 1048576000, 1048576000] (gridA nextF 4 4) 4 4 = 1073741824 := by decide +kernel
theorem next_told (v u : Value) (w : World) (hv : Rg eF w v (gridA nextF 4 4)) (hu : Rg eF w u [1048576000, 1048576000, 1048576000, 1048576000]) :
    Calls Try.prog 11 #[.agg #[.int .i64 4, .int .i64 4, v], u] w fun e w' => e = .returned (.tuple #[.float .f32 1073741824, .bool true]) ∧ Below w.heap.size w w' := by
  have ho : oneW (jL [1048576000, 1048576000, 1048576000, 1048576000] (gridA nextF 4 4) 4 4) = true := by decide +kernel
  have := told_yes 4 4 v (gridA nextF 4 4) u [1048576000, 1048576000, 1048576000, 1048576000] w hv hu next_ch (by decide +kernel) rfl (tab_of (by decide) (by decide) (by decide) (by decide) (jL_len _ _ _ _) ho) ho (by decide +kernel) (by decide +kernel)
    (cb_of (by decide) (by decide) (jL_len _ _ _ _) (rsL_len _ _ _) (rsL_len _ _ _) ho (by decide +kernel))
  have e := next_td
  unfold tdW at e
  rw [e] at this
  exact this
theorem fix_up : floatToFloatBits .f32 0 .f64 = some 0 ∧ floatToFloatBits .f32 1061158912 .f64 = some 4604930618986332160 ∧ floatToFloatBits .f32 1073741824 .f64 = some 4611686018427387904 := by decide +kernel
theorem fix_gap (x : Nat) (a : Rat) (h : Num .f64 x a) (w : World) : Calls Try.prog 14 #[.float .f64 x, .float .f64 x] w fun e w' => e = .returned (.float .f64 (gapW x x)) ∧ w' = w := gap_any x x a a w h h ⟨by grind, by grind⟩
theorem gap_q (x y : Nat) (a b : Rat) (hx : Num .f64 x a) (hy : Num .f64 y b) (h : Ab 200 a b) (w : World) : Calls Try.prog 14 #[.float .f64 x, .float .f64 y] w fun e w' => e = .returned (.float .f64 (gapW x y)) ∧ w = w' :=
  (gap_any x y a b w hx hy h).mono fun _ _ ⟨h1, h2⟩ => ⟨h1, h2.symm⟩
theorem rg_lit (w : World) (xs : List Nat) (T : TypeId) (hn : xs.length ≤ 100) : Rg eF (w.alloc (.cells (xs.map eF).toArray T)) (.slice (some ⟨w.heap.size, 0, none⟩) xs.length xs.length) xs := by
  refine ⟨_, _, rfl, Nat.le_refl _, by unfold maxLen; omega, fun i hi => ⟨w.heap.size, 0, rfl, ?_⟩⟩
  have hh : (w.alloc (.cells (xs.map eF).toArray T)).heap[w.heap.size]? = some (.cells (xs.map eF).toArray T (0, 0)) := heap_alloc_new w _
  rw [cell_of_row _ _ _ _ _ _ hh]
  simp [hi]
theorem fix_lt : (FloatKind.f64.format.order (gapW 0 0) 4562254508917369340 == some .lt) = true ∧ (FloatKind.f64.format.order (gapW 4604930618986332160 4604930618986332160) 4562254508917369340 == some .lt) = true ∧ (FloatKind.f64.format.order (gapW 4611686018427387904 4611686018427387904) 4562254508917369340 == some .lt) = true := by decide +kernel
theorem num_34 : Num .f64 4604930618986332160 (3 / 4) := ⟨false, 3 * 2 ^ 51, -53, by decide +kernel, by decide +kernel⟩
end Go.Proofs.Ytiejljlmbpgbiaa
