/- Weighed contexts as words. Plain; conditions: what each theorem names. -/
import Derived.Test.YthafmldcfdcngaaGbP
import Derived.Test.YthafmldcfdcngaaExP
namespace Go.Proofs.Ythafmldcfdcngaa
open Ieee
set_option maxRecDepth 100000
set_option linter.unusedVariables false
set_option linter.unusedSimpArgs false

/-- The exponential function below nought. -/
def exA (d : Nat) : Nat := if (FloatKind.f32.format.order d 3276275712 == some .lt) = true then 0 else EXw d
theorem low_iff {d : Nat} {D : Rat} (h : Num .f32 d D) : (FloatKind.f32.format.order d 3276275712 == some .lt) = decide (D < -200) := by
  rw [order_num h num_m200f]
  by_cases hl : D < -200
  · rw [cmp_lt.2 hl, decide_eq_true hl]; rfl
  · rw [decide_eq_false hl]
    have : cmpQ D (-200) ≠ .lt := fun e => hl (cmp_lt.1 e)
    revert this; cases cmpQ D (-200) <;> simp
theorem exA_low {d : Nat} {D : Rat} (h : Num .f32 d D) (hl : D < -200) : exA d = 0 := by
  unfold exA; rw [low_iff h, decide_eq_true hl]; rfl
theorem exA_high {d : Nat} {D : Rat} (h : Num .f32 d D) (hl : ¬ D < -200) : exA d = EXw d := by
  unfold exA; rw [low_iff h, decide_eq_false hl]; rfl
theorem exA_num {d : Nat} {D : Rat} (h : Num .f32 d D) (h0 : D ≤ 0) : ∃ r, Num .f32 (exA d) r ∧ 0 ≤ r ∧ r ≤ 1 := by
  by_cases hl : D < -200
  · rw [exA_low h hl]; exact ⟨0, num_zero .f32, by decide, by decide⟩
  · rw [exA_high h hl]; exact (ex_neg h h0 (by grind)).2
def mlW (d : Nat) : Nat := fmul .f32 1056964608 (exA d)
def hwW (d : Nat) : Nat := fadd .f32 1056964608 (mlW d)
theorem hw_num {d : Nat} {D : Rat} (h : Num .f32 d D) (h0 : D ≤ 0) : floatBits .mul .f32 1056964608 (exA d) = some (mlW d) ∧ floatBits .add .f32 1056964608 (mlW d) = some (hwW d) ∧ ∃ y, Num .f32 (hwW d) y ∧ 1 / 2 ≤ y ∧ y ≤ 1 := by
  obtain ⟨r, hr, r0, r1⟩ := exA_num h h0
  have tm1 : two (-1) = 1 / 2 := by decide +kernel
  have b1 : Bd (-1) (1 / 2 * r) := by rw [Bd, tm1]; constructor <;> grind
  obtain ⟨g1, M, hM, rM⟩ := mul_o num_half hr (k0 := -1) (by decide) b1
  have M0 := rM.nonneg (by grind)
  have M1 := (rM.bd (by decide) b1).2
  rw [tm1] at M1
  have b2 : Bd 0 (1 / 2 + M) := by rw [Bd, show two 0 = 1 from rfl]; constructor <;> grind
  obtain ⟨g2, y, hy, ry⟩ := add_o num_half hM (k0 := 0) (by decide) b2
  refine ⟨g1, g2, y, hy, ?_, (ry.bd (by decide) b2).2⟩
  have := ry.dn (two (-1)) (rep_two _ _ (by decide)) (by rw [tm1]; grind)
  rwa [tm1] at this
/-- Two logarithms weighed. -/
def cbW (e s : Nat) : Nat := if (FloatKind.f32.format.order s e == some .gt) = true then fadd .f32 s (LOG (hwW (fsub .f32 e s))) else fadd .f32 e (LOG (hwW (fsub .f32 s e)))
/-- One branch: the greater and the less. -/
theorem cb_num {m l : Nat} {M L : Rat} {k0 : Int} (hm : Num .f32 m M) (hl : Num .f32 l L) (hle : L ≤ M) (bm : Bd k0 M) (bl : Bd k0 L) (h9 : 9 ≤ k0) (hk : k0 ≤ 60) :
    floatBits .sub .f32 l m = some (fsub .f32 l m) ∧ (∃ D, Num .f32 (fsub .f32 l m) D ∧ D ≤ 0) ∧ floatBits .add .f32 m (LOG (hwW (fsub .f32 l m))) = some (fadd .f32 m (LOG (hwW (fsub .f32 l m)))) ∧
    ∃ y g r, Num .f32 (hwW (fsub .f32 l m)) y ∧ 1 / 2 ≤ y ∧ y ≤ 1 ∧ Num .f32 (LOG (hwW (fsub .f32 l m))) g ∧ Bd 9 g ∧ Num .f32 (fadd .f32 m (LOG (hwW (fsub .f32 l m)))) r ∧ Rnd .f32 (M + g) r ∧ Bd (k0 + 1) r := by
  have hh : hiK .f32 = 127 := rfl
  have hl' : loK .f32 = -149 := rfl
  obtain ⟨g1, D, hD, rD⟩ := sub_o hl hm (k0 := k0 + 1) (by omega) (bl.sub bm)
  have hD0 := rD.nonpos (by grind)
  obtain ⟨-, -, y, hy, y0, y1⟩ := hw_num hD hD0
  obtain ⟨-, g, hg, bg⟩ := log_num hy (by grind)
  have b2 : Bd (k0 + 1) (M + g) := bm.add (bg.mono h9)
  obtain ⟨g2, r, hr, rr⟩ := add_o hm hg (k0 := k0 + 1) (by omega) b2
  exact ⟨g1, ⟨D, hD, hD0⟩, g2, y, g, r, hy, y0, y1, hg, bg, hr, rr, rr.bd (by omega) b2⟩
theorem gt_iff {e s : Nat} {E S : Rat} (he : Num .f32 e E) (hs : Num .f32 s S) : (FloatKind.f32.format.order s e == some .gt) = decide (E < S) := by
  rw [order_num hs he]
  by_cases hl : E < S
  · rw [cmp_gt.2 hl, decide_eq_true hl]; rfl
  · rw [decide_eq_false hl]
    have : cmpQ S E ≠ .gt := fun x => hl (cmp_gt.1 x)
    revert this; cases cmpQ S E <;> simp
theorem cb_bd {e s : Nat} {E S : Rat} {k0 : Int} (he : Num .f32 e E) (hs : Num .f32 s S) (be : Bd k0 E) (bs : Bd k0 S) (h9 : 9 ≤ k0) (hk : k0 ≤ 60) : ∃ r, Num .f32 (cbW e s) r ∧ Bd (k0 + 1) r := by
  unfold cbW
  rw [gt_iff he hs]
  by_cases h : E < S
  · rw [decide_eq_true h, if_pos rfl]
    obtain ⟨-, -, -, y, g, r, -, -, -, -, -, hr, -, br⟩ := cb_num hs he (by grind) bs be h9 hk
    exact ⟨r, hr, br⟩
  · rw [decide_eq_false h, if_neg (by simp)]
    obtain ⟨-, -, -, y, g, r, -, -, -, -, -, hr, -, br⟩ := cb_num he hs (by grind) be bs h9 hk
    exact ⟨r, hr, br⟩
/-- The words of nought. -/
theorem zero_words {x : Nat} (hx : x < 2 * FloatKind.f32.format.signWeight) (h : Num .f32 x 0) : x = 0 ∨ x = 2147483648 := by
  obtain ⟨s, m, e, hr, hv⟩ := h
  obtain ⟨a1, a2, a3, a4⟩ := read_parts .f32 hx hr
  have hm : m = 0 := by
    have : (m : Rat) * two e = 0 := by
      unfold dv at hv
      cases s
      · exact hv
      · simp only [if_true] at hv; grind
    rcases Rat.mul_eq_zero.1 this with h | h
    · exact Rat.natCast_eq_zero_iff.1 h
    · exact absurd h (Rat.ne_of_gt (two_pos e))
  have hB := bin_pos .f32
  have he : e = loK .f32 := by
    rcases a3 with h | h
    · exact h
    · omega
  rw [he, hm] at a4
  have hW : FloatKind.f32.format.signWeight = 2147483648 := rfl
  rw [hW] at a4
  have : (loK .f32 - loK .f32).toNat = 0 := by omega
  rw [this, Nat.zero_mul] at a4
  cases s
  · left; simpa using a4
  · right; simpa using a4
/-- Where both are equal it does not matter which is taken for the greater. -/
theorem cb_eq {e s : Nat} {E : Rat} (he : Num .f32 e E) (hs : Num .f32 s E) (we : e < 2 * FloatKind.f32.format.signWeight) (ws : s < 2 * FloatKind.f32.format.signWeight) (n : Bool) (hn : n = (FloatKind.f32.decode e).neg) :
    fadd .f32 (if n = true then s else e) (LOG (hwW (fsub .f32 (if n = true then e else s) (if n = true then s else e)))) = cbW e s := by
  have hc : cbW e s = fadd .f32 e (LOG (hwW (fsub .f32 s e))) := by
    unfold cbW; rw [gt_iff he hs, decide_eq_false Rat.lt_irrefl]; rfl
  rw [hc]
  by_cases h0 : E = 0
  · subst h0
    rcases zero_words we he with rfl | rfl <;> rcases zero_words ws hs with rfl | rfl
    · cases n <;> rfl
    · have : n = false := by rw [hn]; decide
      rw [this]; rfl
    · have : n = true := by rw [hn]; decide
      rw [this]; decide +kernel
    · cases n <;> rfl
  · have := word_unique .f32 we ws he hs h0
    subst this
    cases n <;> rfl
theorem fadd_wf {x y : Nat} : fadd .f32 x y < 2 * FloatKind.f32.format.signWeight := by
  unfold fadd oW
  cases h : floatBits .add .f32 x y with
  | none => show (0 : Nat) < _; decide
  | some z => exact fadd_lt h
theorem sm_wf (bits : List Bool) (deep c i : Nat) : smW bits deep c i < 2 * FloatKind.f32.format.signWeight := by
  induction i with
  | zero => show (0 : Nat) < _; decide
  | succ i ih => rw [smW]; split
                 · exact fadd_wf
                 · exact ih
/-- The weighed logarithm of a context; r: how many bits it may still be longer. -/
def wgW (bits : List Bool) (deep : Nat) : Nat → Nat → Nat
  | 0, c => smW bits deep c bits.length
  | r + 1, c => cbW (smW bits (deep - (r + 1)) c bits.length) (fadd .f32 (wgW bits deep r c) (wgW bits deep r (c + 2 ^ (deep - (r + 1)))))
theorem sm_num (bits : List Bool) (deep c : Nat) (h : bits.length ≤ 1024) : ∃ q, Num .f32 (smW bits deep c bits.length) q ∧ Bd 20 q := by
  obtain ⟨q, h1, h2, h3⟩ := sm_acc bits deep c bits.length h
  have : (bits.length : Rat) * two 10 ≤ ((2 ^ 10 : Nat) : Rat) * two 10 := cast_mul_le.2 h
  rw [← two_nat, ← two_add] at this
  exact ⟨q, h1, by unfold Bd; constructor <;> grind⟩
theorem wg_num (bits : List Bool) (deep : Nat) (h : bits.length ≤ 1024) (r : Nat) (hr : r ≤ 4) (c : Nat) : ∃ q, Num .f32 (wgW bits deep r c) q ∧ Bd (20 + 2 * r) q := by
  induction r generalizing c with
  | zero => exact sm_num bits deep c h
  | succ r ih =>
    obtain ⟨a, ha, ba⟩ := ih (by omega) c
    obtain ⟨b, hb, bb⟩ := ih (by omega) (c + 2 ^ (deep - (r + 1)))
    have hh : hiK .f32 = 127 := rfl
    have hl' : loK .f32 = -149 := rfl
    obtain ⟨-, s, hs, rs⟩ := add_o ha hb (k0 := 20 + 2 * r + 1) (by omega) (ba.add bb)
    obtain ⟨e, he, be⟩ := sm_num bits (deep - (r + 1)) c h
    obtain ⟨q, hq, bq⟩ := cb_bd he hs (k0 := 20 + 2 * r + 1) (be.mono (by omega)) (rs.bd (by omega) (ba.add bb)) (by omega) (by omega)
    exact ⟨q, hq, bq.mono (by omega)⟩
theorem wg_add (bits : List Bool) (deep : Nat) (h : bits.length ≤ 1024) (r : Nat) (hr : r ≤ 3) (c c' : Nat) : floatBits .add .f32 (wgW bits deep r c) (wgW bits deep r c') = some (fadd .f32 (wgW bits deep r c) (wgW bits deep r c')) ∧ ∃ q, Num .f32 (fadd .f32 (wgW bits deep r c) (wgW bits deep r c')) q ∧ Bd 40 q := by
  obtain ⟨a, ha, ba⟩ := wg_num bits deep h r (by omega) c
  obtain ⟨b, hb, bb⟩ := wg_num bits deep h r (by omega) c'
  have hh : hiK .f32 = 127 := rfl
  have hl' : loK .f32 = -149 := rfl
  obtain ⟨g, s, hs, rs⟩ := add_o ha hb (k0 := 20 + 2 * r + 1) (by omega) (ba.add bb)
  exact ⟨g, s, hs, (rs.bd (by omega) (ba.add bb)).mono (by omega)⟩
/-- The cost of all. -/
def wbW (bits : List Bool) (deep : Nat) : Nat := fdiv .f32 (fneg (wgW bits deep deep 0)) 1060205080
theorem wb_num (bits : List Bool) (deep : Nat) (h : bits.length ≤ 1024) (hd : deep ≤ 4) : floatBits .quo .f32 (fneg (wgW bits deep deep 0)) 1060205080 = some (wbW bits deep) ∧ ∃ q r, Num .f32 (wgW bits deep deep 0) q ∧ Num .f32 (wbW bits deep) r ∧ Rnd .f32 (-q / lnbQ) r := by
  obtain ⟨q, hq, bq⟩ := wg_num bits deep h deep hd 0
  have hd' : Bd 30 (-q / lnbQ) := (div_half bq.neg lnb_bd.1).mono (by omega)
  obtain ⟨g, r, hr, rr⟩ := div_o (neg_num hq) num_lnb (by have := lnb_bd; grind) (k0 := 30) (by decide) (by decide) hd'
  exact ⟨g, q, r, hq, hr, rr⟩
end Go.Proofs.Ythafmldcfdcngaa
