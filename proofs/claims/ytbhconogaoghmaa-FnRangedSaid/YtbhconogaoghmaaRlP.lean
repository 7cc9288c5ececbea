/- How many bits a text has: no more than its cost, nearly. Plain; conditions: counts of at least 1, at most 5461 in all, at most 40 letters. -/
import Derived.Test.YtbhconogaoghmaaRtP
import Derived.Test.YtbhconogaoghmaaLnM
import Derived.Test.YtbhconogaoghmaaCot
namespace Go.Proofs.Ytbhconogaoghmaa
open Go.RowKit Ieee
set_option maxRecDepth 100000
set_option linter.unusedVariables false
set_option linter.unusedSimpArgs false

theorem wid_wide (f : Nat) (r : Rs) : ∃ k : Nat, (wid f r).bits.length + (wid f r).wait = r.bits.length + r.wait + k ∧ (wid f r).high - (wid f r).low + 1 = 2 ^ k * (r.high - r.low + 1) := by
  induction f generalizing r with
  | zero => exact ⟨0, rfl, by simp [wid]⟩
  | succ f ih =>
    rw [wid]
    cases hh : halv r.low r.high with
    | none => exact ⟨0, rfl, by simp⟩
    | some b =>
      obtain ⟨k, h1, h2⟩ := ih ⟨2 * (r.low - b), 2 * (r.high - b) + 1, if b = 16384 then r.wait + 1 else 0, if b = 16384 then r.bits else r.bits ++ tellB (decide (b = 32768)) r.wait⟩
      refine ⟨k + 1, ?_, ?_⟩
      · rw [h1]
        dsimp only
        by_cases hb : b = 16384
        · rw [if_pos hb, if_pos hb]; omega
        · rw [if_neg hb, if_neg hb, List.length_append, tell_len]; omega
      · rw [h2, Int.pow_succ]
        dsimp only
        rw [show 2 * (r.high - b) + 1 - 2 * (r.low - b) + 1 = 2 * (r.high - r.low + 1) by omega]
        generalize r.high - r.low + 1 = w
        generalize (2 : Int) ^ k = q
        grind
theorem bumpG_zero (cs : List Int) (l : Nat) (hl : l < cs.length) : bumpG cs l 0 = cs := by
  unfold bumpG
  rw [Int.add_zero, git_eq hl, List.set_getElem_self]
theorem le_cast {a b : Int} (h : a ≤ b) : (a : Rat) ≤ (b : Rat) := Rat.intCast_le_intCast.2 h
theorem lt_cast {a b : Int} (h : a < b) : (a : Rat) < (b : Rat) := Rat.intCast_lt_intCast.2 h
theorem t15 : two (-15) ≤ 1 / 30000 ∧ ep4 ≤ 1 / 1000000 := by constructor <;> decide +kernel
/-- What one letter costs, and what it narrows. -/
theorem gain {W c T N : Int} (hW : 16384 ≤ W) (hW2 : W ≤ 65536) (hc : 1 ≤ c) (hT : c ≤ T) (hT2 : T ≤ 5461) (hN : W * c / T ≤ N) (hN2 : N ≤ W) :
    Lr (W : Rat) - Lr (N : Rat) ≤ -Lr ((c : Rat) / (T : Rat)) + 1 / 3 + 1 / 20000 := by
  have hT0 : 0 < T := by omega
  have w3 : 3 ≤ W * c / T := by
    rw [Int.le_ediv_iff_mul_le hT0]
    have : W * 1 ≤ W * c := Int.mul_le_mul_of_nonneg_left hc (by omega)
    omega
  have hy : W * c < (N + 1) * T := by
    have := Int.lt_mul_ediv_self_add (x := W * c) hT0
    have h2 : T * (W * c / T) + T ≤ (N + 1) * T := by
      have : T * (W * c / T) ≤ T * N := Int.mul_le_mul_of_nonneg_left hN (by omega)
      rw [Int.add_mul, Int.mul_comm N T]; omega
    omega
  have N3 : 3 ≤ N := by omega
  have cW1 : (16384 : Rat) ≤ (W : Rat) := le_cast hW
  have cW2 : (W : Rat) ≤ 65536 := le_cast hW2
  have cN3 : (3 : Rat) ≤ (N : Rat) := le_cast N3
  have cN2 : (N : Rat) ≤ (W : Rat) := le_cast hN2
  have cc1 : (1 : Rat) ≤ (c : Rat) := le_cast hc
  have ccT : (c : Rat) ≤ (T : Rat) := le_cast hT
  have cT2 : (T : Rat) ≤ 5461 := le_cast hT2
  have cy := lt_cast hy
  rw [Rat.intCast_mul, Rat.intCast_mul, Rat.intCast_add, show ((1 : Int) : Rat) = 1 from rfl] at cy
  have hq := Rat.div_mul_cancel (a := (c : Rat)) (b := (T : Rat)) (by grind)
  generalize (c : Rat) / (T : Rat) = q at *
  generalize (W : Rat) = w at *
  generalize (c : Rat) = d at *
  generalize (T : Rat) = t at *
  generalize (N : Rat) = n at *
  have t0 : 0 < t := by grind
  have q1 : q ≤ 1 := (le_mul_cancel t0).1 (by grind)
  have q0 : 1 / 5461 ≤ q := (le_mul_cancel t0).1 (by rw [hq]; grind)
  have y1 : w * q < n + 1 := by
    refine Rat.not_le.1 fun hn => ?_
    have := Rat.mul_le_mul_of_nonneg_right hn (Rat.le_of_lt t0)
    rw [Rat.mul_assoc, hq] at this
    exact absurd cy (Rat.not_lt.2 this)
  have k14 : two (-14) ≤ 1 / 5461 := by decide +kernel
  have k13 : two (-13) = 1 / 8192 := by decide +kernel
  have tw14 : (16384 : Rat) = two 14 := by decide +kernel
  have tw16 : (65536 : Rat) = two 16 := by decide +kernel
  have y3 : 3 ≤ w * q := by
    have := Rat.mul_le_mul_of_nonneg_right cW1 (show 0 ≤ q by grind)
    grind
  have y2 : w * q ≤ w := by
    have := Rat.mul_le_mul_of_nonneg_left q1 (show 0 ≤ w by grind)
    grind
  have m := lr_mul (x := w) (y := q) (Rat.le_trans (two_le (by decide)) (tw14 ▸ cW1)) (Rat.le_trans (tw16 ▸ cW2) (two_le (by decide))) (Rat.le_trans (Rat.le_trans (two_le (by decide)) k14) q0) (Rat.le_trans (show q ≤ two 0 from q1) (two_le (by decide)))
  have two1 : two 0 = 1 := rfl
  have ty : two (-100) ≤ 1 := by decide +kernel
  have iy : In (w * q) := ⟨by grind, Rat.le_trans (show w * q ≤ two 16 by rw [← tw16]; grind) (two_le (by decide))⟩
  have iN : In n := ⟨by grind, Rat.le_trans (show n ≤ two 16 by rw [← tw16]; grind) (two_le (by decide))⟩
  have l := lt_r iy iN
  have l2 : Lr (w * q) - Lr n - ep4 ≤ 1 / 3 := cancel_le (show 0 < n by grind) (by grind)
  obtain ⟨m1, m2⟩ := m
  have := t15
  grind
/-- The sum of what the letters cost. -/
noncomputable def lamS (cs : List Int) : List Int → Rat
  | [] => 0
  | z :: zs => -Lr ((git cs z.toNat : Rat) / (sumL cs : Rat)) + lamS cs zs
theorem lr_256 (w : Rat) (h1 : 16384 ≤ w) (h2 : w ≤ 65536) : In w ∧ In 65536 ∧ Lr w - Lr 65536 ≤ ep4 := by
  have tw14 : (16384 : Rat) = two 14 := by decide +kernel
  have tw16 : (65536 : Rat) = two 16 := by decide +kernel
  have i1 : In w := in_of (i := 14) (j := 16) (by decide) (by decide) (tw14 ▸ h1) (tw16 ▸ h2)
  have i2 : In 65536 := in_of (i := 16) (j := 16) (by decide) (by decide) (by rw [tw16]; exact Rat.le_refl) (by rw [tw16]; exact Rat.le_refl)
  have := lt_r i1 i2
  refine ⟨i1, i2, ?_⟩
  have : Lr w - Lr 65536 - ep4 ≤ 0 := cancel_le (show (0 : Rat) < 65536 by decide +kernel) (by grind)
  grind
theorem div_add_le {a b t : Int} (ht : 0 < t) : a / t + b / t ≤ (a + b) / t := by
  rw [Int.le_ediv_iff_mul_le ht, Int.add_mul]
  have h1 := Int.mul_ediv_self_le (x := a) (k := t) (by omega)
  have h2 := Int.mul_ediv_self_le (x := b) (k := t) (by omega)
  rw [Int.mul_comm] at h1 h2
  omega
theorem bits_bd (zs cs : List Int) (r : Rs) (h : Mid r cs) (hp : Pos cs) (hs : sumL cs ≤ 5461) (hz : ∀ z ∈ zs, 0 ≤ z ∧ z < cs.length) :
    (((rbF 0 zs cs r).length : Rat) - 2 - ((r.bits.length + r.wait : Nat) : Rat)) * ln2Q ≤ Lr 65536 - Lr ((r.high - r.low + 1 : Int) : Rat) + ep4 + lamS cs zs + (zs.length : Rat) * (1 / 3 + 1 / 10000) := by
  induction zs generalizing r with
  | nil =>
    have hw := halv_none h.n
    have h0 := h.l0
    have h1 := h.h1
    have w1 : (16384 : Rat) ≤ ((r.high - r.low + 1 : Int) : Rat) := le_cast (a := 16384) (by omega)
    have w2 : ((r.high - r.low + 1 : Int) : Rat) ≤ 65536 := le_cast (b := 65536) (by omega)
    obtain ⟨-, -, l⟩ := lr_256 _ w1 w2
    have e : (rbF 0 [] cs r).length = (r.bits.length + r.wait) + 2 := by rw [rbF, List.length_append, tell_len]; omega
    rw [e, Rat.natCast_add, show ((2 : Nat) : Rat) = 2 from rfl, lamS, show (([] : List Int).length : Rat) = 0 from rfl]
    grind
  | cons z zs ih =>
    have hz0 := hz z (by simp)
    have hl : z.toNat < cs.length := by omega
    have hw := halv_none h.n
    have h0 := h.l0
    have hlh := h.lh
    have h1 := h.h1
    have hn := narrow_bd hp hl h.l0 h.h1 (by omega)
    have hm := h.next hp (by omega) hl cs
    obtain ⟨k, k1, k2⟩ := wid_wide 17 ⟨nLow cs z.toNat r.low r.high, nHigh cs z.toNat r.low r.high, r.wait, r.bits⟩
    have IH := ih _ hm (fun y hy => hz y (List.mem_cons_of_mem _ hy))
    rw [rbF, bumpG_zero cs _ hl]
    generalize wid 17 ⟨nLow cs z.toNat r.low r.high, nHigh cs z.toNat r.low r.high, r.wait, r.bits⟩ = r' at *
    have hw' := halv_none hm.n
    have h0' := hm.l0
    have h1' := hm.h1
    have w1' : (16384 : Rat) ≤ ((r'.high - r'.low + 1 : Int) : Rat) := le_cast (a := 16384) (by omega)
    have w2' : ((r'.high - r'.low + 1 : Int) : Rat) ≤ 65536 := le_cast (b := 65536) (by omega)
    dsimp only at k1 k2
    have hbn := befo_next hp hl
    have hb0 := (befo_bd hp z.toNat).1
    have hN : (r.high - r.low + 1) * git cs z.toNat / sumL cs ≤ nHigh cs z.toNat r.low r.high - nLow cs z.toNat r.low r.high + 1 := by
      unfold nHigh nLow
      have hs0 : 0 < sumL cs := by omega
      have e := div_add_le (a := (r.high - r.low + 1) * befo cs z.toNat) (b := (r.high - r.low + 1) * git cs z.toNat) hs0
      rw [Int.mul_add]
      omega
    have g := gain (W := r.high - r.low + 1) (c := git cs z.toNat) (T := sumL cs) (N := nHigh cs z.toNat r.low r.high - nLow cs z.toNat r.low r.high + 1) (by omega) (by omega) hbn.1 (by omega) hs hN (by omega)
    rw [k1, k2] at IH
    rw [k2] at w1' w2'
    have nN1 : (1 : Rat) ≤ ((nHigh cs z.toNat r.low r.high - nLow cs z.toNat r.low r.high + 1 : Int) : Rat) := le_cast (a := 1) (by omega)
    have nN2 : ((nHigh cs z.toNat r.low r.high - nLow cs z.toNat r.low r.high + 1 : Int) : Rat) ≤ 65536 := le_cast (b := 65536) (by omega)
    have ek : (((2 : Int) ^ k * (nHigh cs z.toNat r.low r.high - nLow cs z.toNat r.low r.high + 1) : Int) : Rat) = two k * ((nHigh cs z.toNat r.low r.high - nLow cs z.toNat r.low r.high + 1 : Int) : Rat) := by
      rw [Rat.intCast_mul, two_nat]
      congr 1
    rw [ek] at IH w1' w2'
    rw [Rat.natCast_add] at IH
    generalize ((nHigh cs z.toNat r.low r.high - nLow cs z.toNat r.low r.high + 1 : Int) : Rat) = n at *
    generalize ((r.high - r.low + 1 : Int) : Rat) = w at *
    have tw0 : (1 : Rat) = two 0 := rfl
    have tw16 : (65536 : Rat) = two 16 := by decide +kernel
    have iN : In n := in_of (i := 0) (j := 16) (by decide) (by decide) (tw0 ▸ nN1) (tw16 ▸ nN2)
    have iW := (lr_256 _ w1' w2').1
    have l2 := lr_two iN iW
    rw [Rat.intCast_natCast] at l2
    have e1 : ((zs.length + 1 : Nat) : Rat) = (zs.length : Rat) + 1 := by rw [Rat.natCast_add]; rfl
    rw [lamS, List.length_cons, e1]
    have hep := t15.2
    obtain ⟨l3, l4⟩ := l2
    clear hN k1 k2 ek w1' w2' nN1 nN2 iN iW tw0 tw16
    generalize (rbF 0 zs cs r').length = A at *
    generalize ((r.bits.length + r.wait : Nat) : Rat) = D at *
    generalize lamS cs zs = S at *
    generalize Lr (two k * n) = L1 at *
    generalize Lr n = L0 at *
    generalize Lr w = LW at *
    generalize Lr 65536 = L6 at *
    generalize Lr ((git cs z.toNat : Rat) / (sumL cs : Rat)) = G at *
    generalize (k : Rat) = kq at *
    generalize (zs.length : Rat) = nz at *
    grind
end Go.Proofs.Ytbhconogaoghmaa
