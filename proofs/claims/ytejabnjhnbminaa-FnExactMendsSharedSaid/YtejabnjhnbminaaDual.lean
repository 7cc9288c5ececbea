/- The rows of the dual code: what both packages return. -/
import Derived.Test.YtejabnjhnbminaaTop
import Derived.Test.YtejabnjhnbminaaCyc
import Derived.Deep.RegionHeld3
namespace Go.Proofs.Ytejabnjhnbminaa
open Go.RowKit
set_option maxRecDepth 100000
set_option linter.unusedVariables false
set_option linter.unusedSimpArgs false

theorem or_pow (t l : Nat) (ht : t < 65536) (hl : l < 16) : bits .or .i64 (t : Int) (2 ^ l) = ((t ||| 2 ^ l : Nat) : Int) := by
  have h1 : 2 ^ l ≤ 2 ^ 16 := Nat.pow_le_pow_right (by decide) (by omega)
  have e : (2 : Int) ^ l = ((2 ^ l : Nat) : Int) := by simp
  rw [e]; exact or_i64_nat t (2 ^ l) (by omega) (by omega)
theorem or_top_lt {k t y : Nat} (ht : t < 2 ^ k) (hy : y < 2 ^ k) (hk : 1 ≤ k) : t ||| 2 ^ y.log2 < 2 ^ k :=
  Nat.or_lt_two_pow ht (Nat.pow_lt_pow_right (by decide) (log2_lt_w hy (by omega)))
theorem pow_cast (n : Nat) : ((2 ^ n : Nat) : Int) = 2 ^ n := by simp
set_option maxHeartbeats 2000000 in
theorem dual_any (v : Value) (ns : List Nat) (k : Nat) (hk1 : 1 ≤ k) (hk : k ≤ 16) (w : World) (h : Rg eN w v ns) (hl0 : 1 ≤ ns.length) (hl8 : ns.length ≤ 8) (hl : Lt (2 ^ k) ns) (hpos : ∀ j, j < ns.length → 0 < gt (echR k ns) j) :
    Calls Try.prog 110 #[.agg #[.int .i64 k, v]] w fun e w' => ∃ v', e = .returned v' ∧ OI w.heap.size w' v' (ofN (dualR k ns)) ∧ Below w.heap.size w w' := by
  have hb : ∀ o, Below w.heap.size w (w.alloc o) := fun o => by go_grown
  obtain ⟨ao, cap, rfl⟩ := h.shape
  have g := h.below (hb (.cells #[.int .i64 k, .slice ao ns.length cap] 28))
  have hk65 : 2 ^ k ≤ 65536 := Nat.le_trans (Nat.pow_le_pow_right (by decide) hk) (by decide)
  have Hl0 := Lib.hid (show 0 < (echR k ns).length by rw [echR_len]; omega)
  have Hl8 := Lib.hid (show (echR k ns).length ≤ 8 by rw [echR_len]; omega)
  have Hlr := Lib.hid (show Lt (2 ^ k) (echR k ns) from echR_lt hl)
  have Hpos := Lib.hid (show ∀ j, j < (echR k ns).length → 0 < gt (echR k ns) j by rw [echR_len]; exact hpos)
  rw [show dualR k ns = du k (echR k ns) from rfl]
  generalize hrs : echR k ns = rs at *
  have Hrs := Lib.hid hrs
  clear hrs
  go_enter Try.func110, Try.ntmps110
  go_wp2_with fail
  refine (echelon_any _ ns k hk1 hk _ g hl0 hl8 hl).mono ?_
  rintro e w1 ⟨v1, rfl, ho, hb1⟩
  rw [Hrs.out] at ho
  have hr := blk_next hb1 (heap_alloc_new w _)
  obtain ⟨k0, k1, -, -⟩ := blk2 hr
  have hB : Below w.heap.size w w1 := bnext (hb _) hb1
  have hlt0 := blk_lt hr
  obtain ⟨ao1, cap1, rfl⟩ := ho.rg.shape
  obtain ⟨b0, o0, rfl, -, hcs⟩ := ho.rg.cells Hl0.out
  have hl8r := Hl8.out
  have Hcs := Lib.hid hcs
  clear hcs hr g hpos hl hl0 hl8 hb1 ho
  go_wp2_with fail
  go_loop [5, 23] (fun tv iv => ∃ i t : Nat, tv = .int .i64 t ∧ iv = .int .i64 i ∧ i ≤ rs.length ∧ t < 2 ^ k ∧ topF rs (rs.length - i) i t = tops rs) (fun _ iv => rs.length - (intOf iv).toNat)
  case atStart => exact ⟨0, 0, rfl, rfl, Nat.zero_le _, Nat.two_pow_pos k, rfl⟩
  case round =>
    obtain ⟨i, t, rfl, rfl, hi, ht, hq⟩ := hrel
    by_cases hil : i < rs.length
    · have hc := Hcs.out i hil
      rw [show rs.length - i = (rs.length - (i + 1)) + 1 by omega, topF, gt_eq hil] at hq
      have hy := Hlr.out.at i hil
      have hp := Hpos.out i hil
      rw [gt_eq hil] at hp
      generalize rs[i] = y at *
      have hlg := log2_lt_w hy (by omega)
      have hy65 : y < 65536 := by omega
      obtain ⟨hq1, hq2⟩ := pow16 y.log2 (by omega)
      have eo := or_pow t y.log2 (by omega) (by omega)
      have Hbt := Lib.hid (or_top_lt ht hy hk1)
      have Hq := Lib.hid hq
      clear hq
      go_wp2_with (go_at_call 137; refine (topOf_any y hp hy65 _).mono ?_; rintro e w' ⟨rfl, rfl⟩)
      go_round
      case rel => exact ⟨i + 1, _, rfl, by go_num, by omega, Hbt.out, Hq.out⟩
      case measure => simp [intOf] <;> omega
    · rw [show rs.length - i = 0 by omega, topF] at hq
      have Ht := Lib.hid hq
      clear hq
      go_wp2_with fail
      go_loopw [8, 36] (fun o jv wr => ∃ (j : Nat) (out : List Nat), jv = .int .i64 j ∧ j ≤ k ∧ out.length ≤ j ∧ duF rs (k - j) j out = du k rs ∧ OwnI w1.heap.size wr o (ofN out) ∧ Below w1.heap.size w1 wr) (fun _ jv _ => k - (intOf jv).toNat)
      case atStart => exact ⟨0, [], rfl, Nat.zero_le _, Nat.le_refl _, rfl, own_empty w1 _ (Nat.le_refl _), by go_grown⟩
      case round =>
        obtain ⟨j, out, rfl, hj, hol, hq, hown, hB1⟩ := hrel
        obtain ⟨ao2, cap2, rfl⟩ := hown.shape
        have hs1 := hB1.size
        have Hol := Lib.hid (ofN_len out)
        by_cases hjk : j < k
        · rw [show k - j = (k - (j + 1)) + 1 by omega, duF, ← Ht.out] at hq
          by_cases hd : hasD t j = true
          · rw [if_pos hd] at hq
            have Hq := Lib.hid hq
            clear hq
            go_wp2_with (go_at_call 138; refine (hasDigit_any t j (by omega) (by omega) _).mono ?_; rw [hd]; rintro e w' ⟨rfl, rfl⟩)
            go_roundw
            case rel => exact ⟨j + 1, out, by go_num, by omega, by omega, Hq.out, hown, hB1⟩
            case measure => simp [intOf] <;> omega
          · have hd : hasD t j = false := by simpa using hd
            rw [if_neg (by rw [hd]; decide)] at hq
            have Hq := Lib.hid hq
            clear hq
            obtain ⟨hq1, hq2⟩ := pow16 j (by omega)
            go_wp2_with (go_at_call 138; refine (hasDigit_any t j (by omega) (by omega) _).mono ?_; rw [hd]; rintro e w' ⟨rfl, rfl⟩)
            go_loop [10, 46] (fun tv iv => ∃ i u : Nat, tv = .int .i64 u ∧ iv = .int .i64 i ∧ i ≤ rs.length ∧ u < 2 ^ k ∧ dwF rs j (rs.length - i) i u = dw rs j) (fun _ iv => rs.length - (intOf iv).toNat)
            case atStart => exact ⟨0, 2 ^ j, by rw [pow_cast], rfl, Nat.zero_le _, Nat.pow_lt_pow_right (by decide) hjk, rfl⟩
            case round =>
              obtain ⟨i, u, rfl, rfl, hi, hu, hqq⟩ := hrel
              by_cases hil : i < rs.length
              · have hc := cnext hB1 (Hcs.out i hil)
                rw [show rs.length - i = (rs.length - (i + 1)) + 1 by omega, dwF, gt_eq hil] at hqq
                have hy := Hlr.out.at i hil
                have hp := Hpos.out i hil
                rw [gt_eq hil] at hp
                generalize rs[i] = y at *
                have hlg := log2_lt_w hy (by omega)
                have hy65 : y < 65536 := by omega
                by_cases hdd : hasD y j = true
                · rw [if_pos hdd] at hqq
                  obtain ⟨hq3, hq4⟩ := pow16 y.log2 (by omega)
                  have eo := or_pow u y.log2 (by omega) (by omega)
                  have Hbt := Lib.hid (or_top_lt hu hy hk1)
                  have Hqq := Lib.hid hqq
                  clear hqq
                  go_wp2_with (first | (go_at_call 138; refine (hasDigit_any y j hy65 (by omega) _).mono ?_; rw [hdd]; rintro e w' ⟨rfl, rfl⟩) | (go_at_call 137; refine (topOf_any y hp hy65 _).mono ?_; rintro e w' ⟨rfl, rfl⟩))
                  go_round
                  case rel => exact ⟨i + 1, _, rfl, by go_num, by omega, Hbt.out, Hqq.out⟩
                  case measure => simp [intOf] <;> omega
                · have hdd : hasD y j = false := by simpa using hdd
                  rw [if_neg (by rw [hdd]; decide)] at hqq
                  have Hqq := Lib.hid hqq
                  clear hqq
                  go_wp2_with (go_at_call 138; refine (hasDigit_any y j hy65 (by omega) _).mono ?_; rw [hdd]; rintro e w' ⟨rfl, rfl⟩)
                  go_round
                  case rel => exact ⟨i + 1, u, rfl, by go_num, by omega, hu, Hqq.out⟩
                  case measure => simp [intOf] <;> omega
              · rw [show rs.length - i = 0 by omega, dwF] at hqq
                have Hu := Lib.hid hqq
                clear hqq
                go_wp2_with (at_builtin; go_must (refine app_ints rfl _ _ rfl w1.heap.size w1.heap.size (Nat.le_refl _) (.slice ao2 (ofN out).length cap2) (ofN out) rfl hown hB1 _ _ [(u : Int)] rfl rfl (by rw [Hol.out]; simp; omega) hs1 ?_))
                intro v' w' hown' hB' hg'
                rw [ofN_snoc, Hu.out] at hown'
                obtain ⟨ao3, cap3, rfl⟩ := hown'.shape
                clear hg' hown hB1
                go_wp2
                go_roundw
                case rel => exact ⟨j + 1, _, by go_num, by omega, by simp; omega, Hq.out, hown', hB'⟩
                case measure => simp [intOf] <;> omega
        · rw [show k - j = 0 by omega, duF] at hq
          have hoi : OI w1.heap.size wr (.slice ao2 (ofN out).length cap2) (ofN (du k rs)) := by rw [← hq]; exact hown.oi (ofN_i64 (M := 2 ^ k) (by rw [hq]; exact du_lt Hlr.out) (by omega))
          have Hoi := Lib.hid hoi
          clear hoi hq hown
          go_wp2
          go_ret
          exact ⟨_, rfl, OI.mono (by omega) Hoi.out, bnext hB hB1⟩
end Go.Proofs.Ytejabnjhnbminaa
