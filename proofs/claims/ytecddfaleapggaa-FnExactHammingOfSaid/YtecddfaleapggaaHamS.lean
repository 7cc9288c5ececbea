/- HammingOf in the reference. No conditions. -/
import Derived.Test.YtecddfaleapggaaHam
namespace Go.Proofs.Ytecddfaleapggaa
open Go.RowKit
set_option maxRecDepth 100000
set_option linter.unusedVariables false
set_option linter.unusedSimpArgs false

theorem wrap_ham (i : Nat) (h : i < 3) : IntKind.u64.wrap ((2 : Int) ^ i - 1) = 2 ^ i - 1 := by
  obtain ⟨h1, h2, h3, h4⟩ := ham_i i h
  rw [IntKind.wrap_u64]; omega
set_option maxHeartbeats 2000000 in
theorem specHam_any (n : Int) (w : World) :
    Calls Try.prog 36 #[.int .i64 n] w fun e w' => ∃ v', e = .returned (.tuple #[.agg #[.int .i64 (apN (hmOk n) (hmN n)), v'], .bool (hmOk n)]) ∧ OI w.heap.size w' v' (apZ (hmOk n) (hmZ n)) ∧ Below w.heap.size w w' := by
  by_cases h1 : inB n 2 3 = true
  · have hp := inB_eq h1
    simp only [if_true] at hp
    obtain ⟨hp1, hp2⟩ := hp
    obtain ⟨m, rfl⟩ := Int.eq_ofNat_of_zero_le (show 0 ≤ n by omega)
    have HOK := Lib.hid (show hmOk m = prv (hmN m) (hmZ m) by simp [hmOk, h1])
    obtain ⟨N, hN1, hN2⟩ : ∃ N : Nat, (2 : Int) ^ m = (N : Int) + 1 ∧ N ≤ 7 := by
      rcases (show m = 2 ∨ m = 3 by omega) with rfl | rfl
      · exact ⟨3, by decide, by decide⟩
      · exact ⟨7, by decide, by decide⟩
    have HZ := Lib.hid (show hmZ m = ofN (hmF m N 1 []) by
      rw [hmZ, Int.toNat_natCast]
      have e : 2 ^ m = N + 1 := by have e : ((2 ^ m : Nat) : Int) = (2 : Int) ^ m := by simp
                                   omega
      rw [e]; rfl)
    have HN : hmN m = (N : Int) := by rw [hmN, Int.toNat_natCast]; omega
    rw [HN] at HOK ⊢
    clear HN
    by_cases hm : (m : Int) = 2
    · have hA : ((m : Int) != 2) = false := by rw [bne_eq_false_iff_eq]; omega
      have hA3 : ((m : Int) != 3) = true := by rw [bne_iff_ne]; omega
      clear hm
      go_enter Try.func36, Try.ntmps36
      go_wp2_with fail
      go_loopw [5] (fun xv wr => ∃ (x : Nat) (out : List Nat) (v : Value), xv = .int .i64 x ∧ 1 ≤ x ∧ x ≤ N + 1 ∧ out.length < x ∧ hmF m (N + 1 - x) x out = hmF m N 1 [] ∧ Lt 128 out ∧ OwnI (w.heap.size + 1 + 1) wr v (ofN out) ∧ wr.heap[w.heap.size]? = some (.cells #[.int .i64 0, .slice none 0 0] 27 (0, 0)) ∧ wr.heap[w.heap.size + 1]? = some (.cells #[.int .i64 N, v] 27 (0, 0)) ∧ Below w.heap.size w wr) (fun xv _ => N + 1 - (intOf xv).toNat)
      case atStart => exact ⟨1, [], .slice none 0 0, rfl, by omega, by omega, by simp, by simp, (fun y hy => by cases hy), own_nil _ _, blk_alloc (heap_alloc_new w _), box_second w _ _ _ _, by go_grown⟩
      case round =>
        obtain ⟨x, out, v, rfl, hx1, hx2, hol, hq, hlo, hown, hr, hc0, hB⟩ := hrel
        have hlt := blk_lt hc0
        obtain ⟨ao, cap, rfl⟩ := hown.shape
        obtain ⟨c0, c1, d0, d1⟩ := blk2 hc0
        have Hol := Lib.hid (ofN_len out)
        by_cases hc : x ≤ N
        · rw [show N + 1 - x = (N + 1 - (x + 1)) + 1 by omega, hmF] at hq
          have hwl := wt_le x
          have hwa := fun w => l06Weight_any x (by omega) w
          generalize wt x = wx at *
          by_cases hd : wx = 1
          · rw [if_pos hd] at hq
            have Hq := Lib.hid hq
            have hdi : ((wx : Nat) : Int) = 1 := by omega
            clear hq
            go_wp2_with (go_at_call 68; refine (hwa _).mono ?_; rintro e w' ⟨rfl, rfl⟩)
            go_roundw
            case rel => exact ⟨x + 1, out, _, by go_num, by omega, by omega, by omega, Hq.out, hlo, hown, hr, hc0, hB⟩
            case measure => simp [intOf] <;> omega
          · rw [if_neg hd] at hq
            have Hq := Lib.hid hq
            have hdi : (((wx : Nat) : Int) == 1) = false := by rw [beq_eq_false_iff_ne]; omega
            obtain ⟨s, hs⟩ : ∃ s : Nat, (x : Int) - 1 = s := ⟨x - 1, by omega⟩
            obtain ⟨hq1, hq2⟩ := pow16 s (by omega)
            have Hs := Lib.hid (show x - 1 = s by omega)
            have Hs7 := Lib.hid (show s < 7 by omega)
            have hsw : IntKind.u64.wrap (s : Int) = s := by rw [IntKind.wrap_u64]; omega
            clear hq hN1
            go_wp2_with (go_at_call 68; refine (hwa _).mono ?_; rintro e w' ⟨rfl, rfl⟩)
            go_loop [6, 7] (fun yv iv => ∃ i y : Nat, yv = .int .i64 y ∧ iv = .int .i64 i ∧ i ≤ m ∧ y < 128 ∧ hrF x (m - i) i y = hrow m x) (fun _ iv => m - (intOf iv).toNat)
            case atStart => exact ⟨0, 2 ^ s, by rw [pow_cast'], rfl, Nat.zero_le _, Nat.pow_lt_pow_right (by decide) Hs7.out, by rw [hrow, Hs.out]; rfl⟩
            case round =>
              obtain ⟨i, y, rfl, rfl, hi, hy, hqq⟩ := hrel
              by_cases him : i < m
              · rw [show m - i = (m - (i + 1)) + 1 by omega, hrF] at hqq
                obtain ⟨hi1, hi2, hi3, hi4⟩ := ham_i i (by omega)
                by_cases hdd : hasD x i = true
                · rw [if_pos hdd] at hqq
                  obtain ⟨hq3, hq4⟩ := pow16 (2 ^ i - 1) (by omega)
                  have hiw := wrap_ham i (by omega)
                  have eo := or_ham y (2 ^ i - 1) hy (by omega)
                  have Hb := Lib.hid (show y ||| 2 ^ (2 ^ i - 1) < 128 from Nat.or_lt_two_pow (n := 7) (by omega) (Nat.pow_lt_pow_right (by decide) (by omega)))
                  have Hqq := Lib.hid hqq
                  clear hqq
                  go_wp2_with (go_at_call 66; refine (l06Has_any x i (by omega) (by omega) _).mono ?_; rw [hdd]; rintro e w' ⟨rfl, rfl⟩)
                  go_round
                  case rel => exact ⟨i + 1, _, rfl, by go_num, by omega, Hb.out, Hqq.out⟩
                  case measure => simp [intOf] <;> omega
                · have hdd : hasD x i = false := by simpa using hdd
                  rw [if_neg (by rw [hdd]; decide)] at hqq
                  have Hqq := Lib.hid hqq
                  clear hqq
                  go_wp2_with (go_at_call 66; refine (l06Has_any x i (by omega) (by omega) _).mono ?_; rw [hdd]; rintro e w' ⟨rfl, rfl⟩)
                  go_round
                  case rel => exact ⟨i + 1, y, rfl, by go_num, by omega, hy, Hqq.out⟩
                  case measure => simp [intOf] <;> omega
              · rw [show m - i = 0 by omega, hrF] at hqq
                have Hu := Lib.hid hqq
                clear hqq
                go_wp2_with (at_builtin; go_must (refine app_ints rfl _ _ rfl (w.heap.size + 1 + 1) w.heap.size (by omega) (.slice ao (ofN out).length cap) (ofN out) rfl hown hB _ _ [(y : Int)] rfl rfl (by rw [Hol.out]; simp; omega) (by omega) ?_))
                intro v1 w1 hown1 hB1 hg1
                have Hy := Lib.hid hy
                rw [ofN_snoc] at hown1
                obtain ⟨ao1, cap1, rfl⟩ := hown1.shape
                have hr1 := blk_grown hg1 (fun e => by have := (hown.lt _ e.symm).1; omega) (blk_alloc hr)
                have hc1 := blk_grown hg1 (fun e => by have := (hown.lt _ e.symm).1; omega) (blk_alloc hc0)
                clear hg1 hown hB hr hc0 c0 c1 d0 d1
                obtain ⟨c0, c1, d0, d1⟩ := blk2 hc1
                have hown2 := hown1.set ⟨w.heap.size + 1, 1, none⟩ (.slice ao1 (ofN (out ++ [y])).length cap1) (by simp)
                have hr2 := blk_other (p := ⟨w.heap.size + 1, 1, none⟩) (u := .slice ao1 (ofN (out ++ [y])).length cap1) (by simp) hr1
                have hc2 := blk_set1 (u := .slice ao1 (ofN (out ++ [y])).length cap1) hc1
                have hB2 := hB1.setCell (p := ⟨w.heap.size + 1, 1, none⟩) (by simp) (.slice ao1 (ofN (out ++ [y])).length cap1)
                clear hown1 hr1 hc1 hB1
                go_wp2
                go_roundw
                case rel => exact ⟨x + 1, out ++ [y], _, by go_num, by omega, by omega, by simp; omega, by rw [Hu.out]; exact Hq.out, snoc_lt hlo Hy.out, hown2, hr2, hc2, hB2⟩
                case measure => simp [intOf] <;> omega
        · rw [show N + 1 - x = 0 by omega, hmF] at hq
          have hz : hmZ m = ofN out := by rw [HZ.out, ← hq]
          have ho : OI (w.heap.size + 1 + 1) wr (.slice ao (ofN out).length cap) (hmZ m) := by rw [hz]; exact hown.oi (ofN_i64 hlo (by decide))
          clear hq hz hown
          go_wp2_with fail
          by_cases hpv : prv (N : Int) (hmZ m) = true
          · (with_reducible refine Calls.mono (l06Give_any (N : Int) _ (hmZ m) _ ho.ri) ?_)
            rw [hpv, apN_t, apV_t]
            rintro e w3 ⟨rfl, hb3⟩
            obtain ⟨r0, r1, q0, q1⟩ := blk2 (blk_next hb3 hr)
            have hBf := bnext hB hb3
            have hok3 := OI.below hb3 ho
            have hfin := OI.box hok3 (w.heap.size) (by omega) (.int .i64 (N : Int)) (.slice ao (ofN out).length cap)
            have hfB := below_box hBf (w.heap.size) (by omega) (.int .i64 (N : Int)) (.slice ao (ofN out).length cap)
            have Hf := Lib.hid hfin
            have HP := Lib.hid hpv
            clear hok3 hfin hpv
            go_wp2
            exact bodyPost_ret (v := .tuple #[.agg #[.int .i64 (N : Int), (.slice ao (ofN out).length cap)], .bool true]) (by simp [results, Try.results36, go_sem, r0, r1]) rfl ⟨(.slice ao (ofN out).length cap), by rw [HOK.out, HP.out]; rfl, by rw [HOK.out, HP.out]; exact OI.mono (by omega) Hf.out, hfB⟩
          · have hpv : prv (N : Int) (hmZ m) = false := by simpa using hpv
            (with_reducible refine Calls.mono (l06Give_any (N : Int) _ (hmZ m) _ ho.ri) ?_)
            rw [hpv, apN_f, apV_f]
            rintro e w3 ⟨rfl, hb3⟩
            obtain ⟨r0, r1, q0, q1⟩ := blk2 (blk_next hb3 hr)
            have hBf := bnext hB hb3
            have hfB := below_box hBf (w.heap.size) (by omega) (.int .i64 0) (.slice none 0 0)
            have HP := Lib.hid hpv
            clear hpv
            go_wp2
            exact bodyPost_ret (v := .tuple #[.agg #[.int .i64 0, .slice none 0 0], .bool false]) (by simp [results, Try.results36, go_sem, r0, r1]) rfl ⟨.slice none 0 0, by rw [HOK.out, HP.out]; rfl, by rw [HOK.out, HP.out]; exact OI.nil _ _, hfB⟩
    · have hA : ((m : Int) != 2) = true := by rw [bne_iff_ne]; omega
      have hA3 : ((m : Int) != 3) = false := by rw [bne_eq_false_iff_eq]; omega
      clear hm
      go_enter Try.func36, Try.ntmps36
      go_wp2_with fail
      go_loopw [5] (fun xv wr => ∃ (x : Nat) (out : List Nat) (v : Value), xv = .int .i64 x ∧ 1 ≤ x ∧ x ≤ N + 1 ∧ out.length < x ∧ hmF m (N + 1 - x) x out = hmF m N 1 [] ∧ Lt 128 out ∧ OwnI (w.heap.size + 1 + 1) wr v (ofN out) ∧ wr.heap[w.heap.size]? = some (.cells #[.int .i64 0, .slice none 0 0] 27 (0, 0)) ∧ wr.heap[w.heap.size + 1]? = some (.cells #[.int .i64 N, v] 27 (0, 0)) ∧ Below w.heap.size w wr) (fun xv _ => N + 1 - (intOf xv).toNat)
      case atStart => exact ⟨1, [], .slice none 0 0, rfl, by omega, by omega, by simp, by simp, (fun y hy => by cases hy), own_nil _ _, blk_alloc (heap_alloc_new w _), box_second w _ _ _ _, by go_grown⟩
      case round =>
        obtain ⟨x, out, v, rfl, hx1, hx2, hol, hq, hlo, hown, hr, hc0, hB⟩ := hrel
        have hlt := blk_lt hc0
        obtain ⟨ao, cap, rfl⟩ := hown.shape
        obtain ⟨c0, c1, d0, d1⟩ := blk2 hc0
        have Hol := Lib.hid (ofN_len out)
        by_cases hc : x ≤ N
        · rw [show N + 1 - x = (N + 1 - (x + 1)) + 1 by omega, hmF] at hq
          have hwl := wt_le x
          have hwa := fun w => l06Weight_any x (by omega) w
          generalize wt x = wx at *
          by_cases hd : wx = 1
          · rw [if_pos hd] at hq
            have Hq := Lib.hid hq
            have hdi : ((wx : Nat) : Int) = 1 := by omega
            clear hq
            go_wp2_with (go_at_call 68; refine (hwa _).mono ?_; rintro e w' ⟨rfl, rfl⟩)
            go_roundw
            case rel => exact ⟨x + 1, out, _, by go_num, by omega, by omega, by omega, Hq.out, hlo, hown, hr, hc0, hB⟩
            case measure => simp [intOf] <;> omega
          · rw [if_neg hd] at hq
            have Hq := Lib.hid hq
            have hdi : (((wx : Nat) : Int) == 1) = false := by rw [beq_eq_false_iff_ne]; omega
            obtain ⟨s, hs⟩ : ∃ s : Nat, (x : Int) - 1 = s := ⟨x - 1, by omega⟩
            obtain ⟨hq1, hq2⟩ := pow16 s (by omega)
            have Hs := Lib.hid (show x - 1 = s by omega)
            have Hs7 := Lib.hid (show s < 7 by omega)
            have hsw : IntKind.u64.wrap (s : Int) = s := by rw [IntKind.wrap_u64]; omega
            clear hq hN1
            go_wp2_with (go_at_call 68; refine (hwa _).mono ?_; rintro e w' ⟨rfl, rfl⟩)
            go_loop [6, 7] (fun yv iv => ∃ i y : Nat, yv = .int .i64 y ∧ iv = .int .i64 i ∧ i ≤ m ∧ y < 128 ∧ hrF x (m - i) i y = hrow m x) (fun _ iv => m - (intOf iv).toNat)
            case atStart => exact ⟨0, 2 ^ s, by rw [pow_cast'], rfl, Nat.zero_le _, Nat.pow_lt_pow_right (by decide) Hs7.out, by rw [hrow, Hs.out]; rfl⟩
            case round =>
              obtain ⟨i, y, rfl, rfl, hi, hy, hqq⟩ := hrel
              by_cases him : i < m
              · rw [show m - i = (m - (i + 1)) + 1 by omega, hrF] at hqq
                obtain ⟨hi1, hi2, hi3, hi4⟩ := ham_i i (by omega)
                by_cases hdd : hasD x i = true
                · rw [if_pos hdd] at hqq
                  obtain ⟨hq3, hq4⟩ := pow16 (2 ^ i - 1) (by omega)
                  have hiw := wrap_ham i (by omega)
                  have eo := or_ham y (2 ^ i - 1) hy (by omega)
                  have Hb := Lib.hid (show y ||| 2 ^ (2 ^ i - 1) < 128 from Nat.or_lt_two_pow (n := 7) (by omega) (Nat.pow_lt_pow_right (by decide) (by omega)))
                  have Hqq := Lib.hid hqq
                  clear hqq
                  go_wp2_with (go_at_call 66; refine (l06Has_any x i (by omega) (by omega) _).mono ?_; rw [hdd]; rintro e w' ⟨rfl, rfl⟩)
                  go_round
                  case rel => exact ⟨i + 1, _, rfl, by go_num, by omega, Hb.out, Hqq.out⟩
                  case measure => simp [intOf] <;> omega
                · have hdd : hasD x i = false := by simpa using hdd
                  rw [if_neg (by rw [hdd]; decide)] at hqq
                  have Hqq := Lib.hid hqq
                  clear hqq
                  go_wp2_with (go_at_call 66; refine (l06Has_any x i (by omega) (by omega) _).mono ?_; rw [hdd]; rintro e w' ⟨rfl, rfl⟩)
                  go_round
                  case rel => exact ⟨i + 1, y, rfl, by go_num, by omega, hy, Hqq.out⟩
                  case measure => simp [intOf] <;> omega
              · rw [show m - i = 0 by omega, hrF] at hqq
                have Hu := Lib.hid hqq
                clear hqq
                go_wp2_with (at_builtin; go_must (refine app_ints rfl _ _ rfl (w.heap.size + 1 + 1) w.heap.size (by omega) (.slice ao (ofN out).length cap) (ofN out) rfl hown hB _ _ [(y : Int)] rfl rfl (by rw [Hol.out]; simp; omega) (by omega) ?_))
                intro v1 w1 hown1 hB1 hg1
                have Hy := Lib.hid hy
                rw [ofN_snoc] at hown1
                obtain ⟨ao1, cap1, rfl⟩ := hown1.shape
                have hr1 := blk_grown hg1 (fun e => by have := (hown.lt _ e.symm).1; omega) (blk_alloc hr)
                have hc1 := blk_grown hg1 (fun e => by have := (hown.lt _ e.symm).1; omega) (blk_alloc hc0)
                clear hg1 hown hB hr hc0 c0 c1 d0 d1
                obtain ⟨c0, c1, d0, d1⟩ := blk2 hc1
                have hown2 := hown1.set ⟨w.heap.size + 1, 1, none⟩ (.slice ao1 (ofN (out ++ [y])).length cap1) (by simp)
                have hr2 := blk_other (p := ⟨w.heap.size + 1, 1, none⟩) (u := .slice ao1 (ofN (out ++ [y])).length cap1) (by simp) hr1
                have hc2 := blk_set1 (u := .slice ao1 (ofN (out ++ [y])).length cap1) hc1
                have hB2 := hB1.setCell (p := ⟨w.heap.size + 1, 1, none⟩) (by simp) (.slice ao1 (ofN (out ++ [y])).length cap1)
                clear hown1 hr1 hc1 hB1
                go_wp2
                go_roundw
                case rel => exact ⟨x + 1, out ++ [y], _, by go_num, by omega, by omega, by simp; omega, by rw [Hu.out]; exact Hq.out, snoc_lt hlo Hy.out, hown2, hr2, hc2, hB2⟩
                case measure => simp [intOf] <;> omega
        · rw [show N + 1 - x = 0 by omega, hmF] at hq
          have hz : hmZ m = ofN out := by rw [HZ.out, ← hq]
          have ho : OI (w.heap.size + 1 + 1) wr (.slice ao (ofN out).length cap) (hmZ m) := by rw [hz]; exact hown.oi (ofN_i64 hlo (by decide))
          clear hq hz hown
          go_wp2_with fail
          by_cases hpv : prv (N : Int) (hmZ m) = true
          · (with_reducible refine Calls.mono (l06Give_any (N : Int) _ (hmZ m) _ ho.ri) ?_)
            rw [hpv, apN_t, apV_t]
            rintro e w3 ⟨rfl, hb3⟩
            obtain ⟨r0, r1, q0, q1⟩ := blk2 (blk_next hb3 hr)
            have hBf := bnext hB hb3
            have hok3 := OI.below hb3 ho
            have hfin := OI.box hok3 (w.heap.size) (by omega) (.int .i64 (N : Int)) (.slice ao (ofN out).length cap)
            have hfB := below_box hBf (w.heap.size) (by omega) (.int .i64 (N : Int)) (.slice ao (ofN out).length cap)
            have Hf := Lib.hid hfin
            have HP := Lib.hid hpv
            clear hok3 hfin hpv
            go_wp2
            exact bodyPost_ret (v := .tuple #[.agg #[.int .i64 (N : Int), (.slice ao (ofN out).length cap)], .bool true]) (by simp [results, Try.results36, go_sem, r0, r1]) rfl ⟨(.slice ao (ofN out).length cap), by rw [HOK.out, HP.out]; rfl, by rw [HOK.out, HP.out]; exact OI.mono (by omega) Hf.out, hfB⟩
          · have hpv : prv (N : Int) (hmZ m) = false := by simpa using hpv
            (with_reducible refine Calls.mono (l06Give_any (N : Int) _ (hmZ m) _ ho.ri) ?_)
            rw [hpv, apN_f, apV_f]
            rintro e w3 ⟨rfl, hb3⟩
            obtain ⟨r0, r1, q0, q1⟩ := blk2 (blk_next hb3 hr)
            have hBf := bnext hB hb3
            have hfB := below_box hBf (w.heap.size) (by omega) (.int .i64 0) (.slice none 0 0)
            have HP := Lib.hid hpv
            clear hpv
            go_wp2
            exact bodyPost_ret (v := .tuple #[.agg #[.int .i64 0, .slice none 0 0], .bool false]) (by simp [results, Try.results36, go_sem, r0, r1]) rfl ⟨.slice none 0 0, by rw [HOK.out, HP.out]; rfl, by rw [HOK.out, HP.out]; exact OI.nil _ _, hfB⟩
  · have h1 : inB n 2 3 = false := by simpa using h1
    have HOK := Lib.hid (show hmOk n = false by simp [hmOk, h1])
    have hp := inB_eq h1
    simp only [Bool.false_eq_true, if_false] at hp
    have hA : (n != 2) = true := by rw [bne_iff_ne]; omega
    have hA3 : (n != 3) = true := by rw [bne_iff_ne]; omega
    clear hp
    go_enter Try.func36, Try.ntmps36
    go_wp2_with fail
    exact bodyPost_ret (v := .tuple #[.agg #[.int .i64 0, .slice none 0 0], .bool false]) (by simp [results, Try.results36, go_sem]) rfl ⟨.slice none 0 0, by rw [HOK.out]; rfl, by rw [HOK.out]; exact OI.nil _ _, by go_grown⟩
end Go.Proofs.Ytecddfaleapggaa
