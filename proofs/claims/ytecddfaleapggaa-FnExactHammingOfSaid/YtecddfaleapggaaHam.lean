/- HammingOf: what the program returns. No conditions. -/
import Derived.Test.YtecddfaleapggaaCyc
import Derived.Test.YtecddfaleapggaaTop
namespace Go.Proofs.Ytecddfaleapggaa
open Go.RowKit
set_option maxRecDepth 100000
set_option linter.unusedVariables false
set_option linter.unusedSimpArgs false

/-- The row of the number x. -/
def hrF (x : Nat) : Nat → Nat → Nat → Nat
  | 0, _, y => y
  | r + 1, i, y => hrF x r (i + 1) (if hasD x i = true then y ||| 2 ^ (2 ^ i - 1) else y)
def hrow (n x : Nat) : Nat := hrF x n 0 (2 ^ (x - 1))
def hmF (n : Nat) : Nat → Nat → List Nat → List Nat
  | 0, _, out => out
  | r + 1, x, out => hmF n r (x + 1) (if wt x = 1 then out else out ++ [hrow n x])
def hmN (n : Int) : Int := 2 ^ n.toNat - 1
def hmZ (n : Int) : List Int := ofN (hmF n.toNat (2 ^ n.toNat - 1) 1 [])
def hmOk (n : Int) : Bool := inB n 2 3 && prv (hmN n) (hmZ n)
theorem hmZ_len (n : Int) : (apZ (hmOk n) (hmZ n)).length ≤ 16777216 := apZ_len fun h => by
  simp only [hmOk, Bool.and_eq_true] at h; exact prv_len h.2
theorem or_ham (y l : Nat) (hy : y < 128) (hl : l < 16) : bits .or .i64 (y : Int) (2 ^ l) = ((y ||| 2 ^ l : Nat) : Int) := by
  have h1 : 2 ^ l ≤ 2 ^ 16 := Nat.pow_le_pow_right (by decide) (by omega)
  have e : (2 : Int) ^ l = ((2 ^ l : Nat) : Int) := by simp
  rw [e]; exact or_i64_nat y (2 ^ l) (by omega) (by omega)
theorem pow_cast' (n : Nat) : ((2 ^ n : Nat) : Int) = 2 ^ n := by simp
theorem ham_i (i : Nat) (h : i < 3) : (1 : Int) ≤ 2 ^ i ∧ (2 : Int) ^ i ≤ 4 ∧ ((2 : Int) ^ i - 1).toNat = 2 ^ i - 1 ∧ 2 ^ i - 1 ≤ 3 := by
  rcases (show i = 0 ∨ i = 1 ∨ i = 2 by omega) with rfl | rfl | rfl <;> decide
set_option maxHeartbeats 400000 in
theorem implHam_any (n : Int) (w : World) :
    Calls Try.prog 37 #[.int .i64 n] w fun e w' => ∃ v', e = .returned (.tuple #[.agg #[.int .i64 (apN (hmOk n) (hmN n)), v'], .bool (hmOk n)]) ∧ OI w.heap.size w' v' (apZ (hmOk n) (hmZ n)) ∧ Below w.heap.size w w' := by
  by_cases h1 : inB n 2 3 = true
  · have hp := inB_eq h1
    simp only [if_true] at hp
    obtain ⟨hp1, hp2⟩ := hp
    obtain ⟨m, rfl⟩ := Int.eq_ofNat_of_zero_le (show 0 ≤ n by omega)
    have HOK := Lib.hid (show hmOk m = prv (hmN m) (hmZ m) by simp [hmOk, h1])
    obtain ⟨N, hN1, hN2⟩ : ∃ N : Nat, (2 : Int) ^ m = (N : Int) + 1 ∧ N ≤ 7 := by
      rcases (show m = 2 ∨ m = 3 by omega) with rfl | rfl
      · exact ⟨3, by decide, by decide⟩
      · exact ⟨7, by decide, by decide⟩
    have HZ := Lib.hid (show hmZ m = ofN (hmF m N 1 []) by
      rw [hmZ, Int.toNat_natCast]
      have e : 2 ^ m = N + 1 := by have e : ((2 ^ m : Nat) : Int) = (2 : Int) ^ m := by simp
                                   omega
      rw [e]; rfl)
    have HN : hmN m = (N : Int) := by rw [hmN, Int.toNat_natCast]; omega
    rw [HN] at HOK ⊢
    clear HN
    go_enter Try.func37, Try.ntmps37
    go_wp2_with (go_at_call 47; refine (within_any _ _ _ _).mono ?_; rw [h1]; rintro e w' ⟨rfl, rfl⟩)
    go_loopw [5, 6] (fun o xv wr => ∃ (x : Nat) (out : List Nat), xv = .int .i64 x ∧ 1 ≤ x ∧ x ≤ N + 1 ∧ out.length < x ∧ hmF m (N + 1 - x) x out = hmF m N 1 [] ∧ Lt 128 out ∧ OwnI (w.heap.size + 1) wr o (ofN out) ∧ wr.heap[w.heap.size]? = some (.cells #[.int .i64 0, .slice none 0 0] 27 (0, 0)) ∧ Below w.heap.size w wr) (fun _ xv _ => N + 1 - (intOf xv).toNat)
    case atStart =>
      refine ⟨1, [], rfl, by omega, by omega, by simp, by simp, (fun y hy => by cases hy), ?_, blk_alloc (heap_alloc_new w _), by go_grown⟩
      have h := own_empty (w.alloc (.cells #[.int .i64 0, .slice none 0 0] 27)) (w.heap.size + 1) (by simp)
      rw [World.size_alloc] at h; exact h
    case round =>
      obtain ⟨x, out, rfl, hx1, hx2, hol, hq, hlo, hown, hr, hB⟩ := hrel
      have hlt := blk_lt hr
      obtain ⟨ao, cap, rfl⟩ := hown.shape
      have Hol := Lib.hid (ofN_len out)
      by_cases hc : x ≤ N
      · rw [show N + 1 - x = (N + 1 - (x + 1)) + 1 by omega, hmF] at hq
        have hwl := wt_le x
        have hwa := fun w => weightOf_any x (by omega) w
        generalize wt x = wx at *
        by_cases hd : wx = 1
        · rw [if_pos hd] at hq
          have Hq := Lib.hid hq
          have hdi : ((wx : Nat) : Int) = 1 := by omega
          clear hq
          go_wp2_with (go_at_call 69; refine (hwa _).mono ?_; rintro e w' ⟨rfl, rfl⟩)
          go_roundw
          case rel => exact ⟨x + 1, out, by go_num, by omega, by omega, by omega, Hq.out, hlo, hown, hr, hB⟩
          case measure => simp [intOf] <;> omega
        · rw [if_neg hd] at hq
          have Hq := Lib.hid hq
          have hdi : (((wx : Nat) : Int) == 1) = false := by rw [beq_eq_false_iff_ne]; omega
          obtain ⟨s, hs⟩ : ∃ s : Nat, (x : Int) - 1 = s := ⟨x - 1, by omega⟩
          obtain ⟨hq1, hq2⟩ := pow16 s (by omega)
          have Hs := Lib.hid (show x - 1 = s by omega)
          have Hs7 := Lib.hid (show s < 7 by omega)
          clear hq hN1
          go_wp2_with (go_at_call 69; refine (hwa _).mono ?_; rintro e w' ⟨rfl, rfl⟩)
          go_loop [7, 29] (fun yv iv => ∃ i y : Nat, yv = .int .i64 y ∧ iv = .int .i64 i ∧ i ≤ m ∧ y < 128 ∧ hrF x (m - i) i y = hrow m x) (fun _ iv => m - (intOf iv).toNat)
          case atStart => exact ⟨0, 2 ^ s, by rw [pow_cast'], rfl, Nat.zero_le _, Nat.pow_lt_pow_right (by decide) Hs7.out, by rw [hrow, Hs.out]; rfl⟩
          case round =>
            obtain ⟨i, y, rfl, rfl, hi, hy, hqq⟩ := hrel
            by_cases him : i < m
            · rw [show m - i = (m - (i + 1)) + 1 by omega, hrF] at hqq
              obtain ⟨hi1, hi2, hi3, hi4⟩ := ham_i i (by omega)
              by_cases hdd : hasD x i = true
              · rw [if_pos hdd] at hqq
                obtain ⟨hq3, hq4⟩ := pow16 (2 ^ i - 1) (by omega)
                have eo := or_ham y (2 ^ i - 1) hy (by omega)
                have Hb := Lib.hid (show y ||| 2 ^ (2 ^ i - 1) < 128 from Nat.or_lt_two_pow (n := 7) (by omega) (Nat.pow_lt_pow_right (by decide) (by omega)))
                have Hqq := Lib.hid hqq
                clear hqq
                go_wp2_with (go_at_call 67; refine (hasDigit_any x i (by omega) (by omega) _).mono ?_; rw [hdd]; rintro e w' ⟨rfl, rfl⟩)
                go_round
                case rel => exact ⟨i + 1, _, rfl, by go_num, by omega, Hb.out, Hqq.out⟩
                case measure => simp [intOf] <;> omega
              · have hdd : hasD x i = false := by simpa using hdd
                rw [if_neg (by rw [hdd]; decide)] at hqq
                have Hqq := Lib.hid hqq
                clear hqq
                go_wp2_with (go_at_call 67; refine (hasDigit_any x i (by omega) (by omega) _).mono ?_; rw [hdd]; rintro e w' ⟨rfl, rfl⟩)
                go_round
                case rel => exact ⟨i + 1, y, rfl, by go_num, by omega, hy, Hqq.out⟩
                case measure => simp [intOf] <;> omega
            · rw [show m - i = 0 by omega, hrF] at hqq
              have Hu := Lib.hid hqq
              clear hqq
              go_wp2_with (at_builtin; go_must (refine app_ints rfl _ _ rfl (w.heap.size + 1) w.heap.size (by omega) (.slice ao (ofN out).length cap) (ofN out) rfl hown hB _ _ [(y : Int)] rfl rfl (by rw [Hol.out]; simp; omega) (by omega) ?_))
              intro v1 w1 hown1 hB1 hg1
              have Hy := Lib.hid hy
              rw [ofN_snoc] at hown1
              obtain ⟨ao1, cap1, rfl⟩ := hown1.shape
              have hr1 := blk_grown hg1 (fun e => by have := (hown.lt _ e.symm).1; omega) (blk_alloc hr)
              clear hg1 hown hB hr
              go_wp2
              go_roundw
              case rel => exact ⟨x + 1, out ++ [y], by go_num, by omega, by omega, by simp; omega, by rw [Hu.out]; exact Hq.out, snoc_lt hlo Hy.out, hown1, hr1, hB1⟩
              case measure => simp [intOf] <;> omega
      · rw [show N + 1 - x = 0 by omega, hmF] at hq
        have hz : hmZ m = ofN out := by rw [HZ.out, ← hq]
        have ho : OI (w.heap.size + 1) wr (.slice ao (ofN out).length cap) (hmZ m) := by rw [hz]; exact hown.oi (ofN_i64 hlo (by decide))
        clear hq hz hown
        go_wp2_with fail
        by_cases hpv : prv (N : Int) (hmZ m) = true
        · (with_reducible refine Calls.mono (asParity_any (N : Int) _ (hmZ m) _ ho.ri) ?_)
          rw [hpv, apN_t, apV_t]
          rintro e w3 ⟨rfl, hb3⟩
          obtain ⟨r0, r1, q0, q1⟩ := blk2 (blk_next hb3 hr)
          have hBf := bnext hB hb3
          have hok3 := OI.below hb3 ho
          have hfin := OI.box hok3 (w.heap.size) (by omega) (.int .i64 (N : Int)) (.slice ao (ofN out).length cap)
          have hfB := below_box hBf (w.heap.size) (by omega) (.int .i64 (N : Int)) (.slice ao (ofN out).length cap)
          have Hf := Lib.hid hfin
          have HP := Lib.hid hpv
          clear hok3 hfin hpv
          go_wp2
          exact bodyPost_ret (v := .tuple #[.agg #[.int .i64 (N : Int), (.slice ao (ofN out).length cap)], .bool true]) (by simp [results, Try.results37, go_sem, r0, r1]) rfl ⟨(.slice ao (ofN out).length cap), by rw [HOK.out, HP.out]; rfl, by rw [HOK.out, HP.out]; exact OI.mono (by omega) Hf.out, hfB⟩
        · have hpv : prv (N : Int) (hmZ m) = false := by simpa using hpv
          (with_reducible refine Calls.mono (asParity_any (N : Int) _ (hmZ m) _ ho.ri) ?_)
          rw [hpv, apN_f, apV_f]
          rintro e w3 ⟨rfl, hb3⟩
          obtain ⟨r0, r1, q0, q1⟩ := blk2 (blk_next hb3 hr)
          have hBf := bnext hB hb3
          have hfB := below_box hBf (w.heap.size) (by omega) (.int .i64 0) (.slice none 0 0)
          have HP := Lib.hid hpv
          clear hpv
          go_wp2
          exact bodyPost_ret (v := .tuple #[.agg #[.int .i64 0, .slice none 0 0], .bool false]) (by simp [results, Try.results37, go_sem, r0, r1]) rfl ⟨.slice none 0 0, by rw [HOK.out, HP.out]; rfl, by rw [HOK.out, HP.out]; exact OI.nil _ _, hfB⟩
  · have h1 : inB n 2 3 = false := by simpa using h1
    have HOK := Lib.hid (show hmOk n = false by simp [hmOk, h1])
    go_enter Try.func37, Try.ntmps37
    go_wp2_with (go_at_call 47; refine (within_any _ _ _ _).mono ?_; rw [h1]; rintro e w' ⟨rfl, rfl⟩)
    exact bodyPost_ret (v := .tuple #[.agg #[.int .i64 0, .slice none 0 0], .bool false]) (by simp [results, Try.results37, go_sem]) rfl ⟨.slice none 0 0, by rw [HOK.out]; rfl, by rw [HOK.out]; exact OI.nil _ _, by go_grown⟩
end Go.Proofs.Ytecddfaleapggaa
