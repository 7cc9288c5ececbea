/- Parities of a polynomial in the reference. No conditions. -/
import Derived.Test.YtecddfaleapggaaCyc
namespace Go.Proofs.Ytecddfaleapggaa
open Go.RowKit
set_option maxRecDepth 100000
set_option linter.unusedVariables false
set_option linter.unusedSimpArgs false

set_option maxHeartbeats 1000000 in
theorem specCyc_any (n p : Int) (w : World) :
    Calls Try.prog 26 #[.int .i64 n, .int .i64 p] w fun e w' => ∃ v', e = .returned (.tuple #[.agg #[.int .i64 (apN (cyOk n p) n), v'], .bool (cyOk n p)]) ∧ OI w.heap.size w' v' (apZ (cyOk n p) (cyZ n p)) ∧ Below w.heap.size w w' := by
  by_cases h1 : inB n 1 16 = true
  · have hp := inB_eq h1
    simp only [if_true] at hp
    obtain ⟨hp1, hp2⟩ := hp
    obtain ⟨m, rfl⟩ := Int.eq_ofNat_of_zero_le (show 0 ≤ n by omega)
    have hm16 : m ≤ 16 := by omega
    obtain ⟨hq1, hq2⟩ := pow16 m hm16
    by_cases h2 : isW p m = true
    · have hx := inB_eq h2
      simp only [if_true, Int.toNat_natCast] at hx
      obtain ⟨hx1, hx2⟩ := hx
      obtain ⟨x, rfl⟩ := Int.eq_ofNat_of_zero_le (show 0 ≤ p by omega)
      have hx65 : x < 65536 := by omega
      have hxm : x < 2 ^ m := by
        have e : (2 : Int) ^ m = ((2 ^ m : Nat) : Int) := by simp
        rw [e] at hx2; omega
      by_cases h3 : (x : Int) % 2 = 0
      · have HOK := Lib.hid (show cyOk m x = false by simp [cyOk, cyB, h3])
        go_enter Try.func26, Try.ntmps26
        go_wp2_with (first | (go_at_call 51; refine (l00In_any _ _ _ _).mono ?_; rw [h1]; rintro e w' ⟨rfl, rfl⟩) | (go_at_call 56; refine (l06Word_any _ _ (by omega) (by omega) _).mono ?_; rw [h2]; rintro e w' ⟨rfl, rfl⟩))
        exact bodyPost_ret (v := .tuple #[.agg #[.int .i64 0, .slice none 0 0], .bool false]) (by simp [results, Try.results26, go_sem]) rfl ⟨.slice none 0 0, by rw [HOK.out]; rfl, by rw [HOK.out]; exact OI.nil _ _, by go_grown⟩
      · have hx0 : 1 ≤ x := by omega
        have HOK := Lib.hid (show cyOk m x = prv m (cyZ m x) by simp [cyOk, cyB, h1, h2, h3])
        have h3b : (((x : Int) % 2) == 0) = false := by simpa using h3
        have Hx := Lib.hid h3
        clear h3
        go_enter Try.func26, Try.ntmps26
        go_wp2_with (first | (go_at_call 51; refine (l00In_any _ _ _ _).mono ?_; rw [h1]; rintro e w' ⟨rfl, rfl⟩) | (go_at_call 56; refine (l06Word_any _ _ (by omega) (by omega) _).mono ?_; rw [h2]; rintro e w' ⟨rfl, rfl⟩))
        have hm65 : 2 ^ m ≤ 65536 := Nat.le_trans (Nat.pow_le_pow_right (by decide) hm16) (by decide)
        have Hm := Lib.hid hm65
        have Hxm := Lib.hid hxm
        clear hq1 hq2 hm65 hxm hx2
        go_loopw [7] (fun xv wr => ∃ (r y : Nat) (out : List Nat) (v : Value), xv = .int .i64 y ∧ 1 ≤ y ∧ y < 131072 ∧ 2 ^ m ≤ y * 2 ^ r ∧ out.length + r ≤ 17 ∧ Lt 65536 out ∧ cyF m r y out = cyF m 17 x [] ∧ OwnI (w.heap.size + 1 + 1) wr v (ofN out) ∧ wr.heap[w.heap.size]? = some (.cells #[.int .i64 0, .slice none 0 0] 27 (0, 0)) ∧ wr.heap[w.heap.size + 1]? = some (.cells #[.int .i64 m, v] 27 (0, 0)) ∧ Below w.heap.size w wr) (fun xv _ => 200000 - (intOf xv).toNat)
        case atStart =>
          refine ⟨17, x, [], .slice none 0 0, rfl, by omega, by omega, ?_, by simp, (fun y hy => by cases hy), rfl, own_nil _ _, blk_alloc (heap_alloc_new w _), box_second w _ _ _ _, by go_grown⟩
          have := Hm.out; omega
        case round =>
          obtain ⟨r, y, out, v, rfl, hy1, hy2, hyr, hol, hlo, hq, hown, hr, hc0, hB⟩ := hrel
          have Hq := Lib.hid hq
          have Hyr := Lib.hid hyr
          have hlt := blk_lt hc0
          obtain ⟨ao, cap, rfl⟩ := hown.shape
          obtain ⟨c0, c1, d0, d1⟩ := blk2 hc0
          have Hol := Lib.hid (ofN_len out)
          clear hq hyr
          by_cases hc : y < 2 ^ m
          · have hw1 : isW y m = true := by rw [isW_iff _ _ hm16]; exact decide_eq_true hc
            have hy65 : y < 65536 := Nat.lt_of_lt_of_le hc Hm.out
            obtain ⟨r, rfl⟩ : ∃ r', r = r' + 1 := ⟨r - 1, by
              rcases Nat.eq_zero_or_pos r with h | h
              · have := Hyr.out; rw [h] at this; simp at this; omega
              · omega⟩
            have hq := Hq.out
            rw [cyF, hw1] at hq
            have Hq2 := Lib.hid hq
            have hyr := Hyr.out
            have hyr2 : 2 ^ m ≤ 2 * y * 2 ^ r := by rw [Nat.pow_succ, Nat.mul_comm (2 ^ r) 2, ← Nat.mul_assoc, Nat.mul_comm y 2] at hyr; exact hyr
            have Hyr2 := Lib.hid hyr2
            clear hq hyr hyr2 hc
            go_wp2_with (first | (go_at_call 56; refine (l06Word_any _ _ (by omega) (by omega) _).mono ?_; rw [hw1]; rintro e w' ⟨rfl, rfl⟩) | (at_builtin; go_must (refine app_ints rfl _ _ rfl (w.heap.size + 1 + 1) w.heap.size (by omega) (.slice ao (ofN out).length cap) (ofN out) rfl hown hB _ _ [(y : Int)] rfl rfl (by rw [Hol.out]; simp; omega) (by omega) ?_)))
            intro v1 w1 hown1 hB1 hg1
            rw [ofN_snoc] at hown1
            obtain ⟨ao1, cap1, rfl⟩ := hown1.shape
            have hr1 := blk_grown hg1 (fun e => by have := (hown.lt _ e.symm).1; omega) (blk_alloc hr)
            have hc1 := blk_grown hg1 (fun e => by have := (hown.lt _ e.symm).1; omega) (blk_alloc hc0)
            clear hg1 hown hB hr hc0 c0 c1 d0 d1
            obtain ⟨c0, c1, d0, d1⟩ := blk2 hc1
            have hown2 := hown1.set ⟨w.heap.size + 1, 1, none⟩ (.slice ao1 (ofN (out ++ [y])).length cap1) (by simp)
            have hr2 := blk_other (p := ⟨w.heap.size + 1, 1, none⟩) (u := .slice ao1 (ofN (out ++ [y])).length cap1) (by simp) hr1
            have hc2 := blk_set1 (u := .slice ao1 (ofN (out ++ [y])).length cap1) hc1
            have hB2 := hB1.setCell (p := ⟨w.heap.size + 1, 1, none⟩) (by simp) (.slice ao1 (ofN (out ++ [y])).length cap1)
            clear hown1 hr1 hc1 hB1
            go_wp2
            go_roundw
            case rel => exact ⟨r, 2 * y, out ++ [y], _, by rw [Int.natCast_mul]; rfl, by omega, by omega, Hyr2.out, by simp; omega, snoc_lt hlo hy65, Hq2.out, hown2, hr2, hc2, hB2⟩
            case measure => simp [intOf] <;> omega
          · have hw1 : isW y m = false := by rw [isW_iff _ _ hm16]; exact decide_eq_false hc
            have hq := Hq.out
            rw [cyF_stop hw1] at hq
            have hz : cyZ m x = ofN out := by rw [cyZ, Int.toNat_natCast, hq]
            have ho : OI (w.heap.size + 1 + 1) wr (.slice ao (ofN out).length cap) (cyZ m x) := by rw [hz]; exact hown.oi (ofN_i64 hlo (by decide))
            clear hq hz hown hc
            go_wp2_with (go_at_call 56; refine (l06Word_any _ _ (by omega) (by omega) _).mono ?_; rw [hw1]; rintro e w' ⟨rfl, rfl⟩)
            by_cases hpv : prv m (cyZ m x) = true
            · refine (l06Give_any m _ (cyZ m x) _ ho.ri).mono ?_
              rw [hpv, apN_t, apV_t]
              rintro e w3 ⟨rfl, hb3⟩
              obtain ⟨r0, r1, q0, q1⟩ := blk2 (blk_next hb3 hr)
              have hBf := bnext hB hb3
              have hok3 := OI.below hb3 ho
              have hfin := OI.box hok3 (w.heap.size) (by omega) (.int .i64 m) (.slice ao (ofN out).length cap)
              have hfB := below_box hBf (w.heap.size) (by omega) (.int .i64 m) (.slice ao (ofN out).length cap)
              have Hf := Lib.hid hfin
              have HP := Lib.hid hpv
              clear hok3 hfin hpv
              go_wp2
              exact bodyPost_ret (v := .tuple #[.agg #[.int .i64 m, (.slice ao (ofN out).length cap)], .bool true]) (by simp [results, Try.results26, go_sem, r0, r1]) rfl ⟨(.slice ao (ofN out).length cap), by rw [HOK.out, HP.out]; rfl, by rw [HOK.out, HP.out]; exact OI.mono (by omega) Hf.out, hfB⟩
            · have hpv : prv m (cyZ m x) = false := by simpa using hpv
              refine (l06Give_any m _ (cyZ m x) _ ho.ri).mono ?_
              rw [hpv, apN_f, apV_f]
              rintro e w3 ⟨rfl, hb3⟩
              obtain ⟨r0, r1, q0, q1⟩ := blk2 (blk_next hb3 hr)
              have hBf := bnext hB hb3
              have hfB := below_box hBf (w.heap.size) (by omega) (.int .i64 0) (.slice none 0 0)
              have HP := Lib.hid hpv
              clear hpv
              go_wp2
              exact bodyPost_ret (v := .tuple #[.agg #[.int .i64 0, .slice none 0 0], .bool false]) (by simp [results, Try.results26, go_sem, r0, r1]) rfl ⟨.slice none 0 0, by rw [HOK.out, HP.out]; rfl, by rw [HOK.out, HP.out]; exact OI.nil _ _, hfB⟩
    · have h2 : isW p m = false := by simpa using h2
      have HOK := Lib.hid (show cyOk m p = false by simp [cyOk, cyB, h2])
      go_enter Try.func26, Try.ntmps26
      go_wp2_with (first | (go_at_call 51; refine (l00In_any _ _ _ _).mono ?_; rw [h1]; rintro e w' ⟨rfl, rfl⟩) | (go_at_call 56; refine (l06Word_any _ _ (by omega) (by omega) _).mono ?_; rw [h2]; rintro e w' ⟨rfl, rfl⟩))
      exact bodyPost_ret (v := .tuple #[.agg #[.int .i64 0, .slice none 0 0], .bool false]) (by simp [results, Try.results26, go_sem]) rfl ⟨.slice none 0 0, by rw [HOK.out]; rfl, by rw [HOK.out]; exact OI.nil _ _, by go_grown⟩
  · have h1 : inB n 1 16 = false := by simpa using h1
    have HOK := Lib.hid (show cyOk n p = false by simp [cyOk, cyB, h1])
    go_enter Try.func26, Try.ntmps26
    go_wp2_with (go_at_call 51; refine (l00In_any _ _ _ _).mono ?_; rw [h1]; rintro e w' ⟨rfl, rfl⟩)
    exact bodyPost_ret (v := .tuple #[.agg #[.int .i64 0, .slice none 0 0], .bool false]) (by simp [results, Try.results26, go_sem]) rfl ⟨.slice none 0 0, by rw [HOK.out]; rfl, by rw [HOK.out]; exact OI.nil _ _, by go_grown⟩
end Go.Proofs.Ytecddfaleapggaa
