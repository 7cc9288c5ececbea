/- How far two words are, and keys of bits: what both packages return. No conditions. -/
import Derived.Test.YtpdebndkmdkmmaaBits
namespace Go.Proofs.Ytpdebndkmdkmmaa
open Go.RowKit
set_option linter.unusedVariables false
set_option linter.unusedSimpArgs false

def farOk (a b : Int) : Bool := isW a 16 && isW b 16
def farV (a b : Int) : Int := if farOk a b = true then ((wt (a.toNat ^^^ b.toNat) : Nat) : Int) else 0
set_option maxHeartbeats 400000 in
theorem specFar_any (a b : Int) (w : World) :
    Calls Try.prog 13 #[.int .i64 a, .int .i64 b] w fun e w' => e = .returned (.tuple #[.int .i64 (farV a b), .bool (farOk a b)]) ∧ w = w' := by
  by_cases ha : isW a 16 = true
  · by_cases hb : isW b 16 = true
    · obtain ⟨x, rfl, hx1, hx⟩ := isW_nat (by decide) ha
      obtain ⟨y, rfl, hy1, hy⟩ := isW_nat (by decide) hb
      have e := xor_i64_nat x y (by omega) (by omega)
      have hlt := Nat.xor_lt_two_pow (n := 16) hx hy
      clear hx1 hy1
      have hf : farV (x : Int) (y : Int) = (wt (x ^^^ y) : Nat) := by simp [farV, farOk, ha, hb]
      have ho : farOk (x : Int) (y : Int) = true := by simp [farOk, ha, hb]
      have Hf := Lib.hid hf
      have Ho := Lib.hid ho
      clear hf ho
      go_enter Try.func13, Try.ntmps13
      go_wp2_with (first | (go_at_call 35; refine (l06Word_any _ _ (by decide) (by decide) _).mono ?_; rintro e w' ⟨rfl, rfl⟩) | (go_at_call 36; refine (l06Weight_any (x ^^^ y) hlt _).mono ?_; rintro e w' ⟨rfl, rfl⟩))
      go_ret2
      rw [Hf.out, Ho.out]
      exact ⟨rfl, rfl⟩
    · have hb' : isW b 16 = false := by simpa using hb
      have ho : farOk a b = false := by simp [farOk, hb']
      have hf : farV a b = 0 := by simp [farV, ho]
      have Hf := Lib.hid hf
      have Ho := Lib.hid ho
      clear hf ho
      go_enter Try.func13, Try.ntmps13
      go_wp2_with (go_at_call 35; refine (l06Word_any _ _ (by decide) (by decide) _).mono ?_; rintro e w' ⟨rfl, rfl⟩)
      go_ret2
      rw [Hf.out, Ho.out]
      exact ⟨rfl, rfl⟩
  · have ha' : isW a 16 = false := by simpa using ha
    have ho : farOk a b = false := by simp [farOk, ha']
    have hf : farV a b = 0 := by simp [farV, ho]
    have Hf := Lib.hid hf
    have Ho := Lib.hid ho
    clear hf ho
    go_enter Try.func13, Try.ntmps13
    go_wp2_with (go_at_call 35; refine (l06Word_any _ _ (by decide) (by decide) _).mono ?_; rintro e w' ⟨rfl, rfl⟩)
    go_ret2
    rw [Hf.out, Ho.out]
    exact ⟨rfl, rfl⟩

set_option maxHeartbeats 400000 in
theorem implFar_any (a b : Int) (w : World) :
    Calls Try.prog 14 #[.int .i64 a, .int .i64 b] w fun e w' => e = .returned (.tuple #[.int .i64 (farV a b), .bool (farOk a b)]) ∧ w = w' := by
  by_cases ha : isW a 16 = true
  · by_cases hb : isW b 16 = true
    · obtain ⟨x, rfl, hx1, hx⟩ := isW_nat (by decide) ha
      obtain ⟨y, rfl, hy1, hy⟩ := isW_nat (by decide) hb
      have e := xor_i64_nat x y (by omega) (by omega)
      have hlt := Nat.xor_lt_two_pow (n := 16) hx hy
      clear hx1 hy1
      have hf : farV (x : Int) (y : Int) = (wt (x ^^^ y) : Nat) := by simp [farV, farOk, ha, hb]
      have ho : farOk (x : Int) (y : Int) = true := by simp [farOk, ha, hb]
      have Hf := Lib.hid hf
      have Ho := Lib.hid ho
      clear hf ho
      go_enter Try.func14, Try.ntmps14
      go_wp2_with (first | (go_at_call 37; refine (isWordOf_any _ _ (by decide) (by decide) _).mono ?_; rintro e w' ⟨rfl, rfl⟩) | (go_at_call 38; refine (weightOf_any (x ^^^ y) hlt _).mono ?_; rintro e w' ⟨rfl, rfl⟩))
      go_ret2
      rw [Hf.out, Ho.out]
      exact ⟨rfl, rfl⟩
    · have hb' : isW b 16 = false := by simpa using hb
      have ho : farOk a b = false := by simp [farOk, hb']
      have hf : farV a b = 0 := by simp [farV, ho]
      have Hf := Lib.hid hf
      have Ho := Lib.hid ho
      clear hf ho
      go_enter Try.func14, Try.ntmps14
      go_wp2_with (go_at_call 37; refine (isWordOf_any _ _ (by decide) (by decide) _).mono ?_; rintro e w' ⟨rfl, rfl⟩)
      go_ret2
      rw [Hf.out, Ho.out]
      exact ⟨rfl, rfl⟩
  · have ha' : isW a 16 = false := by simpa using ha
    have ho : farOk a b = false := by simp [farOk, ha']
    have hf : farV a b = 0 := by simp [farV, ho]
    have Hf := Lib.hid hf
    have Ho := Lib.hid ho
    clear hf ho
    go_enter Try.func14, Try.ntmps14
    go_wp2_with (go_at_call 37; refine (isWordOf_any _ _ (by decide) (by decide) _).mono ?_; rintro e w' ⟨rfl, rfl⟩)
    go_ret2
    rw [Hf.out, Ho.out]
    exact ⟨rfl, rfl⟩

def lcg (s : Nat) : Nat := (1664525 * s + 1013904223) % 4294967296
def keyF (x : Nat) : Nat → Nat → Nat → Nat → Nat
  | 0, _, _, out => out
  | f + 1, i, s, out => keyF x f (i + 1) (lcg s) (if odd (x &&& lcg s / 65536) then out ||| 2 ^ i else out)
def keyOk (x n s : Int) : Bool := isW x 16 && inB n 1 16 && inB s 0 4294967295
def keyV (x n s : Int) : Int := if keyOk x n s = true then (keyF x.toNat n.toNat 0 s.toNat 0 : Nat) else 0
theorem lcg_lt (s : Nat) : lcg s < 4294967296 := Nat.mod_lt _ (by decide)
theorem or_pow_lt (o i : Nat) (h : o < 2 ^ i) : o ||| 2 ^ i < 2 ^ (i + 1) := Nat.or_lt_two_pow (by rw [Nat.pow_succ]; omega) (by rw [Nat.pow_succ]; have := Nat.one_le_two_pow (n := i); omega)
set_option maxHeartbeats 400000 in
theorem isSeed_any (n : Int) (w : World) :
    Calls Try.prog 41 #[.int .i64 n] w fun e w' => e = .returned (.bool (inB n 0 4294967295)) ∧ w = w' := by
  go_enter Try.func41, Try.ntmps41
  go_wp2_with (go_at_call 40; refine (within_any _ _ _ _).mono ?_; rintro e w' ⟨rfl, rfl⟩)
  go_ret
  exact ⟨rfl, rfl⟩
theorem or_pow_i64 (o i : Nat) (h : o < 2 ^ i) (hi : i ≤ 16) : bits .or .i64 (o : Int) (2 ^ i) = ((o ||| 2 ^ i : Nat) : Int) := by
  have h1 : 2 ^ i ≤ 2 ^ 16 := Nat.pow_le_pow_right (by decide) hi
  have e : (2 : Int) ^ i = ((2 ^ i : Nat) : Int) := by simp
  rw [e]; exact or_i64_nat o (2 ^ i) (by omega) (by omega)
theorem or_zero_i64 (o : Nat) (h : o < 65536) : bits .or .i64 (o : Int) 0 = (o : Int) := by
  have := or_i64_nat o 0 (by omega) (by omega)
  simpa using this
set_option maxHeartbeats 400000 in
theorem specKey_any (x n s : Int) (w : World) :
    Calls Try.prog 15 #[.int .i64 x, .int .i64 n, .int .i64 s] w fun e w' => e = .returned (.tuple #[.int .i64 (keyV x n s), .bool (keyOk x n s)]) ∧ w = w' := by
  by_cases hx : isW x 16 = true
  · obtain ⟨x, rfl, hx1, hx2⟩ := isW_nat (by decide) hx
    clear hx1
    by_cases hn : 1 ≤ n ∧ n ≤ 16
    · obtain ⟨hn1, hn2⟩ := hn
      obtain ⟨n, rfl⟩ := Int.eq_ofNat_of_zero_le (show 0 ≤ n by omega)
      by_cases hs : 0 ≤ s ∧ s ≤ 4294967295
      · obtain ⟨hs1, hs2⟩ := hs
        obtain ⟨s, rfl⟩ := Int.eq_ofNat_of_zero_le hs1
        have hb1 : inB (n : Int) 1 16 = true := by simp [inB]; omega
        have hb2 : inB (s : Int) 0 4294967295 = true := by simp [inB]; omega
        have Ho := Lib.hid (show keyOk x n s = true by simp [keyOk, hx, hb1, hb2])
        have Hf := Lib.hid (show keyV x n s = (keyF x n 0 s 0 : Nat) by simp [keyV, keyOk, hx, hb1, hb2])
        go_enter Try.func15, Try.ntmps15
        go_wp2_with (first | (go_at_call 35; refine (l06Word_any _ _ (by decide) (by decide) _).mono ?_; rintro e w' ⟨rfl, rfl⟩) | (go_at_call 39; refine (l00In_any _ _ _ _).mono ?_; rintro e w' ⟨rfl, rfl⟩) | (go_at_call 40; refine (within_any _ _ _ _).mono ?_; rintro e w' ⟨rfl, rfl⟩))
        go_loop [2, 8, 9] (fun a b c => ∃ s' o i : Nat, a = .int .i64 s' ∧ b = .int .i64 o ∧ c = .int .i64 i ∧ i ≤ n ∧ s' < 4294967296 ∧ o < 2 ^ i ∧ keyF x (n - i) i s' o = keyF x n 0 s 0) (fun _ _ c => n - (intOf c).toNat)
        case atStart => exact ⟨s, 0, 0, rfl, rfl, rfl, by omega, by omega, by decide, rfl⟩
        case round =>
          obtain ⟨s', o, i, rfl, rfl, rfl, hi, hs', ho, hk⟩ := hrel
          have Hk := Lib.hid hk
          clear hk
          by_cases hlt : i < n
          · have hlt' : ((i : Int) < (n : Int)) := by omega
            have hl := lcg_lt s'
            have hand : x &&& lcg s' / 65536 < 65536 := by have := Nat.and_le_left (n := x) (m := lcg s' / 65536); omega
            have e1 : (1664525 * (s' : Int) + 1013904223) % 4294967296 = (lcg s' : Nat) := by unfold lcg; omega
            have e2 : bits .and .i64 (x : Int) ((lcg s' : Nat) / 65536 : Int) = ((x &&& lcg s' / 65536 : Nat) : Int) := and_i64_nat x (lcg s' / 65536) (by omega) (by omega)
            have hstep : keyF x (n - i) i s' o = keyF x (n - (i + 1)) (i + 1) (lcg s') (if odd (x &&& lcg s' / 65536) then o ||| 2 ^ i else o) := by
              rw [show n - i = (n - (i + 1)) + 1 by omega, keyF]
            rw [hstep] at Hk
            clear hstep
            have hp := pow16 i (by omega)
            generalize x &&& lcg s' / 65536 = q at *
            have ho2 := odd_eq q
            have hor := or_pow_lt o i ho
            by_cases hodd : odd q = true
            · have e3 : ((wt q : Nat) : Int) % 2 = 1 := by rw [hodd] at ho2; simpa using ho2
              clear ho2
              have hb := or_pow_i64 o i ho (by omega)
              rw [if_pos hodd] at Hk
              go_wp2_with (go_at_call 36; refine (l06Weight_any q hand _).mono ?_; rintro e w' ⟨rfl, rfl⟩)
              go_round
              case rel => exact ⟨lcg s', o ||| 2 ^ i, i + 1, rfl, by first | rfl | rw [hb], by go_num, by omega, hl, hor, Hk.out⟩
              case measure => simp [intOf]; omega
            · have hodd' : odd q = false := by simpa using hodd
              have e3 : ((wt q : Nat) : Int) % 2 = 0 := by rw [hodd'] at ho2; simp at ho2; omega
              clear ho2
              have hp' : 2 ^ i ≤ 2 ^ 16 := Nat.pow_le_pow_right (by decide) (by omega)
              have hb := or_zero_i64 o (by omega)
              rw [if_neg hodd] at Hk
              go_wp2_with (go_at_call 36; refine (l06Weight_any q hand _).mono ?_; rintro e w' ⟨rfl, rfl⟩)
              go_round
              case rel => exact ⟨lcg s', o, i + 1, rfl, by first | rw [hb] | rfl, by go_num, by omega, hl, by rw [Nat.pow_succ]; omega, Hk.out⟩
              case measure => simp [intOf]; omega
          · go_wp2
            go_ret2
            rw [Hf.out, Ho.out]
            have h1 := Hk.out
            rw [show n - i = 0 by omega, keyF] at h1
            rw [h1]
            exact ⟨rfl, rfl⟩
      · have hb : inB s 0 4294967295 = false := by
          have : ¬ (0 ≤ s ∧ s ≤ 4294967295) := hs
          simp [inB]; omega
        have hb1 : inB (n : Int) 1 16 = true := by simp [inB]; omega
        have Ho := Lib.hid (show keyOk x n s = false by simp [keyOk, hb])
        have Hf := Lib.hid (show keyV x n s = 0 by simp [keyV, keyOk, hb])
        clear hs
        go_enter Try.func15, Try.ntmps15
        go_wp2_with (first | (go_at_call 35; refine (l06Word_any _ _ (by decide) (by decide) _).mono ?_; rintro e w' ⟨rfl, rfl⟩) | (go_at_call 39; refine (l00In_any _ _ _ _).mono ?_; rintro e w' ⟨rfl, rfl⟩) | (go_at_call 40; refine (within_any _ _ _ _).mono ?_; rintro e w' ⟨rfl, rfl⟩))
        go_ret2
        rw [Hf.out, Ho.out]
        exact ⟨rfl, rfl⟩
    · have hb : inB n 1 16 = false := by simp [inB]; omega
      have Ho := Lib.hid (show keyOk x n s = false by simp [keyOk, hb])
      have Hf := Lib.hid (show keyV x n s = 0 by simp [keyV, keyOk, hb])
      clear hn
      go_enter Try.func15, Try.ntmps15
      go_wp2_with (first | (go_at_call 35; refine (l06Word_any _ _ (by decide) (by decide) _).mono ?_; rintro e w' ⟨rfl, rfl⟩) | (go_at_call 39; refine (l00In_any _ _ _ _).mono ?_; rintro e w' ⟨rfl, rfl⟩) | (go_at_call 40; refine (within_any _ _ _ _).mono ?_; rintro e w' ⟨rfl, rfl⟩))
      go_ret2
      rw [Hf.out, Ho.out]
      exact ⟨rfl, rfl⟩
  · have hx' : isW x 16 = false := by simpa using hx
    have Ho := Lib.hid (show keyOk x n s = false by simp [keyOk, hx'])
    have Hf := Lib.hid (show keyV x n s = 0 by simp [keyV, keyOk, hx'])
    go_enter Try.func15, Try.ntmps15
    go_wp2_with (first | (go_at_call 35; refine (l06Word_any _ _ (by decide) (by decide) _).mono ?_; rintro e w' ⟨rfl, rfl⟩) | (go_at_call 39; refine (l00In_any _ _ _ _).mono ?_; rintro e w' ⟨rfl, rfl⟩) | (go_at_call 40; refine (within_any _ _ _ _).mono ?_; rintro e w' ⟨rfl, rfl⟩))
    go_ret2
    rw [Hf.out, Ho.out]
    exact ⟨rfl, rfl⟩
set_option maxHeartbeats 400000 in
theorem implKey_any (x n s : Int) (w : World) :
    Calls Try.prog 16 #[.int .i64 x, .int .i64 n, .int .i64 s] w fun e w' => e = .returned (.tuple #[.int .i64 (keyV x n s), .bool (keyOk x n s)]) ∧ w = w' := by
  by_cases hx : isW x 16 = true
  · obtain ⟨x, rfl, hx1, hx2⟩ := isW_nat (by decide) hx
    clear hx1
    by_cases hn : 1 ≤ n ∧ n ≤ 16
    · obtain ⟨hn1, hn2⟩ := hn
      obtain ⟨n, rfl⟩ := Int.eq_ofNat_of_zero_le (show 0 ≤ n by omega)
      by_cases hs : 0 ≤ s ∧ s ≤ 4294967295
      · obtain ⟨hs1, hs2⟩ := hs
        obtain ⟨s, rfl⟩ := Int.eq_ofNat_of_zero_le hs1
        have hb1 : inB (n : Int) 1 16 = true := by simp [inB]; omega
        have hb2 : inB (s : Int) 0 4294967295 = true := by simp [inB]; omega
        have Ho := Lib.hid (show keyOk x n s = true by simp [keyOk, hx, hb1, hb2])
        have Hf := Lib.hid (show keyV x n s = (keyF x n 0 s 0 : Nat) by simp [keyV, keyOk, hx, hb1, hb2])
        go_enter Try.func16, Try.ntmps16
        go_wp2_with (first | (go_at_call 37; refine (isWordOf_any _ _ (by decide) (by decide) _).mono ?_; rintro e w' ⟨rfl, rfl⟩) | (go_at_call 41; refine (isSeed_any _ _).mono ?_; rintro e w' ⟨rfl, rfl⟩) | (go_at_call 40; refine (within_any _ _ _ _).mono ?_; rintro e w' ⟨rfl, rfl⟩))
        go_loop [2, 8, 24] (fun a b c => ∃ s' o i : Nat, a = .int .i64 s' ∧ b = .int .i64 o ∧ c = .int .i64 i ∧ i ≤ n ∧ s' < 4294967296 ∧ o < 2 ^ i ∧ keyF x (n - i) i s' o = keyF x n 0 s 0) (fun _ _ c => n - (intOf c).toNat)
        case atStart => exact ⟨s, 0, 0, rfl, rfl, rfl, by omega, by omega, by decide, rfl⟩
        case round =>
          obtain ⟨s', o, i, rfl, rfl, rfl, hi, hs', ho, hk⟩ := hrel
          have Hk := Lib.hid hk
          clear hk
          by_cases hlt : i < n
          · have hlt' : ((i : Int) < (n : Int)) := by omega
            have hl := lcg_lt s'
            have hand : x &&& lcg s' / 65536 < 65536 := by have := Nat.and_le_left (n := x) (m := lcg s' / 65536); omega
            have e1 : (1664525 * (s' : Int) + 1013904223) % 4294967296 = (lcg s' : Nat) := by unfold lcg; omega
            have e2 : bits .and .i64 (x : Int) ((lcg s' : Nat) / 65536 : Int) = ((x &&& lcg s' / 65536 : Nat) : Int) := and_i64_nat x (lcg s' / 65536) (by omega) (by omega)
            have hstep : keyF x (n - i) i s' o = keyF x (n - (i + 1)) (i + 1) (lcg s') (if odd (x &&& lcg s' / 65536) then o ||| 2 ^ i else o) := by
              rw [show n - i = (n - (i + 1)) + 1 by omega, keyF]
            rw [hstep] at Hk
            clear hstep
            have hp := pow16 i (by omega)
            generalize x &&& lcg s' / 65536 = q at *
            have ho2 := odd_eq q
            have hor := or_pow_lt o i ho
            by_cases hodd : odd q = true
            · have e3 : ((wt q : Nat) : Int) % 2 = 1 := by rw [hodd] at ho2; simpa using ho2
              clear ho2
              have hb := or_pow_i64 o i ho (by omega)
              rw [if_pos hodd] at Hk
              go_wp2_with (go_at_call 42; refine (isOdd_any q hand _).mono ?_; rintro e w' ⟨rfl, rfl⟩)
              go_round
              case rel => exact ⟨lcg s', o ||| 2 ^ i, i + 1, rfl, by first | rfl | rw [hb], by go_num, by omega, hl, hor, Hk.out⟩
              case measure => simp [intOf]; omega
            · have hodd' : odd q = false := by simpa using hodd
              have e3 : ((wt q : Nat) : Int) % 2 = 0 := by rw [hodd'] at ho2; simp at ho2; omega
              clear ho2
              have hp' : 2 ^ i ≤ 2 ^ 16 := Nat.pow_le_pow_right (by decide) (by omega)
              have hb := or_zero_i64 o (by omega)
              rw [if_neg hodd] at Hk
              go_wp2_with (go_at_call 42; refine (isOdd_any q hand _).mono ?_; rintro e w' ⟨rfl, rfl⟩)
              go_round
              case rel => exact ⟨lcg s', o, i + 1, rfl, by first | rw [hb] | rfl, by go_num, by omega, hl, by rw [Nat.pow_succ]; omega, Hk.out⟩
              case measure => simp [intOf]; omega
          · go_wp2
            go_ret2
            rw [Hf.out, Ho.out]
            have h1 := Hk.out
            rw [show n - i = 0 by omega, keyF] at h1
            rw [h1]
            exact ⟨rfl, rfl⟩
      · have hb : inB s 0 4294967295 = false := by
          have : ¬ (0 ≤ s ∧ s ≤ 4294967295) := hs
          simp [inB]; omega
        have hb1 : inB (n : Int) 1 16 = true := by simp [inB]; omega
        have Ho := Lib.hid (show keyOk x n s = false by simp [keyOk, hb])
        have Hf := Lib.hid (show keyV x n s = 0 by simp [keyV, keyOk, hb])
        clear hs
        go_enter Try.func16, Try.ntmps16
        go_wp2_with (first | (go_at_call 37; refine (isWordOf_any _ _ (by decide) (by decide) _).mono ?_; rintro e w' ⟨rfl, rfl⟩) | (go_at_call 41; refine (isSeed_any _ _).mono ?_; rintro e w' ⟨rfl, rfl⟩) | (go_at_call 40; refine (within_any _ _ _ _).mono ?_; rintro e w' ⟨rfl, rfl⟩))
        go_ret2
        rw [Hf.out, Ho.out]
        exact ⟨rfl, rfl⟩
    · have hb : inB n 1 16 = false := by simp [inB]; omega
      have Ho := Lib.hid (show keyOk x n s = false by simp [keyOk, hb])
      have Hf := Lib.hid (show keyV x n s = 0 by simp [keyV, keyOk, hb])
      clear hn
      go_enter Try.func16, Try.ntmps16
      go_wp2_with (first | (go_at_call 37; refine (isWordOf_any _ _ (by decide) (by decide) _).mono ?_; rintro e w' ⟨rfl, rfl⟩) | (go_at_call 41; refine (isSeed_any _ _).mono ?_; rintro e w' ⟨rfl, rfl⟩) | (go_at_call 40; refine (within_any _ _ _ _).mono ?_; rintro e w' ⟨rfl, rfl⟩))
      go_ret2
      rw [Hf.out, Ho.out]
      exact ⟨rfl, rfl⟩
  · have hx' : isW x 16 = false := by simpa using hx
    have Ho := Lib.hid (show keyOk x n s = false by simp [keyOk, hx'])
    have Hf := Lib.hid (show keyV x n s = 0 by simp [keyV, keyOk, hx'])
    go_enter Try.func16, Try.ntmps16
    go_wp2_with (first | (go_at_call 37; refine (isWordOf_any _ _ (by decide) (by decide) _).mono ?_; rintro e w' ⟨rfl, rfl⟩) | (go_at_call 41; refine (isSeed_any _ _).mono ?_; rintro e w' ⟨rfl, rfl⟩) | (go_at_call 40; refine (within_any _ _ _ _).mono ?_; rintro e w' ⟨rfl, rfl⟩))
    go_ret2
    rw [Hf.out, Ho.out]
    exact ⟨rfl, rfl⟩
end Go.Proofs.Ytpdebndkmdkmmaa
