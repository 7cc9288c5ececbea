/- SyndromeOf: what both packages return. No conditions but that the slices read. -/
import Derived.Test.YtejabnjhnbminaaDuO
import Derived.Test.YtejabnjhnbminaaEncB
namespace Go.Proofs.Ytejabnjhnbminaa
open Go.RowKit
set_option maxRecDepth 100000
set_option linter.unusedVariables false
set_option linter.unusedSimpArgs false

def syOk (n : Int) (zs : List Int) (x : Int) : Bool := duOk n zs && inOk n zs x
def syV (n : Int) (zs : List Int) (x : Int) : Int := if syOk n zs x = true then ((syn (toN (duZ n zs)) x.toNat : Nat) : Int) else 0
theorem or_zero (o : Nat) (h : o < 65536) : bits .or .i64 (o : Int) 0 = (o : Int) := by
  have := or_i64_nat o 0 (by omega) (by decide)
  simpa using this
set_option maxHeartbeats 1000000 in
theorem syndrome_any (v : Value) (ds : List Nat) (x : Nat) (hx : x < 65536) (w : World) (h : Rg eN w v ds) (hl8 : ds.length ≤ 8) (hl : Lt 65536 ds) :
    Calls Try.prog 65 #[v, .int .i64 x] w fun e w' => e = .returned (.int .i64 (syn ds x : Nat)) ∧ w = w' := by
  obtain ⟨ao, cap, rfl, h1, h2, h3⟩ := h
  go_enter Try.func65, Try.ntmps65
  go_wp2
  go_loop [5, 10] (fun tv iv => ∃ i t : Nat, tv = .int .i64 t ∧ iv = .int .i64 i ∧ i ≤ ds.length ∧ t < 2 ^ i ∧ synF ds x (ds.length - i) i t = syn ds x) (fun _ iv => ds.length - (intOf iv).toNat)
  case atStart => exact ⟨0, 0, rfl, rfl, Nat.zero_le _, by decide, rfl⟩
  case round =>
    obtain ⟨i, t, rfl, rfl, hi, ht, hq⟩ := hrel
    have hi8 : 2 ^ i ≤ 2 ^ 8 := Nat.pow_le_pow_right (by decide) (by omega)
    by_cases hil : i < ds.length
    · obtain ⟨b, off, rfl, hc⟩ := h3 i hil
      rw [show ds.length - i = (ds.length - (i + 1)) + 1 by omega, synF, gt_eq hil] at hq
      have hy := hl.at i hil
      obtain ⟨hq1, hq2⟩ := pow16 i (by omega)
      generalize ds[i] = y at *
      have hyx : y &&& x < 65536 := Nat.lt_of_le_of_lt Nat.and_le_left hy
      have ea := and_i64_nat y x (by omega) (by omega)
      have h2i : 2 ^ (i + 1) = 2 * 2 ^ i := by rw [Nat.pow_succ]; omega
      have eo := or_pow t i (by omega) (by omega)
      have Hb := Lib.hid (show t ||| 2 ^ i < 2 ^ (i + 1) from Nat.or_lt_two_pow (by omega) (by have := Nat.two_pow_pos i; omega))
      have Hb2 := Lib.hid (show t < 2 ^ (i + 1) by omega)
      clear h2i hi8
      by_cases hd : odd (y &&& x) = true
      · rw [if_pos hd] at hq
        have Hq := Lib.hid hq
        clear hq h3
        go_wp2_with (go_at_call 114; refine (isOdd_any (y &&& x) hyx _).mono ?_; rw [hd]; rintro e w' ⟨rfl, rfl⟩)
        go_round
        case rel => exact ⟨i + 1, _, rfl, by go_num, by omega, Hb.out, Hq.out⟩
        case measure => simp [intOf] <;> omega
      · have hd : odd (y &&& x) = false := by simpa using hd
        rw [if_neg (by rw [hd]; decide)] at hq
        have Hq := Lib.hid hq
        clear hq h3
        go_wp2_with (go_at_call 114; refine (isOdd_any (y &&& x) hyx _).mono ?_; rw [hd]; rintro e w' ⟨rfl, rfl⟩)
        go_round
        case rel => exact ⟨i + 1, t, rfl, by go_num, by omega, Hb2.out, Hq.out⟩
        case measure => simp [intOf] <;> omega
    · rw [show ds.length - i = 0 by omega, synF] at hq
      have Hq := Lib.hid hq
      clear hq
      go_wp2
      go_ret
      exact ⟨ret_i64 (by rw [Hq.out]), rfl⟩
set_option maxHeartbeats 1000000 in
theorem l06Syndrome_any (v : Value) (ds : List Nat) (x : Nat) (hx : x < 65536) (w : World) (h : Rg eN w v ds) (hl8 : ds.length ≤ 8) (hl : Lt 65536 ds) :
    Calls Try.prog 60 #[v, .int .i64 x] w fun e w' => e = .returned (.int .i64 (syn ds x : Nat)) ∧ w = w' := by
  obtain ⟨ao, cap, rfl, h1, h2, h3⟩ := h
  go_enter Try.func60, Try.ntmps60
  go_wp2
  go_loop [5, 6] (fun tv iv => ∃ i t : Nat, tv = .int .i64 t ∧ iv = .int .i64 i ∧ i ≤ ds.length ∧ t < 2 ^ i ∧ synF ds x (ds.length - i) i t = syn ds x) (fun _ iv => ds.length - (intOf iv).toNat)
  case atStart => exact ⟨0, 0, rfl, rfl, Nat.zero_le _, by decide, rfl⟩
  case round =>
    obtain ⟨i, t, rfl, rfl, hi, ht, hq⟩ := hrel
    have hi8 : 2 ^ i ≤ 2 ^ 8 := Nat.pow_le_pow_right (by decide) (by omega)
    by_cases hil : i < ds.length
    · obtain ⟨b, off, rfl, hc⟩ := h3 i hil
      rw [show ds.length - i = (ds.length - (i + 1)) + 1 by omega, synF, gt_eq hil] at hq
      have hy := hl.at i hil
      obtain ⟨hq1, hq2⟩ := pow16 i (by omega)
      generalize ds[i] = y at *
      have hyx : y &&& x < 65536 := Nat.lt_of_le_of_lt Nat.and_le_left hy
      have ea := and_i64_nat y x (by omega) (by omega)
      have h2i : 2 ^ (i + 1) = 2 * 2 ^ i := by rw [Nat.pow_succ]; omega
      have eo := or_pow t i (by omega) (by omega)
      have ez := or_zero t (by omega)
      have Hb := Lib.hid (show t ||| 2 ^ i < 2 ^ (i + 1) from Nat.or_lt_two_pow (by omega) (by have := Nat.two_pow_pos i; omega))
      have Hb2 := Lib.hid (show t < 2 ^ (i + 1) by omega)
      have hoe := odd_eq (y &&& x)
      have hwl := wt_le (y &&& x)
      clear h2i hi8
      by_cases hd : odd (y &&& x) = true
      · have e3 : ((wt (y &&& x) : Nat) : Int).tmod 2 = 1 := by
          rw [hd] at hoe
          have h1 : ((wt (y &&& x) : Nat) : Int) % 2 = 1 := by simpa using hoe
          rw [Int.tmod_eq_emod_of_nonneg (by omega)]; exact h1
        rw [if_pos hd] at hq
        have Hq := Lib.hid hq
        clear hq h3 hoe
        go_wp2_with (go_at_call 61; refine (l06Weight_any (y &&& x) hyx _).mono ?_; rintro e w' ⟨rfl, rfl⟩)
        go_round
        case rel => exact ⟨i + 1, _, rfl, by go_num, by omega, Hb.out, Hq.out⟩
        case measure => simp [intOf] <;> omega
      · have hd : odd (y &&& x) = false := by simpa using hd
        have e3 : ((wt (y &&& x) : Nat) : Int).tmod 2 = 0 := by
          rw [hd] at hoe
          have h1 : ¬ ((wt (y &&& x) : Nat) : Int) % 2 = 1 := by simpa using hoe
          rw [Int.tmod_eq_emod_of_nonneg (by omega)]; omega
        rw [if_neg (by rw [hd]; decide)] at hq
        have Hq := Lib.hid hq
        clear hq h3 hoe
        go_wp2_with (go_at_call 61; refine (l06Weight_any (y &&& x) hyx _).mono ?_; rintro e w' ⟨rfl, rfl⟩)
        go_round
        case rel => exact ⟨i + 1, t, rfl, by go_num, by omega, Hb2.out, Hq.out⟩
        case measure => simp [intOf] <;> omega
    · rw [show ds.length - i = 0 by omega, synF] at hq
      have Hq := Lib.hid hq
      clear hq
      go_wp2
      go_ret
      exact ⟨ret_i64 (by rw [Hq.out]), rfl⟩
end Go.Proofs.Ytejabnjhnbminaa
