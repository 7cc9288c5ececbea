/- Numbers of letters and texts: what both packages say of them. No conditions but that the slices read. -/
import Derived.Test.YtbhconogaoghmaaBase
namespace Go.Proofs.Ytbhconogaoghmaa
open Go.RowKit
set_option maxRecDepth 100000

def sgn (n : Int) : Bool := inB n 2 16
def txt (zs : List Int) (n : Int) : Bool := sgn n && decide (zs.length ≤ 64) && allIn zs 0 (n - 1)

set_option maxHeartbeats 400000 in
theorem l00In_any (n lo hi : Int) (w : World) :
    Calls Try.prog 57 #[.int .i64 n, .int .i64 lo, .int .i64 hi] w fun e w' => e = .returned (.bool (inB n lo hi)) ∧ w = w' := by
  go_enter Try.func57, Try.ntmps57
  by_cases h1 : lo ≤ n <;> by_cases h2 : n ≤ hi <;>
    (go_wp2; go_ret; exact ⟨ret_bool (by simp [inB, h1, h2]), rfl⟩)

set_option maxHeartbeats 400000 in
theorem within_any (n lo hi : Int) (w : World) :
    Calls Try.prog 30 #[.int .i64 n, .int .i64 lo, .int .i64 hi] w fun e w' => e = .returned (.bool (inB n lo hi)) ∧ w = w' := by
  go_enter Try.func30, Try.ntmps30
  by_cases h1 : lo ≤ n <;> by_cases h2 : n ≤ hi <;>
    (go_wp2; go_ret; exact ⟨ret_bool (by simp [inB, h1, h2]), rfl⟩)

set_option maxHeartbeats 400000 in
theorem areSigns_any (n : Int) (w : World) :
    Calls Try.prog 39 #[.int .i64 n] w fun e w' => e = .returned (.bool (sgn n)) ∧ w = w' := by
  go_enter Try.func39, Try.ntmps39
  go_wp2_with (go_at_call 30; refine (within_any _ _ _ _).mono ?_; rintro e w' ⟨rfl, rfl⟩)
  all_goals (go_ret; exact ⟨rfl, rfl⟩)

set_option maxHeartbeats 400000 in
theorem l05Letters_any (n : Int) (w : World) :
    Calls Try.prog 56 #[.int .i64 n] w fun e w' => e = .returned (.bool (sgn n)) ∧ w = w' := by
  go_enter Try.func56, Try.ntmps56
  go_wp2_with (go_at_call 57; refine (l00In_any _ _ _ _).mono ?_; rintro e w' ⟨rfl, rfl⟩)
  all_goals (go_ret; exact ⟨rfl, rfl⟩)

set_option maxHeartbeats 400000 in
theorem areWithin_any (v : Value) (zs : List Int) (lo hi : Int) (w : World) (h : RI w v zs) :
    Calls Try.prog 40 #[v, .int .i64 lo, .int .i64 hi] w fun e w' => e = .returned (.bool (allIn zs lo hi)) ∧ w = w' := by
  have hlen := h.len
  obtain ⟨_, ao, cap, rfl, h1, h2, h3⟩ := h
  go_enter Try.func40, Try.ntmps40
  go_wp2
  go_loop [11] (fun i => ∃ k : Nat, k ≤ zs.length ∧ i = .int .i64 k ∧ allIn (zs.drop k) lo hi = allIn zs lo hi) (fun i => zs.length - (intOf i).toNat)
  case atStart => exact ⟨0, Nat.zero_le _, rfl, rfl⟩
  case round =>
    obtain ⟨k, hk, rfl, hall⟩ := hrel
    have Hall := Lib.hid hall; clear hall
    by_cases hlt : k < zs.length
    · obtain ⟨b, off, rfl, hc⟩ := h3 k hlt
      have Hd := Lib.hid (List.drop_eq_getElem_cons hlt)
      clear h3
      generalize zs[k] = z at hc Hd
      go_wp2_with (go_at_call 30; refine (within_any _ _ _ _).mono ?_; rintro e w' ⟨rfl, rfl⟩)
      · go_ret
        have hb := not_true (b := inB z lo hi) (by assumption)
        exact ⟨ret_bool (by rw [← Hall.out, Hd.out]; simp [allIn, hb]), rfl⟩
      · go_round
        have hb := not_false (b := inB z lo hi) (by assumption)
        case rel => exact ⟨k + 1, by omega, by go_num, by rw [← Hall.out, Hd.out]; simp [allIn, hb]⟩
        case measure => simp [intOf]; omega
    · go_wp2
      go_ret
      exact ⟨ret_bool (by rw [← Hall.out, List.drop_of_length_le (by omega)]; rfl), rfl⟩

set_option maxHeartbeats 400000 in
theorem l05Text_any (v : Value) (zs : List Int) (n : Int) (w : World) (h : RI w v zs) :
    Calls Try.prog 35 #[v, .int .i64 n] w fun e w' => e = .returned (.bool (txt zs n)) ∧ w = w' := by
  have hlen := h.len
  obtain ⟨_, ao, cap, rfl, h1, h2, h3⟩ := h
  by_cases hs : sgn n = true
  · have hn := inB_eq hs
    simp only [if_true] at hn
    by_cases hl : zs.length ≤ 64
    · go_enter Try.func35, Try.ntmps35
      go_wp2_with (go_at_call 56; refine (l05Letters_any _ _).mono ?_; rintro e w' ⟨rfl, rfl⟩)
      go_loop [16] (fun i => ∃ k : Nat, k ≤ zs.length ∧ i = .int .i64 k ∧ allIn (zs.drop k) 0 (n - 1) = allIn zs 0 (n - 1)) (fun i => zs.length - (intOf i).toNat)
      case atStart => exact ⟨0, Nat.zero_le _, rfl, rfl⟩
      case round =>
        obtain ⟨k, hk, rfl, hall⟩ := hrel
        have Hall := Lib.hid hall; clear hall
        by_cases hlt : k < zs.length
        · obtain ⟨b, off, rfl, hc⟩ := h3 k hlt
          have Hd := Lib.hid (List.drop_eq_getElem_cons hlt)
          clear h3
          generalize zs[k] = z at hc Hd
          go_wp2_with (go_at_call 57; refine (l00In_any _ _ _ _).mono ?_; rintro e w' ⟨rfl, rfl⟩)
          · go_ret
            have hb := not_true (b := inB z 0 (n - 1)) (by assumption)
            exact ⟨ret_bool (by rw [txt, ← Hall.out, Hd.out]; simp [allIn, hb]), rfl⟩
          · go_round
            have hb := not_false (b := inB z 0 (n - 1)) (by assumption)
            case rel => exact ⟨k + 1, by omega, by go_num, by rw [← Hall.out, Hd.out]; simp [allIn, hb]⟩
            case measure => simp [intOf]; omega
        · go_wp2
          go_ret
          exact ⟨ret_bool (by rw [txt, ← Hall.out, List.drop_of_length_le (by omega)]; simp [allIn, hs, hl]), rfl⟩
    · go_enter Try.func35, Try.ntmps35
      go_wp2_with (go_at_call 56; refine (l05Letters_any _ _).mono ?_; rintro e w' ⟨rfl, rfl⟩)
      go_ret
      exact ⟨ret_bool (by simp [txt, hl]), rfl⟩
  · have hs' : sgn n = false := by simpa using hs
    go_enter Try.func35, Try.ntmps35
    go_wp2_with (go_at_call 56; refine (l05Letters_any _ _).mono ?_; rintro e w' ⟨rfl, rfl⟩)
    go_ret
    exact ⟨ret_bool (by simp [txt, hs']), rfl⟩

set_option maxHeartbeats 400000 in
theorem isText_any (v : Value) (zs : List Int) (n : Int) (w : World) (h : RI w v zs) :
    Calls Try.prog 12 #[v, .int .i64 n] w fun e w' => e = .returned (.bool (txt zs n)) ∧ w = w' := by
  have hlen := h.len
  have h0 := h
  obtain ⟨_, ao, cap, rfl, h1, h2, h3⟩ := h
  clear h3
  by_cases hs : sgn n = true
  · have hn := inB_eq hs
    simp only [if_true] at hn
    by_cases hl : zs.length ≤ 64
    · go_enter Try.func12, Try.ntmps12
      go_wp2_with (first | (go_at_call 39; refine (areSigns_any _ _).mono ?_; rintro e w' ⟨rfl, rfl⟩) | (go_at_call 40; refine (areWithin_any _ zs _ _ _ h0).mono ?_; rintro e w' ⟨rfl, rfl⟩))
      go_ret
      exact ⟨ret_bool (by simp [txt, hs, hl]), rfl⟩
    · go_enter Try.func12, Try.ntmps12
      go_wp2_with (first | (go_at_call 39; refine (areSigns_any _ _).mono ?_; rintro e w' ⟨rfl, rfl⟩) | (go_at_call 40; refine (areWithin_any _ zs _ _ _ h0).mono ?_; rintro e w' ⟨rfl, rfl⟩))
      go_ret
      exact ⟨ret_bool (by simp [txt, hl]), rfl⟩
  · have hs' : sgn n = false := by simpa using hs
    go_enter Try.func12, Try.ntmps12
    go_wp2_with (first | (go_at_call 39; refine (areSigns_any _ _).mono ?_; rintro e w' ⟨rfl, rfl⟩) | (go_at_call 40; refine (areWithin_any _ zs _ _ _ h0).mono ?_; rintro e w' ⟨rfl, rfl⟩))
    go_ret
    exact ⟨ret_bool (by simp [txt, hs']), rfl⟩

end Go.Proofs.Ytbhconogaoghmaa
