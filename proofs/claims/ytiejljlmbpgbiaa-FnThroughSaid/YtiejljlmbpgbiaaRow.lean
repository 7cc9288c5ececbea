/- Rows of chances: what both packages' tests and sums return. No conditions but that the slices read. -/
import Derived.Test.YtiejljlmbpgbiaaRowQ
import Derived.Deep.QuietTactic
import Derived.BigRegion
import Derived.Handy
import Derived.Deep.RegionHeld3
namespace Go.Proofs.Ytiejljlmbpgbiaa
open Go.RowKit
set_option maxRecDepth 100000
set_option linter.unusedVariables false
set_option linter.unusedSimpArgs false

set_option maxHeartbeats 400000 in
theorem l02Least_any (x : Nat) (w : World) : Calls Try.prog 76 #[.float .f32 x] w fun e w' => e = .returned (.bool (leastW x)) ∧ ∃ n, w' = w.drewN n := by
  have hf := l01Finite_any x
  have hl : leastW x = (finW x && geZ x) := rfl
  cases h : finW x
  · rw [h] at hf hl
    have Hl := Lib.hid hl
    clear hl
    go_enter Try.func76, Try.ntmps76
    go_wp2_with (go_at_call 60; refine (hf _).mono ?_; rintro e w' ⟨rfl, n, rfl⟩)
    go_ret
    exact ⟨ret_bool (by rw [Hl.out]; rfl), _, rfl⟩
  · rw [h] at hf hl
    have Hl := Lib.hid hl
    clear hl
    have hg : (FloatKind.f32.format.order x 0 == some .gt || FloatKind.f32.format.order x 0 == some .eq) = geZ x := rfl
    generalize geZ x = g at *
    go_enter Try.func76, Try.ntmps76
    go_wp2_with (go_at_call 60; refine (hf _).mono ?_; rintro e w' ⟨rfl, n, rfl⟩)
    go_ret
    exact ⟨ret_bool (by rw [Hl.out]; simp [hg]), _, rfl⟩
set_option maxHeartbeats 400000 in
theorem addUp_any (v : Value) (xs : List Nat) (w : World) (h : Rg eF w v xs) (hx : AllNum xs) :
    Calls Try.prog 74 #[v] w fun e w' => e = .returned (.float .f32 (sumF 0 xs)) ∧ w = w' := by
  have hlen := h.len
  obtain ⟨ao, cap, rfl, h1, h2, h3⟩ := h
  go_enter Try.func74, Try.ntmps74
  go_wp2
  go_loop [3, 8] (fun s i => ∃ k : Nat, k ≤ xs.length ∧ i = .int .i64 k ∧ s = .float .f32 (sumF 0 (xs.take k))) (fun _ i => xs.length - (intOf i).toNat)
  case atStart => exact ⟨0, Nat.zero_le _, rfl, rfl⟩
  case round =>
    obtain ⟨k, hk, rfl, rfl⟩ := hrel
    by_cases hlt : k < xs.length
    · obtain ⟨b, off, rfl, hc⟩ := h3 k hlt
      have hs := sum_step xs k hlt
      obtain ⟨a, ha⟩ := hx _ (List.getElem_mem hlt)
      have o1 := run_op (P := Try.prog) (nn_add (sum_nn (xs.take k) 0 (hx.take k) nn_zero) ha).1
      have Hs := Lib.hid hs
      clear hs h3 ha
      generalize xs[k] = x at *
      generalize sumF 0 (xs.take k) = s at *
      go_wp2_with (simp only [o1])
      go_round
      case rel => exact ⟨k + 1, by omega, by go_num, fl_eq Hs.out.symm⟩
      case measure => simp [intOf]; omega
    · obtain rfl : k = xs.length := by omega
      go_wp2
      go_ret
      exact ⟨rfl, rfl⟩
set_option maxHeartbeats 400000 in
theorem l02Sum_any (v : Value) (xs : List Nat) (w : World) (h : Rg eF w v xs) (hx : AllNum xs) :
    Calls Try.prog 77 #[v] w fun e w' => e = .returned (.float .f32 (sumF 0 xs)) ∧ w = w' := by
  have hlen := h.len
  obtain ⟨ao, cap, rfl, h1, h2, h3⟩ := h
  go_enter Try.func77, Try.ntmps77
  go_wp2
  go_loop [3, 4] (fun s i => ∃ k : Nat, k ≤ xs.length ∧ i = .int .i64 k ∧ s = .float .f32 (sumF 0 (xs.take k))) (fun _ i => xs.length - (intOf i).toNat)
  case atStart => exact ⟨0, Nat.zero_le _, rfl, rfl⟩
  case round =>
    obtain ⟨k, hk, rfl, rfl⟩ := hrel
    by_cases hlt : k < xs.length
    · obtain ⟨b, off, rfl, hc⟩ := h3 k hlt
      have hs := sum_step xs k hlt
      obtain ⟨a, ha⟩ := hx _ (List.getElem_mem hlt)
      have o1 := run_op (P := Try.prog) (nn_add (sum_nn (xs.take k) 0 (hx.take k) nn_zero) ha).1
      have Hs := Lib.hid hs
      clear hs h3 ha
      generalize xs[k] = x at *
      generalize sumF 0 (xs.take k) = s at *
      go_wp2_with (simp only [o1])
      go_round
      case rel => exact ⟨k + 1, by omega, by go_num, fl_eq Hs.out.symm⟩
      case measure => simp [intOf]; omega
    · obtain rfl : k = xs.length := by omega
      go_wp2
      go_ret
      exact ⟨rfl, rfl⟩
set_option maxHeartbeats 400000 in
theorem absolute_any (x : Nat) (w : World) : Calls Try.prog 73 #[.float .f32 x] w fun e w' => e = .returned (.float .f32 (absW x)) ∧ w = w' := by
  have o0 := run_neg (P := Try.prog)
  have ha : absW x = if (FloatKind.f32.format.order x 0 == some .lt) = true then fneg x else x := rfl
  cases h : (FloatKind.f32.format.order x 0 == some .lt)
  · rw [h, if_neg (by simp)] at ha
    rw [ha]
    clear ha
    go_enter Try.func73, Try.ntmps73
    go_wp2
    go_ret
    exact ⟨rfl, rfl⟩
  · rw [h, if_pos rfl] at ha
    rw [ha]
    clear ha
    go_enter Try.func73, Try.ntmps73
    go_wp2_with (simp only [o0])
    go_ret
    exact ⟨rfl, rfl⟩
theorem all_drop (xs : List Nat) (k : Nat) (h : k < xs.length) : (xs.drop k).all leastW = (leastW xs[k] && (xs.drop (k + 1)).all leastW) := by
  rw [List.drop_eq_getElem_cons h, List.all_cons]
theorem one_false {xs : List Nat} (h : xs.all leastW = false) : oneW xs = false := by unfold oneW; rw [h]; rfl
theorem one_true {xs : List Nat} (h : xs.all leastW = true) : oneW xs = okS (sumF 0 xs) := by unfold oneW; rw [h]; rfl
set_option maxHeartbeats 1000000 in
theorem isOne_any (v : Value) (xs : List Nat) (w : World) (h : Rg eF w v xs) :
    Calls Try.prog 57 #[v] w fun e w' => e = .returned (.bool (oneW xs)) ∧ ∃ n, w' = w.drewN n := by
  have hR := Lib.hid h
  have hlen := h.len
  obtain ⟨ao, cap, rfl, h1, h2, h3⟩ := h
  go_enter Try.func57, Try.ntmps57
  go_wp2
  go_loopw [7] (fun i wr => ∃ k : Nat, k ≤ xs.length ∧ i = .int .i64 k ∧ (xs.drop k).all leastW = xs.all leastW ∧ ∃ n, wr = w.drewN n) (fun i _ => xs.length - (intOf i).toNat)
  case atStart => exact ⟨0, Nat.zero_le _, rfl, rfl, 0, rfl⟩
  case round =>
    obtain ⟨k, hk, rfl, hq, n, rfl⟩ := hrel
    by_cases hlt : k < xs.length
    · obtain ⟨b, off, rfl, hc⟩ := h3 k hlt
      rw [all_drop xs k hlt] at hq
      have hf := isFin_any xs[k]
      have hl : leastW xs[k] = (finW xs[k] && geZ xs[k]) := rfl
      have hg : (FloatKind.f32.format.order xs[k] 0 == some .gt || FloatKind.f32.format.order xs[k] 0 == some .eq) = geZ xs[k] := rfl
      rw [hl] at hq
      clear h3 hl
      generalize geZ xs[k] = g at *
      generalize finW xs[k] = f at *
      generalize xs[k] = x at *
      have Hq := Lib.hid hq
      clear hq
      cases f
      · clear hg
        go_wp2_with (go_at_call 72; refine (hf _).mono ?_; rintro e w' ⟨rfl, n', rfl⟩)
        go_ret
        exact ⟨ret_bool (by rw [one_false (by rw [← Hq.out]; rfl)]), n + n', by simp⟩
      · cases g
        · go_wp2_with (go_at_call 72; refine (hf _).mono ?_; rintro e w' ⟨rfl, n', rfl⟩)
          go_ret
          exact ⟨ret_bool (by rw [one_false (by rw [← Hq.out]; rfl)]), n + n', by simp⟩
        · go_wp2_with (go_at_call 72; refine (hf _).mono ?_; rintro e w' ⟨rfl, n', rfl⟩)
          go_roundw
          case rel => exact ⟨k + 1, by omega, by go_num, by rw [← Hq.out]; rfl, n + n', by simp⟩
          case measure => simp [intOf]; omega
    · have hall : xs.all leastW = true := by rw [← hq, List.drop_of_length_le (by omega)]; rfl
      have hn := sum_nn xs 0 (all_num hall) nn_zero
      have ho := ok_abs hn
      obtain ⟨g1, -, -⟩ := nn_sub hn num_one32
      have o1 := run_op (P := Try.prog) g1
      have hadd := addUp_any _ xs (w.drewN n) (hR.out.below (below_drewN _ _)) (all_num hall)
      have Ho := Lib.hid (show oneW xs = leC (absW (fsub .f32 (sumF 0 xs) 1065353216)) by rw [one_true hall, ho])
      have hle : (FloatKind.f32.format.order (absW (fsub .f32 (sumF 0 xs) 1065353216)) 981668463 == some .lt || FloatKind.f32.format.order (absW (fsub .f32 (sumF 0 xs) 1065353216)) 981668463 == some .eq) = leC (absW (fsub .f32 (sumF 0 xs) 1065353216)) := rfl
      clear g1 hn ho hall hq h3
      generalize leC (absW (fsub .f32 (sumF 0 xs) 1065353216)) = z at *
      go_wp2_with (first | simp only [o1] | (go_at_call 74; refine hadd.mono ?_; rintro e w' ⟨rfl, rfl⟩) | (go_at_call 73; refine (absolute_any _ _).mono ?_; rintro e w' ⟨rfl, rfl⟩))
      go_ret
      exact ⟨ret_bool (by rw [Ho.out]), n, rfl⟩
set_option maxHeartbeats 1000000 in
theorem l02Chances_any (v : Value) (xs : List Nat) (w : World) (h : Rg eF w v xs) :
    Calls Try.prog 59 #[v] w fun e w' => e = .returned (.bool (oneW xs)) ∧ ∃ n, w' = w.drewN n := by
  have hR := Lib.hid h
  have hlen := h.len
  obtain ⟨ao, cap, rfl, h1, h2, h3⟩ := h
  go_enter Try.func59, Try.ntmps59
  go_wp2
  go_loopw [3] (fun i wr => ∃ k : Nat, k ≤ xs.length ∧ i = .int .i64 k ∧ (xs.drop k).all leastW = xs.all leastW ∧ ∃ n, wr = w.drewN n) (fun i _ => xs.length - (intOf i).toNat)
  case atStart => exact ⟨0, Nat.zero_le _, rfl, rfl, 0, rfl⟩
  case round =>
    obtain ⟨k, hk, rfl, hq, n, rfl⟩ := hrel
    by_cases hlt : k < xs.length
    · obtain ⟨b, off, rfl, hc⟩ := h3 k hlt
      rw [all_drop xs k hlt] at hq
      have hf := l02Least_any xs[k]
      clear h3
      generalize leastW xs[k] = f at *
      generalize xs[k] = x at *
      have Hq := Lib.hid hq
      clear hq
      cases f
      · go_wp2_with (go_at_call 76; refine (hf _).mono ?_; rintro e w' ⟨rfl, n', rfl⟩)
        go_ret
        exact ⟨ret_bool (by rw [one_false (by rw [← Hq.out]; rfl)]), n + n', by simp⟩
      · go_wp2_with (go_at_call 76; refine (hf _).mono ?_; rintro e w' ⟨rfl, n', rfl⟩)
        go_roundw
        case rel => exact ⟨k + 1, by omega, by go_num, by rw [← Hq.out]; rfl, n + n', by simp⟩
        case measure => simp [intOf]; omega
    · have hall : xs.all leastW = true := by rw [← hq, List.drop_of_length_le (by omega)]; rfl
      have hn := sum_nn xs 0 (all_num hall) nn_zero
      obtain ⟨g1, g2, -⟩ := nn_sub hn num_one32
      have o1 := run_op (P := Try.prog) g1
      have o2 := run_op (P := Try.prog) g2
      have hadd := l02Sum_any _ xs (w.drewN n) (hR.out.below (below_drewN _ _)) (all_num hall)
      have Ho := Lib.hid (show oneW xs = (leC (fsub .f32 (sumF 0 xs) 1065353216) && leC (fsub .f32 1065353216 (sumF 0 xs))) by rw [one_true hall]; rfl)
      have hle : ∀ y, (FloatKind.f32.format.order y 981668463 == some .lt || FloatKind.f32.format.order y 981668463 == some .eq) = leC y := fun y => rfl
      have e1 := hle (fsub .f32 (sumF 0 xs) 1065353216)
      have e2 := hle (fsub .f32 1065353216 (sumF 0 xs))
      clear g1 g2 hn hall hq h3 hle
      generalize leC (fsub .f32 (sumF 0 xs) 1065353216) = z at *
      generalize leC (fsub .f32 1065353216 (sumF 0 xs)) = y at *
      cases z
      · go_wp2_with (first | simp only [o1, o2] | (go_at_call 77; refine hadd.mono ?_; rintro e w' ⟨rfl, rfl⟩))
        go_ret
        exact ⟨ret_bool (by rw [Ho.out]; rfl), n, rfl⟩
      · go_wp2_with (first | simp only [o1, o2] | (go_at_call 77; refine hadd.mono ?_; rintro e w' ⟨rfl, rfl⟩))
        go_ret
        exact ⟨ret_bool (by rw [Ho.out]; simp [e2]), n, rfl⟩
set_option maxHeartbeats 400000 in
theorem IsRow_any (v : Value) (xs : List Nat) (w : World) (h : Rg eF w v xs) :
    Calls Try.prog 32 #[v] w fun e w' => e = .returned (.bool (isRowW xs)) ∧ ∃ n, w' = w.drewN n := by
  have hR := Lib.hid h
  have hlen := h.len
  obtain ⟨ao, cap, rfl, h1, h2, h3⟩ := h
  have hone := isOne_any _ xs w hR.out
  have hdef : isRowW xs = (decide (1 ≤ xs.length) && decide (xs.length ≤ 32) && oneW xs) := rfl
  generalize oneW xs = o at *
  have Hd := Lib.hid hdef
  clear hdef h3
  by_cases ha : 1 ≤ xs.length
  · by_cases hb : xs.length ≤ 32
    · go_enter Try.func32, Try.ntmps32
      go_wp2_with (go_at_call 57; refine hone.mono ?_; rintro e w' ⟨rfl, n, rfl⟩)
      go_ret
      exact ⟨ret_bool (by rw [Hd.out]; simp [ha, hb]), _, rfl⟩
    · go_enter Try.func32, Try.ntmps32
      go_wp2
      go_ret
      exact ⟨ret_bool (by rw [Hd.out]; simp [hb]), 0, rfl⟩
  · go_enter Try.func32, Try.ntmps32
    go_wp2
    go_ret
    exact ⟨ret_bool (by rw [Hd.out]; simp [ha]), 0, rfl⟩
set_option maxHeartbeats 400000 in
theorem l02Row_any (v : Value) (xs : List Nat) (w : World) (h : Rg eF w v xs) :
    Calls Try.prog 35 #[v] w fun e w' => e = .returned (.bool (isRowW xs)) ∧ ∃ n, w' = w.drewN n := by
  have hR := Lib.hid h
  have hlen := h.len
  obtain ⟨ao, cap, rfl, h1, h2, h3⟩ := h
  have hone := l02Chances_any _ xs w hR.out
  have hdef : isRowW xs = (decide (1 ≤ xs.length) && decide (xs.length ≤ 32) && oneW xs) := rfl
  generalize oneW xs = o at *
  have Hd := Lib.hid hdef
  clear hdef h3
  by_cases ha : 1 ≤ xs.length
  · by_cases hb : xs.length ≤ 32
    · go_enter Try.func35, Try.ntmps35
      go_wp2_with (go_at_call 59; refine hone.mono ?_; rintro e w' ⟨rfl, n, rfl⟩)
      go_ret
      exact ⟨ret_bool (by rw [Hd.out]; simp [ha, hb]), _, rfl⟩
    · go_enter Try.func35, Try.ntmps35
      go_wp2
      go_ret
      exact ⟨ret_bool (by rw [Hd.out]; simp [hb]), 0, rfl⟩
  · go_enter Try.func35, Try.ntmps35
    go_wp2
    go_ret
    exact ⟨ret_bool (by rw [Hd.out]; simp [ha]), 0, rfl⟩
end Go.Proofs.Ytiejljlmbpgbiaa
