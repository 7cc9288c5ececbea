/- Counts of letters: which are valid. No conditions but that the slices read. -/
import Derived.Test.YtbhconogaoghmaaText
import Derived.Test.YtbhconogaoghmaaSum
import Derived.Handy
namespace Go.Proofs.Ytbhconogaoghmaa
open Go.RowKit
set_option maxRecDepth 100000
set_option linter.unusedVariables false
set_option linter.unusedSimpArgs false

def cts (n : Int) (zs : List Int) : Bool := sgn n && (((zs.length : Int) == n) && (allIn zs 1 16384 && decide (sumL zs ≤ 16384)))
theorem cts_parts {n : Int} {zs : List Int} (h : cts n zs = true) : 2 ≤ n ∧ n ≤ 16 ∧ (zs.length : Int) = n ∧ (∀ z ∈ zs, 1 ≤ z ∧ z ≤ 16384) ∧ sumL zs ≤ 16384 := by
  simp only [cts, sgn, inB, Bool.and_eq_true, decide_eq_true_eq, beq_iff_eq] at h
  exact ⟨h.1.1, h.1.2, h.2.1, (allIn_iff _ _ _).1 h.2.2.1, h.2.2.2⟩
set_option maxHeartbeats 400000 in
theorem total_any (n : Int) (v : Value) (zs : List Int) (w : World) (h : RI w v zs) (hb : Small 1099511627776 zs) (hl : zs.length ≤ 1048576) :
    Calls Try.prog 33 #[.agg #[.int .i64 n, v]] w fun e w' => e = .returned (.int .i64 (sumL zs)) ∧ Below w.heap.size w w' := by
  have hb' : ∀ o, Below w.heap.size w (w.alloc o) := fun o => by go_grown
  have g := h.below (hb' (.cells #[.int .i64 n, v] 27))
  obtain ⟨ao, cap, rfl⟩ := h.shape
  go_enter Try.func33, Try.ntmps33
  go_wp2_with (go_at_call 51; refine (sumOf_any _ zs _ g hb hl).mono ?_; rintro e w' ⟨rfl, rfl⟩)
  go_ret
  exact ⟨rfl, hb' _⟩
set_option maxHeartbeats 1000000 in
theorem implCounts_any (n : Int) (v : Value) (zs : List Int) (w : World) (h : RI w v zs) :
    Calls Try.prog 13 #[.agg #[.int .i64 n, v]] w fun e w' => e = .returned (.bool (cts n zs)) ∧ Below w.heap.size w w' := by
  obtain ⟨ao, cap, rfl⟩ := h.shape
  have hlen := h.len
  have hb : ∀ o, Below w.heap.size w (w.alloc o) := fun o => by go_grown
  have g := h.below (hb (.cells #[.int .i64 n, .slice ao zs.length cap] 27))
  by_cases h1 : sgn n = true
  · by_cases h2 : (zs.length : Int) = n
    · have h2' : ((zs.length : Int) == n) = true := by simpa using h2
      have hs := inB_eq h1
      simp only [if_true] at hs
      obtain ⟨hs1, hs2⟩ := hs
      by_cases h3 : allIn zs 1 16384 = true
      · go_enter Try.func13, Try.ntmps13
        go_wp2_with (first | (go_at_call 39; refine (areSigns_any _ _).mono ?_; rw [h1]; rintro e w' ⟨rfl, rfl⟩) | (go_at_call 40; refine (areWithin_any _ zs _ _ _ g).mono ?_; rw [h3]; rintro e w' ⟨rfl, rfl⟩) | (go_at_call 33; refine (total_any _ _ zs _ g ((small_of_allIn h3 (by decide)).mono (by decide)) (by omega)).mono ?_; rintro e w2 ⟨rfl, b2⟩))
        go_ret
        exact ⟨ret_bool (by simp [cts, h1, h2, h3]), bnext (hb _) (by assumption)⟩
      · have h3 : allIn zs 1 16384 = false := by simpa using h3
        go_enter Try.func13, Try.ntmps13
        go_wp2_with (first | (go_at_call 39; refine (areSigns_any _ _).mono ?_; rw [h1]; rintro e w' ⟨rfl, rfl⟩) | (go_at_call 40; refine (areWithin_any _ zs _ _ _ g).mono ?_; rw [h3]; rintro e w' ⟨rfl, rfl⟩))
        go_ret
        exact ⟨ret_bool (by simp [cts, h3]), hb _⟩
    · have h2' : ((zs.length : Int) == n) = false := by simpa using h2
      go_enter Try.func13, Try.ntmps13
      go_wp2_with (first | (go_at_call 39; refine (areSigns_any _ _).mono ?_; rw [h1]; rintro e w' ⟨rfl, rfl⟩))
      go_ret
      exact ⟨ret_bool (by simp [cts, h2']), hb _⟩
  · have h1 : sgn n = false := by simpa using h1
    go_enter Try.func13, Try.ntmps13
    go_wp2_with (first | (go_at_call 39; refine (areSigns_any _ _).mono ?_; rw [h1]; rintro e w' ⟨rfl, rfl⟩))
    go_ret
    exact ⟨ret_bool (by simp [cts, h1]), hb _⟩
set_option maxHeartbeats 400000 in
theorem l05Total_any (n : Int) (v : Value) (zs : List Int) (B : Nat) (w : World) (h : RI w v zs) (c1 : w.cell? ⟨B, 1, none⟩ = some v) (hb : Small 1099511627776 zs) (hl : zs.length ≤ 1048576) :
    Calls Try.prog 36 #[.pointer (some ⟨B, 0, none⟩)] w fun e w' => e = .returned (.int .i64 (sumL zs)) ∧ w = w' := by
  obtain ⟨_, ao, cap, rfl, h1, h2, h3⟩ := h
  have hs := sumL_bd hb (by decide)
  go_enter Try.func36, Try.ntmps36
  go_wp2
  go_loop [3, 10] (fun s i => ∃ (k : Nat) (acc : Int), k ≤ zs.length ∧ i = .int .i64 k ∧ s = .int .i64 acc ∧ 0 ≤ acc ∧ acc + sumL (zs.drop k) = sumL zs) (fun _ i => zs.length - (intOf i).toNat)
  case atStart => exact ⟨0, 0, Nat.zero_le _, rfl, rfl, by omega, by simp⟩
  case round =>
    obtain ⟨k, acc, hk, rfl, rfl, ha, hall⟩ := hrel
    have hd := sumL_bd (hb.drop k) (by decide)
    have hal : acc ≤ 1152921504606846976 := by omega
    have Hall := Lib.hid hall; clear hall hd
    by_cases hlt : k < zs.length
    · obtain ⟨b, off, rfl, hc⟩ := h3 k hlt
      have Hd := Lib.hid (List.drop_eq_getElem_cons hlt)
      have hz := hb.at k hlt
      clear h3 hb hs
      generalize zs[k] = z at hc Hd hz
      obtain ⟨hz0, hz1⟩ := hz
      go_wp2
      go_round
      case rel => exact ⟨k + 1, acc + z, by omega, by go_num, rfl, by omega, by rw [← Hall.out, Hd.out, sumL]; omega⟩
      case measure => simp [intOf]; omega
    · go_wp2
      go_ret
      exact ⟨ret_i64 (by rw [← Hall.out, List.drop_of_length_le (by omega)]; simp [sumL]), rfl⟩
set_option maxHeartbeats 1000000 in
theorem l05Counts_any (n : Int) (v : Value) (zs : List Int) (B : Nat) (w : World) (h : RI w v zs)
    (c0 : w.cell? ⟨B, 0, none⟩ = some (.int .i64 n)) (c1 : w.cell? ⟨B, 1, none⟩ = some v) :
    Calls Try.prog 34 #[.pointer (some ⟨B, 0, none⟩)] w fun e w' => e = .returned (.bool (cts n zs)) ∧ ∃ m, w' = w.drewN m := by
  have hlen := h.len
  have hr : ∀ m, RI (w.drewN m) v zs := fun m => h.below (below_drewN _ _)
  obtain ⟨ao, cap, rfl⟩ := h.shape
  obtain ⟨_, ao_, cap_, e_, h1', h2', h3'⟩ := h
  simp only [Value.slice.injEq, true_and] at e_
  obtain ⟨rfl, rfl⟩ := e_
  by_cases h1 : sgn n = true
  · have hs := inB_eq h1
    simp only [if_true] at hs
    obtain ⟨hs1, hs2⟩ := hs
    by_cases h2 : (zs.length : Int) = n
    · have h2' : ((zs.length : Int) != n) = false := by simp [h2]
      have H2 := Lib.hid h2
      have hl16 : zs.length ≤ 16 := by omega
      clear h2
      go_enter Try.func34, Try.ntmps34
      go_wp2_with fail
      go_quiet ((go_at_call 56; exact Calls.quiet_of (qv h1 (l05Letters_any _ _))))
      go_wp2
      go_loopw [27] (fun i wr => ∃ k : Nat, k ≤ zs.length ∧ i = .int .i64 k ∧ allIn (zs.drop k) 1 16384 = allIn zs 1 16384 ∧ ∃ m, wr = w.drewN m) (fun i _ => zs.length - (intOf i).toNat)
      case atStart => exact ⟨0, Nat.zero_le _, rfl, rfl, _, rfl⟩
      case round =>
        obtain ⟨k, hk, rfl, hq, m, rfl⟩ := hrel
        have Hq := Lib.hid hq
        clear hq
        by_cases hlt : k < zs.length
        · obtain ⟨b, off, rfl, hc⟩ := h3' k hlt
          have Hd := Lib.hid (List.drop_eq_getElem_cons hlt)
          clear h3' hr
          generalize zs[k] = z at hc Hd
          by_cases hz : inB z 1 16384 = true
          · go_wp2_with (go_at_call 57; refine (l00In_any _ _ _ _).mono ?_; rw [hz]; rintro e w' ⟨rfl, rfl⟩)
            go_roundw
            case rel => exact ⟨k + 1, by omega, by go_num, by rw [← Hq.out, Hd.out, allIn, hz]; rfl, _, rfl⟩
            case measure => simp [intOf]; omega
          · have hz' : inB z 1 16384 = false := by simpa using hz
            go_wp2_with (go_at_call 57; refine (l00In_any _ _ _ _).mono ?_; rw [hz']; rintro e w' ⟨rfl, rfl⟩)
            go_ret
            exact ⟨ret_bool (by rw [cts, ← Hq.out, Hd.out, allIn, hz']; simp), _, rfl⟩
        · have hq := Hq.out
          rw [List.drop_of_length_le (by omega)] at hq
          have h3 : allIn zs 1 16384 = true := hq.symm
          have hsm : Small 1099511627776 zs := (small_of_allIn h3 (by decide)).mono (by decide)
          have Hsm := Lib.hid hsm
          have H3 := Lib.hid h3
          have g := hr m
          have H1 := Lib.hid h1
          clear hq h3 hsm h3' hr h1
          go_wp2_with (go_at_call 36; refine (l05Total_any n _ zs B _ g (by simp [go_sem, c1]) Hsm.out (by omega)).mono ?_; rintro e w' ⟨rfl, rfl⟩)
          go_ret
          exact ⟨ret_bool (by simp [cts, H1.out, H2.out, H3.out]), _, rfl⟩
    · have h2' : ((zs.length : Int) != n) = true := by simp [h2]
      have h2'' : ((zs.length : Int) == n) = false := by simp [h2]
      clear h2
      go_enter Try.func34, Try.ntmps34
      go_wp2_with fail
      go_quiet ((go_at_call 56; exact Calls.quiet_of (qv h1 (l05Letters_any _ _))))
      go_wp2
      go_ret
      exact ⟨ret_bool (by simp [cts, h2'']), _, rfl⟩
  · have h1 : sgn n = false := by simpa using h1
    go_enter Try.func34, Try.ntmps34
    go_wp2_with fail
    go_quiet ((go_at_call 56; exact Calls.quiet_of (qv h1 (l05Letters_any _ _))))
    go_wp2
    go_ret
    exact ⟨ret_bool (by simp [cts, h1]), _, rfl⟩
set_option maxHeartbeats 1000000 in
theorem specCounts_any (n : Int) (v : Value) (zs : List Int) (w : World) (h : RI w v zs) :
    Calls Try.prog 21 #[.agg #[.int .i64 n, v]] w fun e w' => e = .returned (.bool (cts n zs)) ∧ Below w.heap.size w w' := by
  have hb : ∀ o, Below w.heap.size w (w.alloc o) := fun o => by go_grown
  obtain ⟨ao, cap, rfl⟩ := h.shape
  have g := h.below (hb (.cells #[.int .i64 n, .slice ao zs.length cap] 27))
  go_enter Try.func21, Try.ntmps21
  go_wp2_with (go_at_call 34; refine (l05Counts_any n _ zs _ _ g (by simp [go_sem]) (by simp [go_sem])).mono ?_; rintro e w' ⟨rfl, m, rfl⟩)
  go_ret
  exact ⟨rfl, bnext (hb _) (below_drewN _ _)⟩
end Go.Proofs.Ytbhconogaoghmaa
