/- Shares of letters: which are valid. No conditions but that the slices read. -/
import Derived.Test.YtnhcoggjnbldiaaText
import Derived.Test.YtnhcoggjnbldiaaSum
import Derived.Deep.RegionHeld3
import Derived.Handy
namespace Go.Proofs.Ytnhcoggjnbldiaa
open Go.RowKit
set_option maxRecDepth 100000
set_option linter.unusedVariables false
set_option linter.unusedSimpArgs false

def shs (p : Int) (zs : List Int) : Bool := inB p 1 8 && (sgn zs.length && (allIn zs 1 256 && (sumL zs == 2 ^ p.toNat)))
theorem pow8 (n : Nat) (hn : n ≤ 8) : (1 : Int) ≤ 2 ^ n ∧ (2 : Int) ^ n ≤ 256 := by
  have h1 : 2 ^ n ≤ 2 ^ 8 := Nat.pow_le_pow_right (by decide) hn
  have h2 : 1 ≤ 2 ^ n := Nat.one_le_two_pow
  have e : (2 : Int) ^ n = ((2 ^ n : Nat) : Int) := by simp
  rw [e]; omega
set_option maxHeartbeats 400000 in
theorem size_any (p : Int) (v : Value) (w : World) (h0 : 0 ≤ p) (h8 : p ≤ 8) :
    Calls Try.prog 22 #[.agg #[.int .i64 p, v]] w fun e w' => e = .returned (.int .i64 (2 ^ p.toNat)) ∧ Below w.heap.size w w' := by
  obtain ⟨hp1, hp2⟩ := pow8 p.toNat (by omega)
  go_enter Try.func22, Try.ntmps22
  go_wp2
  go_ret
  exact ⟨rfl, by go_grown⟩
set_option maxHeartbeats 1000000 in
theorem implShares_any (p : Int) (v : Value) (zs : List Int) (w : World) (h : RI w v zs) :
    Calls Try.prog 11 #[.agg #[.int .i64 p, v]] w fun e w' => e = .returned (.bool (shs p zs)) ∧ Below w.heap.size w w' := by
  obtain ⟨ao, cap, rfl⟩ := h.shape
  have hlen := h.len
  have hb : ∀ o, Below w.heap.size w (w.alloc o) := fun o => by go_grown
  have g := h.below (hb (.cells #[.int .i64 p, .slice ao zs.length cap] 30))
  by_cases h1 : inB p 1 8 = true
  · have hp := inB_eq h1
    simp only [if_true] at hp
    obtain ⟨hp1, hp8⟩ := hp
    by_cases h2 : sgn zs.length = true
    · by_cases h3 : allIn zs 1 256 = true
      · go_enter Try.func11, Try.ntmps11
        go_wp2_with fail
        go_region_held3 (fun W' => W'.cell? ⟨w.heap.size, 0, none⟩ = some (.int .i64 p) ∧ W'.cell? ⟨w.heap.size, 1, none⟩ = some (.slice ao zs.length cap) ∧ Below w.heap.size w W')
          ((go_split_ands; refine ⟨?_, ?_, ?_⟩ <;> first | assumption | (simp [go_sem]; done) | exact cnext (by assumption) (by assumption) | exact bnext (by assumption) (by assumption) | exact bnext (Below.drew (by assumption)) (by assumption) | exact Below.drew (hb _)))
          (first
            | (go_at_call 21; with_reducible refine Calls.mono (within_any _ _ _ _) ?_; rintro e w' ⟨rfl, rfl⟩; rw [h1])
            | (go_at_call 35; with_reducible refine Calls.mono (areSigns_any _ _) ?_; rintro e w' ⟨rfl, rfl⟩; rw [h2])
            | (go_at_call 36; with_reducible refine Calls.mono (areWithin_any _ zs _ _ _ ?_) ?_; (exact h.below (by go_split_ands; first | assumption | exact Below.drew (hb _))); rintro e w' ⟨rfl, rfl⟩; rw [h3])
            | (go_at_call 24; with_reducible refine Calls.mono (sumOf_any _ zs _ ?_ ((small_of_allIn h3 (by decide)).mono (by decide)) (by simp [sgn, inB] at h2; omega)) ?_; (exact h.below (by go_split_ands; first | assumption | exact Below.drew (hb _))); rintro e w' ⟨rfl, rfl⟩)
            | (go_at_call 22; with_reducible refine Calls.mono (size_any _ _ _ (by omega) (by omega)) ?_; rintro e w2 ⟨rfl, b2⟩))
        go_wp2
        go_ret
        exact ⟨ret_bool (by simp [shs, h1, h2, h3]), by go_split_ands; assumption⟩
      · have h3 : allIn zs 1 256 = false := by simpa using h3
        go_enter Try.func11, Try.ntmps11
        go_wp2_with fail
        go_quiet ((first | (go_at_call 21; exact Calls.quiet_of (qv h1 (within_any _ _ _ _))) | (go_at_call 35; exact Calls.quiet_of (qv h2 (areSigns_any _ _))) | (go_at_call 36; exact Calls.quiet_of (qv h3 (areWithin_any _ zs _ _ _ g)))))
        go_wp2
        go_ret
        exact ⟨ret_bool (by simp [shs, h3]), bnext (hb _) (below_drewN _ _)⟩
    · have h2 : sgn zs.length = false := by simpa using h2
      go_enter Try.func11, Try.ntmps11
      go_wp2_with fail
      go_quiet ((first | (go_at_call 21; exact Calls.quiet_of (qv h1 (within_any _ _ _ _))) | (go_at_call 35; exact Calls.quiet_of (qv h2 (areSigns_any _ _)))))
      go_wp2
      go_ret
      exact ⟨ret_bool (by simp [shs, h2]), bnext (hb _) (below_drewN _ _)⟩
  · have h1 : inB p 1 8 = false := by simpa using h1
    go_enter Try.func11, Try.ntmps11
    go_wp2_with fail
    go_quiet ((first | (go_at_call 21; exact Calls.quiet_of (qv h1 (within_any _ _ _ _)))))
    go_wp2
    go_ret
    exact ⟨ret_bool (by simp [shs, h1]), bnext (hb _) (below_drewN _ _)⟩
set_option maxHeartbeats 1000000 in
theorem l05Shares_any (p : Int) (v : Value) (zs : List Int) (B : Nat) (w : World) (h : RI w v zs)
    (c0 : w.cell? ⟨B, 0, none⟩ = some (.int .i64 p)) (c1 : w.cell? ⟨B, 1, none⟩ = some v) :
    Calls Try.prog 31 #[.pointer (some ⟨B, 0, none⟩)] w fun e w' => e = .returned (.bool (shs p zs)) ∧ w = w' := by
  have hlen := h.len
  obtain ⟨_, ao, cap, rfl, h1', h2', h3'⟩ := h
  by_cases h1 : inB p 1 8 = true
  · have hp := inB_eq h1
    simp only [if_true] at hp
    obtain ⟨hp1, hp8⟩ := hp
    obtain ⟨hq1, hq2⟩ := pow8 p.toNat (by omega)
    by_cases h2 : sgn zs.length = true
    · have hs := inB_eq h2
      simp only [if_true] at hs
      obtain ⟨hs1, hs2⟩ := hs
      go_enter Try.func31, Try.ntmps31
      go_wp2_with (go_at_call 28; refine (l00In_any _ _ _ _).mono ?_; rintro e w' ⟨rfl, rfl⟩)
      go_loop [4, 30] (fun s i => ∃ (k : Nat) (acc : Int), k ≤ zs.length ∧ i = .int .i64 k ∧ s = .int .i64 acc ∧ 0 ≤ acc ∧ acc ≤ 256 * k ∧ allIn (zs.drop k) 1 256 = allIn zs 1 256 ∧ acc + sumL (zs.drop k) = sumL zs) (fun _ i => zs.length - (intOf i).toNat)
      case atStart => exact ⟨0, 0, Nat.zero_le _, rfl, rfl, by omega, by omega, rfl, by simp⟩
      case round =>
        obtain ⟨k, acc, hk, rfl, rfl, ha, hal, hq, hsum⟩ := hrel
        have Hq := Lib.hid hq
        have Hsum := Lib.hid hsum
        clear hq hsum
        by_cases hlt : k < zs.length
        · obtain ⟨b, off, rfl, hc⟩ := h3' k hlt
          have Hd := Lib.hid (List.drop_eq_getElem_cons hlt)
          clear h3'
          generalize zs[k] = z at hc Hd
          by_cases hz : inB z 1 256 = true
          · have hz' := inB_eq hz
            simp only [if_true] at hz'
            obtain ⟨hz1, hz2⟩ := hz'
            go_wp2_with (go_at_call 28; refine (l00In_any _ _ _ _).mono ?_; rw [hz]; rintro e w' ⟨rfl, rfl⟩)
            go_round
            case rel => exact ⟨k + 1, acc + z, by omega, by go_num, rfl, by omega, by omega, by rw [← Hq.out, Hd.out, allIn, hz]; rfl, by rw [← Hsum.out, Hd.out, sumL]; omega⟩
            case measure => simp [intOf]; omega
          · have hz' : inB z 1 256 = false := by simpa using hz
            go_wp2_with (go_at_call 28; refine (l00In_any _ _ _ _).mono ?_; rw [hz']; rintro e w' ⟨rfl, rfl⟩)
            go_ret
            exact ⟨ret_bool (by rw [shs, ← Hq.out, Hd.out, allIn, hz']; simp), rfl⟩
        · go_wp2
          go_ret
          have hq := Hq.out
          have hsum := Hsum.out
          rw [List.drop_of_length_le (by omega)] at hq hsum
          refine ⟨ret_bool ?_, rfl⟩
          rw [shs, ← hq, ← hsum, h1, h2]
          simp [allIn, sumL]
    · have h2 : sgn zs.length = false := by simpa using h2
      have h2' : ¬ (2 ≤ zs.length ∧ zs.length ≤ 16) := by
        have := inB_eq h2
        simp at this; omega
      by_cases h4 : 2 ≤ zs.length
      · have h5 : ¬ zs.length ≤ 16 := by omega
        clear h2'
        go_enter Try.func31, Try.ntmps31
        go_wp2_with (go_at_call 28; refine (l00In_any _ _ _ _).mono ?_; rintro e w' ⟨rfl, rfl⟩)
        go_ret
        exact ⟨ret_bool (by simp [shs, h2]), rfl⟩
      · clear h2'
        go_enter Try.func31, Try.ntmps31
        go_wp2_with (go_at_call 28; refine (l00In_any _ _ _ _).mono ?_; rintro e w' ⟨rfl, rfl⟩)
        go_ret
        exact ⟨ret_bool (by simp [shs, h2]), rfl⟩
  · have h1 : inB p 1 8 = false := by simpa using h1
    go_enter Try.func31, Try.ntmps31
    go_wp2_with (go_at_call 28; refine (l00In_any _ _ _ _).mono ?_; rintro e w' ⟨rfl, rfl⟩)
    go_ret
    exact ⟨ret_bool (by simp [shs, h1]), rfl⟩
set_option maxHeartbeats 1000000 in
theorem specShares_any (p : Int) (v : Value) (zs : List Int) (w : World) (h : RI w v zs) :
    Calls Try.prog 12 #[.agg #[.int .i64 p, v]] w fun e w' => e = .returned (.bool (shs p zs)) ∧ Below w.heap.size w w' := by
  have hb : ∀ o, Below w.heap.size w (w.alloc o) := fun o => by go_grown
  obtain ⟨ao, cap, rfl⟩ := h.shape
  have g := h.below (hb (.cells #[.int .i64 p, .slice ao zs.length cap] 30))
  go_enter Try.func12, Try.ntmps12
  go_wp2_with (go_at_call 31; refine (l05Shares_any p _ zs _ _ g (by simp [go_sem]) (by simp [go_sem])).mono ?_; rintro e w' ⟨rfl, rfl⟩)
  go_ret
  exact ⟨rfl, hb _⟩
end Go.Proofs.Ytnhcoggjnbldiaa
