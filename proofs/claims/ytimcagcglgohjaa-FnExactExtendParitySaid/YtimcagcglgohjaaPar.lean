/- Parities: which are valid, and handed back if they are. No conditions but that the slices read. -/
import Derived.Test.YtimcagcglgohjaaEchS
import Derived.Test.YtimcagcglgohjaaParP
import Derived.Handy
import Derived.Deep.RegionHeld3
namespace Go.Proofs.Ytimcagcglgohjaa
open Go.RowKit
set_option maxRecDepth 100000
set_option linter.unusedVariables false
set_option linter.unusedSimpArgs false

set_option maxHeartbeats 1000000 in
theorem implParity_any (n : Int) (v : Value) (zs : List Int) (w : World) (h : RI w v zs) :
    Calls Try.prog 16 #[.agg #[.int .i64 n, v]] w fun e w' => e = .returned (.bool (prv n zs)) ∧ Below w.heap.size w w' := by
  obtain ⟨ao, cap, rfl⟩ := h.shape
  have hlen := h.len
  have hb : ∀ o, Below w.heap.size w (w.alloc o) := fun o => by go_grown
  have g := h.below (hb (.cells #[.int .i64 n, .slice ao zs.length cap] 26))
  by_cases h1 : inB n 1 16 = true
  · have hp := inB_eq h1
    simp only [if_true] at hp
    obtain ⟨hp1, hp2⟩ := hp
    obtain ⟨m, rfl⟩ := Int.eq_ofNat_of_zero_le (show 0 ≤ n by omega)
    obtain ⟨hq1, hq2⟩ := pow16 m (by omega)
    by_cases h2 : 1 ≤ zs.length
    · have d1 : decide ((zs.length : Int) < 1) = false := decide_eq_false (by omega)
      have d1 : decide ((zs.length : Int) < 1) = false := decide_eq_false (by omega)
      by_cases h3 : zs.length ≤ 8
      · have d2 : decide (8 < (zs.length : Int)) = false := decide_eq_false (by omega)
        by_cases h4 : allIn zs 0 (2 ^ m - 1) = true
        · obtain ⟨h5, h6⟩ := lt_of_allIn h4
          have gN := g.2.toN h5
          have H5 := Lib.hid h5
          have H6 := Lib.hid h6
          have Ht := Lib.hid (toN_len zs)
          have H4 := Lib.hid h4
          clear h5 h6
          go_enter Try.func16, Try.ntmps16
          go_wp2_with fail
          go_quiet ((first | (go_at_call 25; exact Calls.quiet_of (qv h1 (within_any _ _ _ _))) | (go_at_call 26; exact Calls.quiet_of (qv h4 (areWithin_any _ zs _ _ _ g)))))
          clear h4
          go_wp2_with fail
          refine (echelon_any _ (toN zs) m (by omega) (by omega) _ (gN.below (below_drewN _ _)) (by rw [Ht.out]; omega) (by rw [Ht.out]; omega) H6.out).mono ?_
          rintro e w' ⟨v', rfl, ho, hB⟩
          have k1 : w'.cell? ⟨w.heap.size, 1, none⟩ = some (.slice ao zs.length cap) := cnext hB (by simp [go_sem])
          have hBf : Below w.heap.size w w' := bnext (bnext (hb _) (below_drewN _ _)) hB
          clear ho hB gN g h
          go_wp2
          go_ret
          refine ⟨ret_bool ?_, hBf⟩
          rw [prv, h1, Int.toNat_natCast, H4.out]
          simp only [h2, h3, decide_true, Bool.true_and]; rw [Bool.eq_iff_iff]; simp; omega
        · have h4 : allIn zs 0 (2 ^ m - 1) = false := by simpa using h4
          have Hf := Lib.hid (show prv m zs = false by simp [prv, h4])
          go_enter Try.func16, Try.ntmps16
          go_wp2_with fail
          go_quiet ((first | (go_at_call 25; exact Calls.quiet_of (qv h1 (within_any _ _ _ _))) | (go_at_call 26; exact Calls.quiet_of (qv h4 (areWithin_any _ zs _ _ _ g)))))
          go_wp2
          go_ret
          exact ⟨ret_bool Hf.out.symm, bnext (hb _) (below_drewN _ _)⟩
      · have d2 : decide (8 < (zs.length : Int)) = true := decide_eq_true (by omega)
        have Hf := Lib.hid (show prv m zs = false by simp [prv, h3])
        go_enter Try.func16, Try.ntmps16
        go_wp2_with fail
        go_quiet ((go_at_call 25; exact Calls.quiet_of (qv h1 (within_any _ _ _ _))))
        go_wp2
        go_ret
        exact ⟨ret_bool Hf.out.symm, bnext (hb _) (below_drewN _ _)⟩
    · obtain rfl : zs = [] := List.eq_nil_of_length_eq_zero (by omega)
      have Hf := Lib.hid (show prv m [] = false by simp [prv])
      go_enter Try.func16, Try.ntmps16
      go_wp2_with fail
      go_quiet ((go_at_call 25; exact Calls.quiet_of (qv h1 (within_any _ _ _ _))))
      go_wp2
      go_ret
      exact ⟨ret_bool Hf.out.symm, bnext (hb _) (below_drewN _ _)⟩
  · have h1 : inB n 1 16 = false := by simpa using h1
    have Hf := Lib.hid (show prv n zs = false by simp [prv, h1])
    go_enter Try.func16, Try.ntmps16
    go_wp2_with fail
    go_quiet ((go_at_call 25; exact Calls.quiet_of (qv h1 (within_any _ _ _ _))))
    go_wp2
    go_ret
    exact ⟨ret_bool Hf.out.symm, bnext (hb _) (below_drewN _ _)⟩
set_option maxHeartbeats 1000000 in
theorem l06Is_any (n : Int) (v : Value) (zs : List Int) (B : Nat) (w : World) (h : RI w v zs)
    (c0 : w.cell? ⟨B, 0, none⟩ = some (.int .i64 n)) (c1 : w.cell? ⟨B, 1, none⟩ = some v) :
    Calls Try.prog 12 #[.pointer (some ⟨B, 0, none⟩)] w fun e w' => e = .returned (.bool (prv n zs)) ∧ Below w.heap.size w w' := by
  have hlen := h.len
  obtain ⟨ao, cap, rfl⟩ := h.shape
  by_cases h1 : inB n 1 16 = true
  · have hp := inB_eq h1
    simp only [if_true] at hp
    obtain ⟨hp1, hp2⟩ := hp
    obtain ⟨m, rfl⟩ := Int.eq_ofNat_of_zero_le (show 0 ≤ n by omega)
    obtain ⟨hq1, hq2⟩ := pow16 m (by omega)
    by_cases h2 : 1 ≤ zs.length
    · have d1 : decide ((zs.length : Int) < 1) = false := decide_eq_false (by omega)
      by_cases h3 : zs.length ≤ 8
      · have d2 : decide (8 < (zs.length : Int)) = false := decide_eq_false (by omega)
        obtain ⟨b0, o0, rfl, -, hcs⟩ := h.2.cells (by omega)
        have Hcs := Lib.hid hcs
        clear hcs
        go_enter Try.func12, Try.ntmps12
        go_wp2_with (go_at_call 22; refine (l00In_any _ _ _ _).mono ?_; rw [h1]; rintro e w' ⟨rfl, rfl⟩)
        go_loopw [3] (fun i wr => ∃ k : Nat, i = .int .i64 k ∧ k ≤ zs.length ∧ allIn (zs.drop k) 0 (2 ^ m - 1) = allIn zs 0 (2 ^ m - 1) ∧ Below w.heap.size w wr) (fun i _ => zs.length - (intOf i).toNat)
        case atStart => exact ⟨0, rfl, Nat.zero_le _, rfl, Below.refl _ _⟩
        case round =>
          obtain ⟨k, rfl, hk, hq, hB⟩ := hrel
          have c0 := cnext hB c0
          have c1 := cnext hB c1
          have Hq := Lib.hid hq
          clear hq
          by_cases hlt : k < zs.length
          · have hc := cnext hB (Hcs.out k hlt)
            have Hd := Lib.hid (List.drop_eq_getElem_cons hlt)
            have hkn : (k : Int) < (zs.length : Int) := by omega
            have hk0 : (0 : Int) ≤ (k : Int) := by omega
            generalize zs[k] = z at hc Hd
            by_cases hz : isW z m = true
            · have hz' : inB z 0 (2 ^ m - 1) = true := by simpa [isW] using hz
              go_wp2_with fail
              go_quiet ((go_at_call 23; exact Calls.quiet_of (qv hz (l06Word_any _ _ (by omega) (by omega) _))))
              go_wp2
              go_roundw
              case rel => exact ⟨k + 1, by go_num, by omega, by rw [← Hq.out, Hd.out, allIn, hz']; rfl, bnext hB (below_drewN _ _)⟩
              case measure => simp [intOf] <;> omega
            · have hz : isW z m = false := by simpa using hz
              have hz' : inB z 0 (2 ^ m - 1) = false := by simpa [isW] using hz
              have Hf := Lib.hid (show prv m zs = false by
                have : allIn zs 0 (2 ^ m - 1) = false := by rw [← Hq.out, Hd.out, allIn, hz']; rfl
                simp [prv, this])
              go_wp2_with fail
              go_quiet ((go_at_call 23; exact Calls.quiet_of (qv hz (l06Word_any _ _ (by omega) (by omega) _))))
              go_wp2
              go_ret
              exact ⟨ret_bool Hf.out.symm, bnext hB (below_drewN _ _)⟩
          · have hq := Hq.out
            rw [List.drop_of_length_le (by omega)] at hq
            have h4 : allIn zs 0 (2 ^ m - 1) = true := hq.symm
            obtain ⟨h5, h6⟩ := lt_of_allIn h4
            have gN := h.2.toN h5
            have H6 := Lib.hid h6
            have H4 := Lib.hid h4
            have Ht := Lib.hid (toN_len zs)
            have H1 := Lib.hid h1
            clear h4 h5 h6 hq h1
            go_wp2_with fail
            go_region_held3 (fun W' => W'.cell? ⟨B, 0, none⟩ = some (.int .i64 m) ∧ W'.cell? ⟨B, 1, none⟩ = some (.slice (some ⟨b0, o0, none⟩) zs.length cap) ∧ Below w.heap.size w W')
              ((go_split_ands; refine ⟨?_, ?_, ?_⟩ <;> first | assumption | (simp [go_sem]; done) | exact cnext (by assumption) (by assumption) | exact bnext (by assumption) (by assumption) | exact bnext (Below.drew (by assumption)) (by assumption) | exact hB | exact hB.drew))
              ((go_at_call 24; with_reducible refine Calls.mono (l06Steps_any _ (toN zs) m (by omega) (by omega) _ ?_ (by rw [Ht.out]; omega) (by rw [Ht.out]; omega) H6.out) ?_; (exact gN.below (by go_split_ands; first | assumption | exact hB | exact hB.drew)); rintro e w' ⟨v', rfl, ho, hB2⟩))
            go_wp2
            go_ret
            refine ⟨ret_bool ?_, by go_split_ands; assumption⟩
            rw [prv, H1.out, Int.toNat_natCast, H4.out]
            simp only [h2, h3, decide_true, Bool.true_and]; rw [Bool.eq_iff_iff]; simp; omega
      · have Hf := Lib.hid (show prv m zs = false by simp [prv, h3])
        go_enter Try.func12, Try.ntmps12
        go_wp2_with (go_at_call 22; refine (l00In_any _ _ _ _).mono ?_; rw [h1]; rintro e w' ⟨rfl, rfl⟩)
        go_ret
        exact ⟨ret_bool Hf.out.symm, Below.refl _ _⟩
    · have Hf := Lib.hid (show prv m zs = false by simp [prv, h2])
      go_enter Try.func12, Try.ntmps12
      go_wp2_with (go_at_call 22; refine (l00In_any _ _ _ _).mono ?_; rw [h1]; rintro e w' ⟨rfl, rfl⟩)
      go_ret
      exact ⟨ret_bool Hf.out.symm, Below.refl _ _⟩
  · have h1 : inB n 1 16 = false := by simpa using h1
    have Hf := Lib.hid (show prv n zs = false by simp [prv, h1])
    go_enter Try.func12, Try.ntmps12
    go_wp2_with (go_at_call 22; refine (l00In_any _ _ _ _).mono ?_; rw [h1]; rintro e w' ⟨rfl, rfl⟩)
    go_ret
    exact ⟨ret_bool Hf.out.symm, Below.refl _ _⟩
end Go.Proofs.Ytimcagcglgohjaa
