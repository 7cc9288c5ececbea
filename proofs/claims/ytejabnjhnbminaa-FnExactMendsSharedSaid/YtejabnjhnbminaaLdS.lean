/- The leaders of all syndromes in the reference. -/
import Derived.Test.YtejabnjhnbminaaLd
namespace Go.Proofs.Ytejabnjhnbminaa
open Go.RowKit
set_option maxRecDepth 100000
set_option linter.unusedVariables false
set_option linter.unusedSimpArgs false

set_option maxHeartbeats 4000000 in
theorem l06Leaders_any (v : Value) (ds : List Nat) (n : Nat) (hn : n ≤ 16) (w : World) (h : Rg eN w v ds) (hl8 : ds.length ≤ 8) (hl : Lt 65536 ds) :
    Calls Try.prog 59 #[.int .i64 n, v] w fun e w' => ∃ v', e = .returned v' ∧ OI w.heap.size w' v' (ld n ds) ∧ Below w.heap.size w w' := by
  obtain ⟨ao, cap, rfl⟩ := h.shape
  obtain ⟨hp1, hp2⟩ := pow16 n hn
  obtain ⟨hp3, hp4⟩ := pow16 ds.length (by omega)
  have H := Lib.hid h
  have Hl := Lib.hid hl
  have hl256 : 2 ^ ds.length ≤ 256 := Nat.le_trans (Nat.pow_le_pow_right (by decide) hl8) (by decide)
  have hl1 : 0 < 2 ^ ds.length := Nat.two_pow_pos _
  have hn65 : 2 ^ n ≤ 65536 := Nat.le_trans (Nat.pow_le_pow_right (by decide) hn) (by decide)
  have Hn65 := Lib.hid hn65
  have hwl : IntKind.u64.wrap (ds.length : Int) = (ds.length : Int) := by rw [IntKind.wrap_u64]; omega
  have hwn : IntKind.u64.wrap (n : Int) = (n : Int) := by rw [IntKind.wrap_u64]; omega
  obtain ⟨L, hL⟩ : ∃ L, 2 ^ ds.length = L := ⟨_, rfl⟩
  have hLi : (2 : Int) ^ ds.length = (L : Int) := by rw [← hL]; simp
  rw [hL] at hl256 hl1
  have HL := Lib.hid hL
  clear hn65 hl h hL hp3 hp4
  go_enter Try.func59, Try.ntmps59
  go_wp2_with fail
  go_loopw [5, 6] (fun o iv wr => ∃ i : Nat, iv = .int .i64 i ∧ i ≤ L ∧ OwnI w.heap.size wr o (List.replicate i (-1)) ∧ Below w.heap.size w wr) (fun _ iv _ => L - (intOf iv).toNat)
  case atStart => exact ⟨0, rfl, Nat.zero_le _, own_empty w _ (Nat.le_refl _), by go_grown⟩
  case round =>
    obtain ⟨i, rfl, hi, hown, hB⟩ := hrel
    obtain ⟨ao1, cap1, rfl⟩ := hown.shape
    have hs1 := hB.size
    by_cases hil : i < L
    · go_wp2_with (at_builtin; go_must (refine app_ints rfl _ _ rfl w.heap.size w.heap.size (Nat.le_refl _) (.slice ao1 (List.replicate i (-1 : Int)).length cap1) (List.replicate i (-1)) rfl hown hB _ _ [(-1 : Int)] rfl rfl (by simp only [List.length_replicate, List.length_cons, List.length_nil]; omega) hs1 ?_))
      intro v' w' hown' hB' hg'
      rw [← List.replicate_succ'] at hown'
      obtain ⟨ao2, cap2, rfl⟩ := hown'.shape
      clear hg' hown hB
      go_wp2
      go_roundw
      case rel => exact ⟨i + 1, by go_num, by omega, hown', hB'⟩
      case measure => simp [intOf] <;> omega
    · obtain rfl : i = L := by omega
      have ho := hown.oi (fun z hz => by rw [List.eq_of_mem_replicate hz]; constructor <;> decide)
      rw [List.length_replicate]
      obtain ⟨g, off, cap3, e, hob⟩ := ho.2.ob (by rw [List.length_replicate]; exact hl1)
      rw [List.length_replicate] at hob e
      simp only [Value.slice.injEq, true_and] at e
      obtain ⟨rfl, rfl⟩ := e
      have hcapm := hob.capm
      have hcapn := hob.capn
      have hcapm' : cap1 ≤ 9223372036854775807 := by unfold maxLen at hcapm; omega
      clear ho hown hcapm hil
      go_wp2_with fail
      go_loopw [7] (fun xv wr => ∃ (x : Nat) (out : List Int), xv = .int .i64 x ∧ x ≤ 2 ^ n ∧ OB (Value.int .i64) w.heap.size wr g off i cap1 out ∧ Lds (2 ^ n) out ∧ ldF ds (2 ^ n - x) x out = ld n ds ∧ Below w.heap.size w wr) (fun xv _ => 2 ^ n - (intOf xv).toNat)
      case atStart => exact ⟨0, _, rfl, Nat.zero_le _, hob, (fun z hz => by rw [List.eq_of_mem_replicate hz]; have := Nat.two_pow_pos n; omega), by rw [ld, HL.out]; rfl, hB⟩
      case round =>
        clear hB hob
        obtain ⟨x, out, rfl, hx, hob, hbd, hq, hB⟩ := hrel
        have hol := hob.len
        by_cases hc : x < 2 ^ n
        · have hci : (x : Int) < 2 ^ n := by have e : ((2 ^ n : Nat) : Int) = 2 ^ n := by simp
                                             omega
          rw [show 2 ^ n - x = (2 ^ n - (x + 1)) + 1 by omega, ldF] at hq
          have hx65 : x < 65536 := by have := Hn65.out; omega
          obtain ⟨s, hs⟩ : ∃ s, syn ds x = s := ⟨_, rfl⟩
          have hsl : s < i := by rw [← hs, ← HL.out]; exact syn_lt ds x
          have hso : s < out.length := by omega
          have hsy := l06Syndrome_any (.slice ao ds.length cap) ds x hx65 wr (H.out.below hB) hl8 Hl.out
          rw [hs] at hsy
          have cs := hob.cell s hso
          have fs := hob.free s hso
          have hput := hob.put s hso (x : Int)
          have hgB := hob.lo
          obtain ⟨z, hz⟩ : ∃ z, out[s] = z := ⟨_, rfl⟩
          have hzb := hbd z (by rw [← hz]; exact List.getElem_mem hso)
          rw [hz] at cs
          have Hp := Lib.hid hput
          have Hob := Lib.hid hob
          have Hbd := Lib.hid hbd
          have Hbs := Lib.hid (show Lds (2 ^ n) (out.set s (x : Int)) from fun u hu => by
            rcases List.mem_or_eq_of_mem_set hu with hu | rfl
            · exact hbd u hu
            · omega)
          have hgB' : w.heap.size ≤ g := by omega
          have hsi : (s : Int) < (i : Int) := by omega
          have hs0' : (0 : Int) ≤ (s : Int) := by omega
          by_cases hz0 : z < 0
          · rw [ldS_neg hs hso hz hz0] at hq
            have Hq := Lib.hid hq
            clear hq hob hbd hput hzb hz hs hso hol
            go_wp2_with (go_at_call 60; refine hsy.mono ?_; rintro e w' ⟨rfl, rfl⟩)
            go_quiet (fail)
            go_wp2
            go_roundw
            case rel => exact ⟨x + 1, _, by go_num, by omega, Hp.out, Hbs.out, Hq.out, by first | exact (hB.setCell (p := ⟨g, off + s, none⟩) hgB' _) | exact bnext (hB.setCell (p := ⟨g, off + s, none⟩) hgB' _) (below_drewN _ _) | exact ((bnext hB (below_drewN _ _)).setCell (p := ⟨g, off + s, none⟩) hgB' _)⟩
            case measure => simp [intOf] <;> omega
          · obtain ⟨y, rfl⟩ := Int.eq_ofNat_of_zero_le (show 0 ≤ z by omega)
            have hy65 : y < 65536 := by have := Hn65.out; omega
            have hyn : ¬ ((y : Int) < 0) := by omega
            have hwx := fun w => l06Weight_any x hx65 w
            have hwy := fun w => l06Weight_any y hy65 w
            have hst : ldS ds x out = if wt x < wt y then out.set s x else out := by
              split
              · exact ldS_lt hs hso hz ‹_›
              · exact ldS_no hs hso hz ‹_›
            rw [hst] at hq
            clear hst
            have hlx := wt_le x
            have hly := wt_le y
            generalize wt x = a at *
            generalize wt y = b at *
            by_cases hab : a < b
            · rw [if_pos hab] at hq
              have Hq := Lib.hid hq
              have habi : decide ((a : Int) < (b : Int)) = true := by simpa using hab
              clear hq hob hbd hput hzb hz hs hso hol hz0
              go_wp2_with (go_at_call 60; refine hsy.mono ?_; rintro e w' ⟨rfl, rfl⟩)
              go_quiet ((first | (go_at_call 61; with_reducible exact Calls.quiet_of (qi (hwx _))) | (go_at_call 61; with_reducible exact Calls.quiet_of (qi (hwy _)))))
              go_wp2
              go_roundw
              case rel => exact ⟨x + 1, _, by go_num, by omega, Hp.out, Hbs.out, Hq.out, by first | exact (hB.setCell (p := ⟨g, off + s, none⟩) hgB' _) | exact bnext (hB.setCell (p := ⟨g, off + s, none⟩) hgB' _) (below_drewN _ _) | exact ((bnext hB (below_drewN _ _)).setCell (p := ⟨g, off + s, none⟩) hgB' _)⟩
              case measure => simp [intOf] <;> omega
            · rw [if_neg hab] at hq
              have Hq := Lib.hid hq
              have habi : decide ((a : Int) < (b : Int)) = false := by simpa using hab
              clear hq hob hbd hput hzb hz hs hso hol hz0
              go_wp2_with (go_at_call 60; refine hsy.mono ?_; rintro e w' ⟨rfl, rfl⟩)
              go_quiet ((first | (go_at_call 61; with_reducible exact Calls.quiet_of (qi (hwx _))) | (go_at_call 61; with_reducible exact Calls.quiet_of (qi (hwy _)))))
              go_wp2
              go_roundw
              case rel => exact ⟨x + 1, _, by go_num, by omega, Hob.out, Hbd.out, Hq.out, by first | exact hB | exact bnext hB (below_drewN _ _)⟩
              case measure => simp [intOf] <;> omega
        · have hci : ¬ ((x : Int) < 2 ^ n) := by
            have e : ((2 ^ n : Nat) : Int) = 2 ^ n := by simp
            omega
          rw [show 2 ^ n - x = 0 by omega, ldF] at hq
          have hog : OI w.heap.size wr (.slice (some ⟨g, off, none⟩) i cap1) (ld n ds) := by rw [← hq]; exact ⟨by rw [hq]; exact ld_i64 n hn ds, hob.og⟩
          have Hog := Lib.hid hog
          clear hog hq hob
          go_wp2
          go_ret
          exact ⟨_, rfl, Hog.out, hB⟩
end Go.Proofs.Ytejabnjhnbminaa
