/- The leaders of all syndromes: what both packages return. -/
import Derived.Test.YtejabnjhnbminaaDuO
import Derived.Test.YtejabnjhnbminaaSyn
import Derived.Test.YtejabnjhnbminaaEven
namespace Go.Proofs.Ytejabnjhnbminaa
open Go.RowKit
set_option maxRecDepth 100000
set_option linter.unusedVariables false
set_option linter.unusedSimpArgs false

theorem ldS_neg {ds : List Nat} {x s : Nat} {out : List Int} {z : Int} (hs : syn ds x = s) (hl : s < out.length) (hz : out[s] = z) (h : z < 0) : ldS ds x out = out.set s x := by
  have e : out[s]?.getD 0 = z := by simp [hl, hz]
  unfold ldS; rw [hs, e, if_pos (.inl h)]
theorem ldS_lt {ds : List Nat} {x s y : Nat} {out : List Int} (hs : syn ds x = s) (hl : s < out.length) (hz : out[s] = (y : Int)) (h : wt x < wt y) : ldS ds x out = out.set s x := by
  have e : out[s]?.getD 0 = (y : Int) := by simp [hl, hz]
  unfold ldS; rw [hs, e, if_pos (.inr (by simpa using h))]
theorem ldS_no {ds : List Nat} {x s y : Nat} {out : List Int} (hs : syn ds x = s) (hl : s < out.length) (hz : out[s] = (y : Int)) (h : ¬ wt x < wt y) : ldS ds x out = out := by
  have e : out[s]?.getD 0 = (y : Int) := by simp [hl, hz]
  unfold ldS; rw [hs, e, if_neg]
  rintro (h1 | h1)
  · omega
  · exact h (by simpa using h1)
theorem ld_i64 (n : Nat) (hn : n ≤ 16) (ds : List Nat) : AllI64 (ld n ds) := by
  intro z hz
  have h := ld_bd n ds z hz
  have hk65 : 2 ^ n ≤ 65536 := Nat.le_trans (Nat.pow_le_pow_right (by decide) hn) (by decide)
  constructor <;> omega
set_option maxHeartbeats 1000000 in
theorem none_any (z : Int) (k : Nat) (hz : z = k) (hk : k ≤ 65536) (hk1 : 1 ≤ k) (w : World) :
    Calls Try.prog 112 #[.int .i64 z] w fun e w' => ∃ v', e = .returned v' ∧ OI w.heap.size w' v' (List.replicate k (-1)) ∧ Below w.heap.size w w' := by
  subst hz
  go_enter Try.func112, Try.ntmps112
  go_wp2_with fail
  refine (repeat_any (-1) (by constructor <;> decide) w.heap.size k hk hk1 _ (by simp [go_sem])).mono ?_
  rintro e w1 ⟨v1, rfl, ho, hb⟩
  have hB : Below w.heap.size w w1 := bnext (by go_grown) hb
  have Ho := Lib.hid (OI.mono (show w.heap.size ≤ _ by simp) ho)
  clear ho hb
  go_wp2
  go_ret
  exact ⟨_, rfl, Ho.out, hB⟩
set_option maxHeartbeats 4000000 in
theorem leaders_any (v : Value) (ds : List Nat) (n : Nat) (hn : n ≤ 16) (w : World) (h : Rg eN w v ds) (hl8 : ds.length ≤ 8) (hl : Lt 65536 ds) :
    Calls Try.prog 64 #[.agg #[.int .i64 n, v]] w fun e w' => ∃ v', e = .returned v' ∧ OI w.heap.size w' v' (ld n ds) ∧ Below w.heap.size w w' := by
  have hb : ∀ o, Below w.heap.size w (w.alloc o) := fun o => by go_grown
  obtain ⟨ao, cap, rfl⟩ := h.shape
  obtain ⟨hp1, hp2⟩ := pow16 n hn
  have H := Lib.hid h
  have Hl := Lib.hid hl
  have hl256 : 2 ^ ds.length ≤ 256 := Nat.le_trans (Nat.pow_le_pow_right (by decide) hl8) (by decide)
  have Hl256 := Lib.hid hl256
  have hn65 : 2 ^ n ≤ 65536 := Nat.le_trans (Nat.pow_le_pow_right (by decide) hn) (by decide)
  have Hn65 := Lib.hid hn65
  clear hl256 hn65 hl h
  go_enter Try.func64, Try.ntmps64
  go_wp2_with fail
  refine (messages_any _ _ _ _ (by omega) _).mono ?_
  rintro e w0 ⟨rfl, hb0⟩
  have hB0 := bnext (hb _) hb0
  have hr0 := blk_next hb0 (heap_alloc_new w _)
  clear hb0
  go_wp2_with fail
  refine (none_any _ (2 ^ ds.length) (by simp) (by have := Hl256.out; omega) (Nat.one_le_two_pow) _).mono ?_
  rintro e w1 ⟨v1, rfl, ho, hb1⟩
  have hB := bnext hB0 hb1
  have hr := blk_next hb1 hr0
  have hs0 := blk_lt hr0
  clear hb1 hB0 hr0
  obtain ⟨g, off, cap1, rfl, hob⟩ := ho.2.ob (by rw [List.length_replicate]; exact Nat.two_pow_pos _)
  rw [List.length_replicate] at hob
  generalize hL : 2 ^ ds.length = L at *
  have HL := Lib.hid hL
  clear hL
  have hL256 := Hl256.out
  obtain ⟨k0, k1, -, -⟩ := blk2 hr
  have hcapm := hob.capm
  have hcapn := hob.capn
  have hcapm' : cap1 ≤ 9223372036854775807 := by unfold maxLen at hcapm; omega
  clear ho hcapm
  go_wp2_with fail
  go_loopw [12] (fun xv wr => ∃ (x : Nat) (out : List Int), xv = .int .i64 x ∧ x ≤ 2 ^ n ∧ OB (Value.int .i64) w0.heap.size wr g off L cap1 out ∧ Lds (2 ^ n) out ∧ ldF ds (2 ^ n - x) x out = ld n ds ∧ wr.heap[w.heap.size]? = some (.cells #[.int .i64 n, .slice ao ds.length cap] 28 (0, 0)) ∧ Below w.heap.size w wr) (fun xv _ => 2 ^ n - (intOf xv).toNat)
  case atStart => exact ⟨0, _, rfl, Nat.zero_le _, hob, (fun z hz => by rw [List.eq_of_mem_replicate hz]; have := Nat.two_pow_pos n; omega), by rw [ld, HL.out]; rfl, hr, hB⟩
  case round =>
    obtain ⟨x, out, rfl, hx, hob, hbd, hq, hr, hB⟩ := hrel
    obtain ⟨k0, k1, -, -⟩ := blk2 hr
    have hol := hob.len
    by_cases hc : x < 2 ^ n
    · have hci : (x : Int) < 2 ^ n := by have e : ((2 ^ n : Nat) : Int) = 2 ^ n := by simp
                                         omega
      rw [show 2 ^ n - x = (2 ^ n - (x + 1)) + 1 by omega, ldF] at hq
      have hx65 : x < 65536 := by have := Hn65.out; omega
      obtain ⟨s, hs⟩ : ∃ s, syn ds x = s := ⟨_, rfl⟩
      have hsl : s < L := by rw [← hs, ← HL.out]; exact syn_lt ds x
      have hso : s < out.length := by omega
      have hsy := syndrome_any (.slice ao ds.length cap) ds x hx65 wr (H.out.below hB) hl8 Hl.out
      rw [hs] at hsy
      have cs := hob.cell s hso
      have fs := hob.free s hso
      have hput := hob.put s hso (x : Int)
      have hgB := hob.lo
      obtain ⟨z, hz⟩ : ∃ z, out[s] = z := ⟨_, rfl⟩
      have hzb := hbd z (by rw [← hz]; exact List.getElem_mem hso)
      rw [hz] at cs
      have Hp := Lib.hid hput
      have Hob := Lib.hid hob
      have Hbd := Lib.hid hbd
      have Hbs := Lib.hid (show Lds (2 ^ n) (out.set s (x : Int)) from fun u hu => by
        rcases List.mem_or_eq_of_mem_set hu with hu | rfl
        · exact hbd u hu
        · omega)
      have hgB' : w.heap.size ≤ g := by omega
      have hgne : g ≠ w.heap.size := by omega
      have hsi : (s : Int) < (L : Int) := by omega
      have hs0' : (0 : Int) ≤ (s : Int) := by omega
      by_cases hz0 : z < 0
      · rw [ldS_neg hs hso hz hz0] at hq
        have Hq := Lib.hid hq
        clear hq hob hbd hput hzb hz hs hso hol
        go_wp2_with (go_at_call 65; refine hsy.mono ?_; rintro e w' ⟨rfl, rfl⟩)
        go_quiet (fail)
        go_wp2
        go_roundw
        case rel => exact ⟨x + 1, _, by go_num, by omega, Hp.out, Hbs.out, Hq.out, blk_other (by simpa using hgne) hr, by first | exact (hB.setCell (p := ⟨g, off + s, none⟩) hgB' _) | exact bnext (hB.setCell (p := ⟨g, off + s, none⟩) hgB' _) (below_drewN _ _) | exact ((bnext hB (below_drewN _ _)).setCell (p := ⟨g, off + s, none⟩) hgB' _)⟩
        case measure => simp [intOf] <;> omega
      · obtain ⟨y, rfl⟩ := Int.eq_ofNat_of_zero_le (show 0 ≤ z by omega)
        have hy65 : y < 65536 := by have := Hn65.out; omega
        have hyn : ¬ ((y : Int) < 0) := by omega
        have hwx := fun w => weightOf_any x hx65 w
        have hwy := fun w => weightOf_any y hy65 w
        have hst : ldS ds x out = if wt x < wt y then out.set s x else out := by
          split
          · exact ldS_lt hs hso hz ‹_›
          · exact ldS_no hs hso hz ‹_›
        rw [hst] at hq
        clear hst
        have hlx := wt_le x
        have hly := wt_le y
        generalize wt x = a at *
        generalize wt y = b at *
        by_cases hab : a < b
        · rw [if_pos hab] at hq
          have Hq := Lib.hid hq
          have habi : decide ((a : Int) < (b : Int)) = true := by simpa using hab
          clear hq hob hbd hput hzb hz hs hso hol hz0
          go_wp2_with (go_at_call 65; refine hsy.mono ?_; rintro e w' ⟨rfl, rfl⟩)
          go_quiet ((first | (go_at_call 66; exact Calls.quiet_of (qi (hwx _))) | (go_at_call 66; exact Calls.quiet_of (qi (hwy _)))))
          go_wp2
          go_roundw
          case rel => exact ⟨x + 1, _, by go_num, by omega, Hp.out, Hbs.out, Hq.out, blk_other (by simpa using hgne) hr, by first | exact (hB.setCell (p := ⟨g, off + s, none⟩) hgB' _) | exact bnext (hB.setCell (p := ⟨g, off + s, none⟩) hgB' _) (below_drewN _ _) | exact ((bnext hB (below_drewN _ _)).setCell (p := ⟨g, off + s, none⟩) hgB' _)⟩
          case measure => simp [intOf] <;> omega
        · rw [if_neg hab] at hq
          have Hq := Lib.hid hq
          have habi : decide ((a : Int) < (b : Int)) = false := by simpa using hab
          clear hq hob hbd hput hzb hz hs hso hol hz0
          go_wp2_with (go_at_call 65; refine hsy.mono ?_; rintro e w' ⟨rfl, rfl⟩)
          go_quiet ((first | (go_at_call 66; exact Calls.quiet_of (qi (hwx _))) | (go_at_call 66; exact Calls.quiet_of (qi (hwy _)))))
          go_wp2
          go_roundw
          case rel => exact ⟨x + 1, _, by go_num, by omega, Hob.out, Hbd.out, Hq.out, hr, by first | exact hB | exact bnext hB (below_drewN _ _)⟩
          case measure => simp [intOf] <;> omega
    · have hci : ¬ ((x : Int) < 2 ^ n) := by
        have e : ((2 ^ n : Nat) : Int) = 2 ^ n := by simp
        omega
      rw [show 2 ^ n - x = 0 by omega, ldF] at hq
      have hog : OI w.heap.size wr (.slice (some ⟨g, off, none⟩) L cap1) (ld n ds) := by rw [← hq]; exact ⟨by rw [hq]; exact ld_i64 n hn ds, (hob.mono (by omega)).og⟩
      have Hog := Lib.hid hog
      clear hog hq hob
      go_wp2
      go_ret
      exact ⟨_, rfl, Hog.out, hB⟩
end Go.Proofs.Ytejabnjhnbminaa
