/- SpreadTable: what both packages return. No conditions but that the slices read. -/
import Derived.Test.YtnhcoggjnbldiaaSpr
namespace Go.Proofs.Ytnhcoggjnbldiaa
open Go.RowKit
set_option maxRecDepth 100000
set_option linter.unusedVariables false
set_option linter.unusedSimpArgs false

set_option maxHeartbeats 4000000 in
theorem l05Spread_any (p : Int) (v : Value) (zs : List Int) (B : Nat) (w : World) (hs : shs p zs = true) (h : RI w v zs) (hBw : B < w.heap.size)
    (c0 : w.cell? ⟨B, 0, none⟩ = some (.int .i64 p)) (c1 : w.cell? ⟨B, 1, none⟩ = some v) :
    Calls Try.prog 41 #[.pointer (some ⟨B, 0, none⟩)] w fun e w' => ∃ v', e = .returned v' ∧ OI w.heap.size w' v' (spr p.toNat zs) ∧ Below w.heap.size w w' := by
  have hlen := h.len
  obtain ⟨ao, cap, rfl⟩ := h.shape
  obtain ⟨m, rfl, hm1, hm8, hl2, hl16, hz, -⟩ := shs_parts hs
  rw [Int.toNat_natCast]
  have G := Lib.hid h
  have hsprl := spr_in m zs
  have Hi64 := Lib.hid (small_i64 hsprl (by omega))
  have Hspr := Lib.hid (show spr m zs = (spO (2 ^ m) (stp m) 0 zs ⟨0, List.replicate (2 ^ m) 0⟩).out from rfl)
  have hN256 : 2 ^ m ≤ 256 := Nat.le_trans (Nat.pow_le_pow_right (by decide) hm8) (by decide)
  have hN1 : 0 < 2 ^ m := Nat.two_pow_pos m
  have hLi : (2 : Int) ^ m = ((2 ^ m : Nat) : Int) := by simp
  have hst : stp m = if 4 ≤ m then 5 * 2 ^ m / 8 + 3 else 1 := rfl
  generalize 2 ^ m = N at *
  have Hz := Lib.hid hz
  have Hst := Lib.hid hst
  clear hs hz h hsprl hst
  obtain ⟨i0, hi, hz0, hz1, hz2⟩ := info_parts info_int
  by_cases h4 : 4 ≤ m
  · have hstp : stp m = 5 * N / 8 + 3 := by rw [Hst.out, if_pos h4]
    have HstpI := Lib.hid (show ((stp m : Nat) : Int) = 5 * (N : Int) / 8 + 3 by rw [hstp]; omega)
    have hst256 : stp m ≤ 256 := by omega
    clear hstp
    go_enter Try.func41, Try.ntmps41
    go_wp2_with (at_make; refine wpList_make_full _ rfl _ _ 25 rfl w.heap.size 2 i0 (.int .i64 0) 1 Try.underlying25 hi hz0 hz1 _ _ _ _ N rfl rfl (by first | rfl | exact hLi) (by first | rfl | exact hLi) (by rw [hz2]; omega) (by unfold maxLen; omega) (Nat.le_refl _) ?_)
    intro w2 hown hg2
    have hob := made_ob hN1 hown
    have hB2 := grow_below hg2
    have k0 := cnext hB2 c0
    have k1 := cnext hB2 c1
    have hne1 : w.heap.size ≠ B := by omega
    have HLi := Lib.hid hLi
    clear hown hg2 hLi
    go_wp2_with fail
    rw [← HstpI.out]
    go_loopw [6, 30] (fun pv iv wr => ∃ (i : Nat) (s : Sp), iv = .int .i64 i ∧ i ≤ zs.length ∧ pv = .int .i64 s.pl ∧ s.pl < N ∧ OB (Value.int .i64) w.heap.size wr w.heap.size 0 N N s.out ∧ (spO N (stp m) i (zs.drop i) s).out = spr m zs ∧ Below w.heap.size w wr) (fun _ iv _ => zs.length - (intOf iv).toNat)
    case atStart => exact ⟨0, ⟨0, List.replicate N 0⟩, rfl, Nat.zero_le _, rfl, hN1, hob, by rw [Hspr.out, List.drop_zero], hB2⟩
    case round =>
      clear hob hB2 k0 k1
      obtain ⟨i, s, rfl, hi', rfl, hsp, hob, hq, hB⟩ := hrel
      obtain ⟨pl, out⟩ := s
      dsimp only at hsp hob
      have Hq := Lib.hid hq
      clear hq
      by_cases hil : i < zs.length
      · obtain ⟨b, off, e0, -, hcc⟩ := (G.out).2.cells (by omega)
        obtain rfl := e0
        have hci0 := hcc i hil
        have hzi := Hz.out zs[i] (List.getElem_mem hil)
        obtain ⟨c, hc⟩ : ∃ c : Nat, zs[i] = c := ⟨zs[i].toNat, by omega⟩
        have Hd := Lib.hid (show zs.drop i = ((c : Nat) : Int) :: zs.drop (i + 1) by rw [← hc]; exact List.drop_eq_getElem_cons hil)
        rw [hc] at hci0 hzi
        obtain ⟨S, hS⟩ : ∃ S, spI N (stp m) (i : Int) c ⟨pl, out⟩ = S := ⟨_, rfl⟩
        have Hq2 := Lib.hid (show (spO N (stp m) (i + 1) (zs.drop (i + 1)) S).out = spr m zs by rw [← Hq.out, Hd.out, spO, Int.toNat_natCast, hS])
        have HS := Lib.hid hS
        have hc256 : c ≤ 256 := by omega
        have hi16 : i < 16 := by omega
        clear hcc hc hS hzi
        go_wp2_with fail
        go_loopw [6, 8] (fun pv cv wr => ∃ (k : Nat) (s : Sp), cv = .int .i64 k ∧ k ≤ c ∧ pv = .int .i64 s.pl ∧ s.pl < N ∧ OB (Value.int .i64) w.heap.size wr w.heap.size 0 N N s.out ∧ spI N (stp m) (i : Int) (c - k) s = S ∧ Below w.heap.size w wr) (fun _ cv _ => c - (intOf cv).toNat)
        case atStart => exact ⟨0, ⟨pl, out⟩, rfl, Nat.zero_le _, rfl, hsp, hob, HS.out, hB⟩
        case round =>
          clear hob hB hsp
          obtain ⟨k, s, rfl, hk, rfl, hsp, hob, hq, hB⟩ := hrel
          obtain ⟨pl2, out2⟩ := s
          dsimp only at hsp hob
          have k1 := cnext hB c1
          have hci := cnext hB hci0
          by_cases hkc : k < c
          · rw [show c - k = (c - (k + 1)) + 1 by omega, spI] at hq
            dsimp only at hq
            have Hq3 := Lib.hid hq
            have hol := hob.len
            have hput := hob.put pl2 (by omega) (i : Int)
            have hck := hob.cell pl2 (by omega)
            have hfk := hob.free pl2 (by omega)
            rw [Nat.zero_add] at hput hck hfk
            have hBp := hB.setCell (p := ⟨w.heap.size, pl2, none⟩) (Nat.le_refl _) (.int .i64 (i : Int))
            have em := Lib.hid (show ((pl2 : Int) + ((stp m : Nat) : Int)) % (N : Int) = (((pl2 + stp m) % N : Nat) : Int) by simp)
            have hml := Nat.mod_lt (pl2 + stp m) hN1
            have Hput := Lib.hid hput
            have hplN : (pl2 : Int) < (N : Int) := by omega
            have hpl0 : (0 : Int) ≤ (pl2 : Int) := by omega
            clear hq hput hob
            go_wp2
            go_roundw
            case rel => exact ⟨k + 1, ⟨_, _⟩, by go_num, by omega, vi em.out, hml, Hput.out, Hq3.out, hBp⟩
            case measure => simp [intOf] <;> omega
          · rw [show c - k = 0 by omega, spI] at hq
            have Hq3 := Lib.hid (show (spO N (stp m) (i + 1) (zs.drop (i + 1)) ⟨pl2, out2⟩).out = spr m zs by rw [hq]; exact Hq2.out)
            clear hq
            go_wp2
            go_roundw
            case rel => exact ⟨i + 1, ⟨pl2, out2⟩, by go_num, by omega, rfl, hsp, hob, Hq3.out, hB⟩
            case measure => simp [intOf] <;> omega
      · have hq : out = spr m zs := by rw [← Hq.out, List.drop_of_length_le (by omega)]; rfl
        have ho : OI w.heap.size wr (.slice (some ⟨w.heap.size, 0, none⟩) N N) (spr m zs) := ⟨Hi64.out, by rw [← hq]; exact hob.og⟩
        have Ho := Lib.hid ho
        clear ho hq hob
        go_wp2
        go_ret
        exact ⟨_, rfl, Ho.out, hB⟩
  · have hstp : stp m = 1 := by rw [Hst.out, if_neg h4]
    have Hstp := Lib.hid hstp
    clear hstp
    go_enter Try.func41, Try.ntmps41
    go_wp2_with (at_make; refine wpList_make_full _ rfl _ _ 25 rfl w.heap.size 2 i0 (.int .i64 0) 1 Try.underlying25 hi hz0 hz1 _ _ _ _ N rfl rfl (by first | rfl | exact hLi) (by first | rfl | exact hLi) (by rw [hz2]; omega) (by unfold maxLen; omega) (Nat.le_refl _) ?_)
    intro w2 hown hg2
    have hob := made_ob hN1 hown
    have hB2 := grow_below hg2
    have k0 := cnext hB2 c0
    have k1 := cnext hB2 c1
    have hne1 : w.heap.size ≠ B := by omega
    have HLi := Lib.hid hLi
    clear hown hg2 hLi
    go_wp2_with fail
    go_loopw [6, 30] (fun pv iv wr => ∃ (i : Nat) (s : Sp), iv = .int .i64 i ∧ i ≤ zs.length ∧ pv = .int .i64 s.pl ∧ s.pl < N ∧ OB (Value.int .i64) w.heap.size wr w.heap.size 0 N N s.out ∧ (spO N 1 i (zs.drop i) s).out = spr m zs ∧ Below w.heap.size w wr) (fun _ iv _ => zs.length - (intOf iv).toNat)
    case atStart => exact ⟨0, ⟨0, List.replicate N 0⟩, rfl, Nat.zero_le _, rfl, hN1, hob, by rw [Hspr.out, Hstp.out, List.drop_zero], hB2⟩
    case round =>
      clear hob hB2 k0 k1
      obtain ⟨i, s, rfl, hi', rfl, hsp, hob, hq, hB⟩ := hrel
      obtain ⟨pl, out⟩ := s
      dsimp only at hsp hob
      have Hq := Lib.hid hq
      clear hq
      by_cases hil : i < zs.length
      · obtain ⟨b, off, e0, -, hcc⟩ := (G.out).2.cells (by omega)
        obtain rfl := e0
        have hci0 := hcc i hil
        have hzi := Hz.out zs[i] (List.getElem_mem hil)
        obtain ⟨c, hc⟩ : ∃ c : Nat, zs[i] = c := ⟨zs[i].toNat, by omega⟩
        have Hd := Lib.hid (show zs.drop i = ((c : Nat) : Int) :: zs.drop (i + 1) by rw [← hc]; exact List.drop_eq_getElem_cons hil)
        rw [hc] at hci0 hzi
        obtain ⟨S, hS⟩ : ∃ S, spI N 1 (i : Int) c ⟨pl, out⟩ = S := ⟨_, rfl⟩
        have Hq2 := Lib.hid (show (spO N 1 (i + 1) (zs.drop (i + 1)) S).out = spr m zs by rw [← Hq.out, Hd.out, spO, Int.toNat_natCast, hS])
        have HS := Lib.hid hS
        have hc256 : c ≤ 256 := by omega
        have hi16 : i < 16 := by omega
        clear hcc hc hS hzi
        go_wp2_with fail
        go_loopw [6, 8] (fun pv cv wr => ∃ (k : Nat) (s : Sp), cv = .int .i64 k ∧ k ≤ c ∧ pv = .int .i64 s.pl ∧ s.pl < N ∧ OB (Value.int .i64) w.heap.size wr w.heap.size 0 N N s.out ∧ spI N 1 (i : Int) (c - k) s = S ∧ Below w.heap.size w wr) (fun _ cv _ => c - (intOf cv).toNat)
        case atStart => exact ⟨0, ⟨pl, out⟩, rfl, Nat.zero_le _, rfl, hsp, hob, HS.out, hB⟩
        case round =>
          clear hob hB hsp
          obtain ⟨k, s, rfl, hk, rfl, hsp, hob, hq, hB⟩ := hrel
          obtain ⟨pl2, out2⟩ := s
          dsimp only at hsp hob
          have k1 := cnext hB c1
          have hci := cnext hB hci0
          by_cases hkc : k < c
          · rw [show c - k = (c - (k + 1)) + 1 by omega, spI] at hq
            dsimp only at hq
            have Hq3 := Lib.hid hq
            have hol := hob.len
            have hput := hob.put pl2 (by omega) (i : Int)
            have hck := hob.cell pl2 (by omega)
            have hfk := hob.free pl2 (by omega)
            rw [Nat.zero_add] at hput hck hfk
            have hBp := hB.setCell (p := ⟨w.heap.size, pl2, none⟩) (Nat.le_refl _) (.int .i64 (i : Int))
            have em := Lib.hid (show ((pl2 : Int) + 1) % (N : Int) = (((pl2 + 1) % N : Nat) : Int) by simp)
            have hml := Nat.mod_lt (pl2 + 1) hN1
            have Hput := Lib.hid hput
            have hplN : (pl2 : Int) < (N : Int) := by omega
            have hpl0 : (0 : Int) ≤ (pl2 : Int) := by omega
            clear hq hput hob
            go_wp2
            go_roundw
            case rel => exact ⟨k + 1, ⟨_, _⟩, by go_num, by omega, vi em.out, hml, Hput.out, Hq3.out, hBp⟩
            case measure => simp [intOf] <;> omega
          · rw [show c - k = 0 by omega, spI] at hq
            have Hq3 := Lib.hid (show (spO N 1 (i + 1) (zs.drop (i + 1)) ⟨pl2, out2⟩).out = spr m zs by rw [hq]; exact Hq2.out)
            clear hq
            go_wp2
            go_roundw
            case rel => exact ⟨i + 1, ⟨pl2, out2⟩, by go_num, by omega, rfl, hsp, hob, Hq3.out, hB⟩
            case measure => simp [intOf] <;> omega
      · have hq : out = spr m zs := by rw [← Hq.out, List.drop_of_length_le (by omega)]; rfl
        have ho : OI w.heap.size wr (.slice (some ⟨w.heap.size, 0, none⟩) N N) (spr m zs) := ⟨Hi64.out, by rw [← hq]; exact hob.og⟩
        have Ho := Lib.hid ho
        clear ho hq hob
        go_wp2
        go_ret
        exact ⟨_, rfl, Ho.out, hB⟩
set_option maxHeartbeats 1000000 in
theorem implSpread_any (n : Int) (v : Value) (zs : List Int) (w : World) (h : RI w v zs) :
    Calls Try.prog 9 #[.agg #[.int .i64 n, v]] w fun e w' => ∃ v', e = .returned (.tuple #[v', .bool (shs n zs)]) ∧ OI w.heap.size w' v' (stN n zs) ∧ Below w.heap.size w w' := by
  obtain ⟨ao, cap, rfl⟩ := h.shape
  have hb : ∀ o, Below w.heap.size w (w.alloc o) := fun o => by go_grown
  have g := h.below (hb (.cells #[.int .i64 n, .slice ao zs.length cap] 30))
  have G := Lib.hid h
  by_cases hs : shs n zs = true
  · have HZ := Lib.hid (show stN n zs = spr n.toNat zs by rw [stN, if_pos hs])
    go_enter Try.func9, Try.ntmps9
    go_wp2_with fail
    refine (implShares_any n _ zs _ g).mono ?_
    rw [hs]
    rintro e w1 ⟨rfl, hb1⟩
    have hr := blk_next hb1 (heap_alloc_new w _)
    obtain ⟨k0, k1, -, -⟩ := blk2 hr
    have hB1 := bnext (hb _) hb1
    go_wp2_with fail
    refine (spread_any n _ zs _ hs (G.out.below hB1)).mono ?_
    rintro e w2 ⟨v2, rfl, ho, hb2⟩
    have Ho := Lib.hid (OI.mono hB1.size ho)
    have hB2 := bnext hB1 hb2
    clear ho
    go_wp2
    go_ret2
    exact ⟨_, ret2 rfl (vb hs.symm), by rw [HZ.out]; exact Ho.out, hB2⟩
  · have hs : shs n zs = false := by simpa using hs
    have HZ := Lib.hid (show stN n zs = [] by rw [stN, hs]; rfl)
    go_enter Try.func9, Try.ntmps9
    go_wp2_with fail
    refine (implShares_any n _ zs _ g).mono ?_
    rw [hs]
    rintro e w1 ⟨rfl, hb1⟩
    have hB1 := bnext (hb _) hb1
    go_wp2
    go_ret2
    exact ⟨_, ret2 rfl (vb hs.symm), by rw [HZ.out]; exact OI.nil _ _, hB1⟩
end Go.Proofs.Ytnhcoggjnbldiaa
