/- MendsShared in the reference. No conditions but that the slices read. -/
import Derived.Test.YtejabnjhnbminaaMds
import Derived.Deep.RegionHeld3
namespace Go.Proofs.Ytejabnjhnbminaa
open Go.RowKit
set_option maxRecDepth 100000
set_option linter.unusedVariables false
set_option linter.unusedSimpArgs false

theorem cell_app {wr w1 : World} {o : Obj} {row : Option Nat} {a : Addr} {v : Value} (h : wr.cell? a = some v) (hg : ((wr.alloc o).drew).grownBy w1 row) (hne : some a.block ≠ row) : w1.cell? a = some v :=
  hg.cell (show ((wr.alloc o).drew).cell? a = some v from cnext (((Below.refl _ _).alloc (Nat.le_refl _) _).drew) h) hne
set_option maxHeartbeats 4000000 in
theorem specMds_any (n : Int) (v : Value) (zs : List Int) (vw : Value) (ws : List Int) (k : Int) (w : World) (h : RI w v zs) (h' : RI w vw ws) :
    Calls Try.prog 26 #[.agg #[.int .i64 n, v], vw, .int .i64 k] w fun e w' => ∃ v', e = .returned (.tuple #[v', .bool (mdOk n zs ws k)]) ∧ OI w.heap.size w' v' (mdZ n zs ws k) ∧ Below w.heap.size w w' := by
  have hlenw := h'.len
  obtain ⟨ao, cap, rfl⟩ := h.shape
  obtain ⟨aow, capw, rfl⟩ := h'.shape
  have hb : ∀ o, Below w.heap.size w (w.alloc o) := fun o => by go_grown
  have g := h.below (hb (.cells #[.int .i64 n, .slice ao zs.length cap] 28))
  have G2 := Lib.hid h'
  by_cases hd : duOk n zs = true
  · obtain ⟨m, rfl, hm1, hm2, hl8, hnn, hlt⟩ := duOk_bits hd
    obtain ⟨hq1, hq2⟩ := pow16 m hm2
    by_cases hl64 : ws.length ≤ 64
    · have d64 : decide (64 < (ws.length : Int)) = false := decide_eq_false (by omega)
      by_cases hk : inB k 1 8 = true
      · have HO := Lib.hid (show mdOk m zs ws k = allIn ws 0 (2 ^ m - 1) by simp [mdOk, hd, hl64, hk])
        have HZ := Lib.hid (show allIn ws 0 (2 ^ m - 1) = true → mdZ m zs ws k = ws.map (mdW m zs) from fun e => by rw [mdZ, if_pos (by rw [HO.out, e])])
        have HZ0 := Lib.hid (show allIn ws 0 (2 ^ m - 1) = false → mdZ m zs ws k = [] from fun e => by rw [mdZ, HO.out, e]; rfl)
        have Hw := Lib.hid fun (x : Int) (hx : inB x 0 (2 ^ m - 1) = true) => md_word hm2 (show 0 ≤ x ∧ x ≤ 2 ^ m - 1 by simpa [inB] using hx)
        have Hmw := Lib.hid (mw_at m hm2 zs)
        have Hl8 := Lib.hid hl8
        have Hnn := Lib.hid hnn
        have Hlt := Lib.hid hlt
        have hll := ld_len m (toN (duZ m zs))
        have hl256 : 2 ^ (toN (duZ m zs)).length ≤ 256 := Nat.le_trans (Nat.pow_le_pow_right (by decide) (show (toN (duZ m zs)).length ≤ 8 by rw [toN_len]; exact hl8)) (by decide)
        have hL : (ld m (toN (duZ m zs))).length ≤ 256 := by omega
        have hL0 : 0 < (ld m (toN (duZ m zs))).length := by rw [hll]; exact Nat.two_pow_pos _
        clear hll hl256
        clear hl8 hnn hlt
        go_enter Try.func26, Try.ntmps26
        go_wp2_with fail
        refine (specDual_any m _ zs _ g).mono ?_
        rw [hd, apN_t]
        rintro e w1 ⟨v1, rfl, ho, hb1⟩
        have ho : OI _ w1 v1 (duZ m zs) := ho
        obtain ⟨ao1, cap1, rfl⟩ := ho.shape
        have hp := blk_next hb1 (heap_alloc_new w _)
        have hlt0 := blk_lt hp
        have hB := bnext (hb _) hb1
        have hB1 : ∀ o, Below w.heap.size w (w1.alloc o) := fun o => hB.alloc hB.size o
        have hpp := blk_alloc hp (o' := .cells #[.int .i64 m, .slice ao1 (duZ m zs).length cap1] 28)
        obtain ⟨c0, c1, -, -⟩ := blk2 hpp
        have gD := ho.ri.below (show Below w1.heap.size w1 (w1.alloc (.cells #[.int .i64 m, .slice ao1 (duZ m zs).length cap1] 28)) by go_grown)
        have gX := G2.out.below (hB1 (.cells #[.int .i64 m, .slice ao1 (duZ m zs).length cap1] 28))
        clear ho g hb1
        go_wp2_with fail
        refine (l00In_any _ _ _ _).mono ?_
        rw [hk]
        rintro e w2 ⟨rfl, rfl⟩
        have gE := gD.2.toN Hnn.out
        go_wp2_with fail
        refine (l06Leaders_any _ (toN (duZ m zs)) m hm2 _ gE (by rw [toN_len]; exact Hl8.out) Hlt.out).mono ?_
        rintro e w3 ⟨v3, rfl, ho3, hb3⟩
        obtain ⟨g3, off3, cap3, rfl, hob3⟩ := OI.obk ho3 hL0
        have hB3 := bnext (hB1 _) hb3
        have r1 := (blk2 (blk_next hb3 (heap_alloc_new w1 _))).2.1
        have p0 := (blk2 (blk_next hb3 hpp)).1
        have gE3 := Lib.hid (gE.below hb3)
        have hob := Lib.hid (hob3.mono (B' := 0) (Nat.zero_le _))
        have hca := hob3.capn
        have hcb := hob3.capm
        unfold maxLen at hcb
        have hgl := hob3.hi
        have gX3 := Lib.hid (G2.out.below hB3)
        have hw1s := blk_lt (blk_next hb3 (heap_alloc_new w1 (.cells #[.int .i64 m, .slice ao1 (duZ m zs).length cap1] 28)))
        clear gD gX gE ho3 hb3 hob3 c0 c1 hpp hp hlt0
        go_wp2_with fail
        go_loopw [11, 12] (fun o iv wr => ∃ i : Nat, iv = .int .i64 i ∧ i ≤ ws.length ∧ OwnI w3.heap.size wr o (mdT m zs ws i) ∧ (∀ x ∈ ws.take i, inB x 0 (2 ^ m - 1) = true) ∧ allIn (ws.drop i) 0 (2 ^ m - 1) = allIn ws 0 (2 ^ m - 1) ∧ Below w3.heap.size w3 wr) (fun _ iv _ => ws.length - (intOf iv).toNat)
        case atStart => exact ⟨0, rfl, Nat.zero_le _, own_empty w3 _ (Nat.le_refl _), (fun x hx => by simp at hx), rfl, by go_grown⟩
        case round =>
          obtain ⟨i, rfl, hi, hown, hall, hdr, hBr⟩ := hrel
          obtain ⟨aoo, capo, rfl⟩ := hown.shape
          have hs3 := hBr.size
          have Hall := Lib.hid hall
          have Hdr := Lib.hid hdr
          clear hall hdr
          have Hol := Lib.hid (show (mdT m zs ws i).length ≤ 64 from Nat.le_trans (mdT_len _ _ _ _) (by omega))
          by_cases hil : i < ws.length
          · obtain ⟨bw, offw, e0, -, hcw⟩ := (gX3.out.below hBr).2.cells (by omega)
            obtain rfl := e0
            have hci := hcw i hil
            obtain ⟨bw', offw', e0', -, hcw0⟩ := (gX3.out).2.cells (by omega)
            simp only [Option.some.injEq, Addr.mk.injEq, and_true] at e0'
            obtain ⟨rfl, rfl⟩ := e0'
            have hbw := World.block_lt_of_cell? w3 _ (hcw0 i hil)
            clear hcw0
            have p0' := cnext hBr p0
            have i0 : (0 : Int) ≤ (i : Int) := by omega
            have il : (i : Int) < (ws.length : Int) := by omega
            have Hsn := Lib.hid (mdT_snoc m zs ws i hil)
            have Htk := Lib.hid (List.take_succ_eq_append_getElem hil)
            have Hdd := Lib.hid (List.drop_eq_getElem_cons hil)
            have hew : isW ws[i] (m : Int) = inB ws[i] 0 (2 ^ m - 1) := by rw [isW, Int.toNat_natCast]
            have hwc := fun w' => l06Word_any ws[i] (m : Int) (by omega) (by omega) w'
            rw [hew] at hwc
            clear hcw hew
            by_cases hx : inB ws[i] 0 (2 ^ m - 1) = true
            · have Hx := Lib.hid hx
              obtain ⟨y, hy, hy2, hy65⟩ := Hw.out ws[i] hx
              rw [hx] at hwc
              rw [hy] at hci hwc
              have hsn := Hsn.out
              rw [hy] at hsn
              have e1 : mdW m zs (y : Int) = ((y ^^^ mwY m zs y : Nat) : Int) := by rw [mdW, Int.toNat_natCast]
              obtain ⟨hs, hq, hq65⟩ := Hmw.out y hy2
              rw [e1] at hsn
              have Hsn2 := Lib.hid hsn
              have hcl := hob.out.cell (syn (toN (duZ m zs)) y) hs
              rw [hq] at hcl
              have hcl2 := cnext hBr hcl
              have r1' := cnext hBr r1
              have hsy := fun (w' : World) hb' => l06Syndrome_any (.slice ao1 (duZ m zs).length cap1) (toN (duZ m zs)) y hy65 w' (gE3.out.below hb') (by rw [toN_len]; exact Hl8.out) Hlt.out
              clear hcl hq hsn e1 hy hx
              generalize syn (toN (duZ m zs)) y = s at *
              generalize mwY m zs y = q at *
              have exo := xor_i64_nat y q (by omega) (by omega)
              have hsL : (s : Int) < ((ld m (toN (duZ m zs))).length : Int) := by omega
              have hs0 : (0 : Int) ≤ (s : Int) := by omega
              go_wp2_with fail
              go_quiet ((go_at_call 68; exact Calls.quiet_of (qi (hwc _))))
              rename_i nq
              have hBq := bnext hBr (below_drewN wr nq)
              have hciq : (wr.drewN nq).cell? ⟨bw, offw + i, none⟩ = some (.int .i64 y) := hci
              have hclq : (wr.drewN nq).cell? ⟨g3, off3 + s, none⟩ = some (.int .i64 q) := hcl2
              have r1q : (wr.drewN nq).cell? ⟨w1.heap.size, 1, none⟩ = some (.slice ao1 (duZ m zs).length cap1) := r1'
              have hownq := own_below (below_drewN wr nq) hown
              have hownq : OwnI w3.heap.size (wr.drewN nq) (.slice aoo (mdT m zs ws i).length capo) (mdT m zs ws i) := hownq
              have hsq : w3.heap.size ≤ (wr.drewN nq).heap.size := hs3
              have hgw : w1.heap.size < w3.heap.size := hw1s
              clear hci hcl2 r1' hown hwc p0'
              generalize wr.drewN nq = wq at *
              go_wp2_with fail
              go_region_held3 (fun W' => W'.cell? ⟨bw, offw + i, none⟩ = some (.int .i64 y) ∧ W'.cell? ⟨w1.heap.size, 1, none⟩ = some (.slice ao1 (duZ m zs).length cap1) ∧ W'.cell? ⟨g3, off3 + s, none⟩ = some (.int .i64 q))
                (first | (go_split_ands; refine ⟨cell_app hciq hg1 ?_, cell_app r1q hg1 ?_, cell_app hclq hg1 ?_⟩ <;> (intro e; have := (hownq.lt _ e.symm).1; simp at this; omega)) | go_keep)
                ((first
                | (go_at_call 60; with_reducible refine Calls.mono (hsy _ (by first | exact hBq | exact hBq.drew)) ?_; rintro e w4 ⟨rfl, rfl⟩)
                | (refine step_app rfl (.tmp 50) (.tmp 66) rfl w3.heap.size w3.heap.size (Nat.le_refl _) (.slice aoo (mdT m zs ws i).length capo) (mdT m zs ws i) (by simp [Act.eval, Act.put]) (show OwnI _ ((wq.alloc (.cells #[.int .i64 ((y ^^^ q : Nat) : Int)] 2)).drew) _ _ from hownq.alloc _) (show Below _ w3 ((wq.alloc (.cells #[.int .i64 ((y ^^^ q : Nat) : Int)] 2)).drew) from (hBq.alloc (by omega) _).drew) [((y ^^^ q : Nat) : Int)] ⟨wq.heap.size, 0, none⟩ 1 (by simp [Act.eval, Act.put]) (by intro q hq; match q, hq with | 0, _ => simp [Addr.add, go_sem]) (by have := Hol.out; simp only [List.length_cons, List.length_nil]; omega) (by simp; omega) ?_; intro v2 w2 hown2 hB2 hg1)))
              all_goals
                rw [Hsn2.out] at hown2
                obtain ⟨ao2, cap2, rfl⟩ := hown2.shape
                clear hg1 hownq hBq
                go_wp2
                go_roundw
                case rel => exact ⟨i + 1, by go_num, by omega, hown2, (fun x hx => by rw [Htk.out] at hx; rcases List.mem_append.1 hx with hx | hx; exact Hall.out x hx; rw [List.mem_singleton.1 hx]; exact Hx.out), by rw [← Hdr.out, Hdd.out, allIn, Hx.out]; rfl, hB2⟩
                case measure => simp [intOf] <;> omega
            · have hx : inB ws[i] 0 (2 ^ m - 1) = false := by simpa using hx
              have ha : allIn ws 0 (2 ^ m - 1) = false := by rw [← Hdr.out, Hdd.out, allIn, hx]; rfl
              have HO2 := Lib.hid (show mdOk m zs ws k = false by rw [HO.out, ha])
              have HZ2 := Lib.hid (HZ0.out ha)
              rw [hx] at hwc
              clear hx ha
              generalize ws[i] = z at *
              go_wp2_with fail
              go_quiet ((go_at_call 68; exact Calls.quiet_of (qi (hwc _))))
              go_wp2
              exact bodyPost_ret (v := .tuple #[.slice none 0 0, .bool false]) (by simp [results, Try.results26, go_sem]) rfl ⟨_, by rw [HO2.out], by rw [HZ2.out]; exact OI.nil _ _, bnext (bnext hB3 hBr) (below_drewN _ _)⟩
          · have ha : allIn ws 0 (2 ^ m - 1) = true := by rw [← Hdr.out, List.drop_of_length_le (by omega)]; rfl
            have HO2 := Lib.hid (show mdOk m zs ws k = true by rw [HO.out, ha])
            have HZ2 := Lib.hid (show mdZ m zs ws k = mdT m zs ws i by rw [HZ.out ha]; exact mdT_all _ _ _ _ (by omega))
            have hi64 : AllI64 (mdT m zs ws i) := fun z hz => by
              obtain ⟨x, hx, rfl⟩ := List.mem_map.1 hz
              obtain ⟨y, rfl, hy2, hy65⟩ := Hw.out x (Hall.out x hx)
              obtain ⟨_, _, hq65⟩ := Hmw.out y hy2
              have := Nat.xor_lt_two_pow (n := 16) (x := y) (y := mwY m zs y) (by omega) (by omega)
              rw [mdW, Int.toNat_natCast]
              constructor <;> omega
            have ho := Lib.hid (OI.mono (hB3.size) (hown.oi hi64))
            have hBf := bnext hB3 hBr
            clear hown hi64 ha
            go_wp2
            exact bodyPost_ret (v := .tuple #[.slice aoo (mdT m zs ws i).length capo, .bool true]) (by simp [results, Try.results26, go_sem]) rfl ⟨_, by rw [HO2.out], by rw [HZ2.out]; exact ho.out, hBf⟩
      · have hk : inB k 1 8 = false := by simpa using hk
        have HO := Lib.hid (show mdOk m zs ws k = false by simp [mdOk, hk])
        have HZ := Lib.hid (show mdZ m zs ws k = [] by simp [mdZ, HO.out])
        clear hl8 hnn hlt
        go_enter Try.func26, Try.ntmps26
        go_wp2_with fail
        refine (specDual_any m _ zs _ g).mono ?_
        rw [hd, apN_t]
        rintro e w1 ⟨v1, rfl, ho, hb1⟩
        have ho : OI _ w1 v1 (duZ m zs) := ho
        obtain ⟨ao1, cap1, rfl⟩ := ho.shape
        have hp := blk_next hb1 (heap_alloc_new w _)
        have hlt0 := blk_lt hp
        have hB := bnext (hb _) hb1
        have hB1 : ∀ o, Below w.heap.size w (w1.alloc o) := fun o => hB.alloc hB.size o
        have hpp := blk_alloc hp (o' := .cells #[.int .i64 m, .slice ao1 (duZ m zs).length cap1] 28)
        obtain ⟨c0, c1, -, -⟩ := blk2 hpp
        have gD := ho.ri.below (show Below w1.heap.size w1 (w1.alloc (.cells #[.int .i64 m, .slice ao1 (duZ m zs).length cap1] 28)) by go_grown)
        have gX := G2.out.below (hB1 (.cells #[.int .i64 m, .slice ao1 (duZ m zs).length cap1] 28))
        clear ho g hb1
        go_wp2_with fail
        refine (l00In_any _ _ _ _).mono ?_
        rw [hk]
        rintro e w2 ⟨rfl, rfl⟩
        go_wp2
        exact bodyPost_ret (v := .tuple #[.slice none 0 0, .bool false]) (by simp [results, Try.results26, go_sem]) rfl ⟨_, by rw [HO.out], by rw [HZ.out]; exact OI.nil _ _, hB1 _⟩
    · have d64 : decide (64 < (ws.length : Int)) = true := decide_eq_true (by omega)
      have HO := Lib.hid (show mdOk m zs ws k = false by simp [mdOk, hl64])
      have HZ := Lib.hid (show mdZ m zs ws k = [] by simp [mdZ, HO.out])
      clear hl8 hnn hlt
      go_enter Try.func26, Try.ntmps26
      go_wp2_with fail
      refine (specDual_any m _ zs _ g).mono ?_
      rw [hd, apN_t]
      rintro e w1 ⟨v1, rfl, ho, hb1⟩
      have ho : OI _ w1 v1 (duZ m zs) := ho
      obtain ⟨ao1, cap1, rfl⟩ := ho.shape
      have hp := blk_next hb1 (heap_alloc_new w _)
      have hlt0 := blk_lt hp
      have hB := bnext (hb _) hb1
      have hB1 : ∀ o, Below w.heap.size w (w1.alloc o) := fun o => hB.alloc hB.size o
      have hpp := blk_alloc hp (o' := .cells #[.int .i64 m, .slice ao1 (duZ m zs).length cap1] 28)
      obtain ⟨c0, c1, -, -⟩ := blk2 hpp
      have gD := ho.ri.below (show Below w1.heap.size w1 (w1.alloc (.cells #[.int .i64 m, .slice ao1 (duZ m zs).length cap1] 28)) by go_grown)
      have gX := G2.out.below (hB1 (.cells #[.int .i64 m, .slice ao1 (duZ m zs).length cap1] 28))
      clear ho g hb1
      go_wp2
      exact bodyPost_ret (v := .tuple #[.slice none 0 0, .bool false]) (by simp [results, Try.results26, go_sem]) rfl ⟨_, by rw [HO.out], by rw [HZ.out]; exact OI.nil _ _, hB1 _⟩
  · have hd : duOk n zs = false := by simpa using hd
    have HO := Lib.hid (show mdOk n zs ws k = false by simp [mdOk, hd])
    have HZ := Lib.hid (show mdZ n zs ws k = [] by simp [mdZ, HO.out])
    go_enter Try.func26, Try.ntmps26
    go_wp2_with fail
    refine (specDual_any n _ zs _ g).mono ?_
    rw [hd, apN_f]
    rintro e w1 ⟨v1, rfl, ho, hb1⟩
    obtain ⟨ao1, cap1, rfl⟩ := ho.shape
    have hp := blk_next hb1 (heap_alloc_new w _)
    have hlt0 := blk_lt hp
    have hB := bnext (hb _) hb1
    have hB1 : ∀ o, Below w.heap.size w (w1.alloc o) := fun o => hB.alloc hB.size o
    go_wp2
    exact bodyPost_ret (v := .tuple #[.slice none 0 0, .bool false]) (by simp [results, Try.results26, go_sem]) rfl ⟨_, by rw [HO.out], by rw [HZ.out]; exact OI.nil _ _, hB1 _⟩
end Go.Proofs.Ytejabnjhnbminaa
