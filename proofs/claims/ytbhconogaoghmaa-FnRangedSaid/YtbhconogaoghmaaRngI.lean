/- Ranges of letters, in the program: a range is cut to a letter, doubled, a bit is put. Conditions: counts of at least 1, not above 16384 in all; a range of 16 bits. -/
import Derived.Test.YtbhconogaoghmaaRngP
import Derived.Test.YtbhconogaoghmaaKpt
import Derived.Test.YtbhconogaoghmaaPop
import Derived.Test.YtbhconogaoghmaaAppB
import Derived.Deep.DrawnRows
namespace Go.Proofs.Ytbhconogaoghmaa
open Go.RowKit
set_option maxRecDepth 100000
set_option linter.unusedVariables false
set_option linter.unusedSimpArgs false
attribute [local go_sem ↓] Go.wp_at_zero Go.wp_at_succ

theorem Rg.take {α : Type} {enc : α → Value} {w : World} {ao : Option Addr} {n cap : Nat} {xs : List α} (h : Rg enc w (.slice ao n cap) xs) (k : Nat) (hk : k ≤ xs.length) : Rg enc w (.slice ao k cap) (xs.take k) := by
  obtain ⟨ao', cap', e, h1, h2, h3⟩ := h
  simp only [Value.slice.injEq] at e
  obtain ⟨rfl, rfl, rfl⟩ := e
  refine ⟨ao, cap, by rw [List.length_take, Nat.min_eq_left hk], by rw [List.length_take]; omega, h2, fun i hi => ?_⟩
  rw [List.length_take] at hi
  obtain ⟨b, off, e, hc⟩ := h3 i (by omega)
  exact ⟨b, off, e, by rw [List.getElem_take]; exact hc⟩
theorem pos_small {cs : List Int} (h : Pos cs) (hs : sumL cs ≤ 16384) : Small 1099511627776 cs := fun z hz => by
  have h1 := h z hz
  have h2 : z ≤ sumL cs := by
    clear hs
    induction cs with
    | nil => cases hz
    | cons a t ih =>
      have ht : Pos t := fun y hy => h y (List.mem_cons_of_mem _ hy)
      have := sumL_pos ht
      have ha := h a (by simp)
      rw [sumL]
      rcases List.mem_cons.1 hz with rfl | hz
      · omega
      · have := ih ht hz; omega
  omega
set_option maxHeartbeats 4000000 in
theorem cut_any (R : Nat) (n : Int) (v : Value) (cs : List Int) (l : Nat) (low high : Int) (w : World) (h : RI w v cs) (hp : Pos cs) (hs : sumL cs ≤ 16384) (hl : l < cs.length) (hcl : cs.length ≤ 16)
    (hR : w.heap[R]? = some (.cells #[.int .i64 low, .int .i64 high] 75 (0, 0))) (h0 : 0 ≤ low) (h1 : low ≤ high) (h2 : high ≤ 65535) :
    Calls Try.prog 47 #[.pointer (some ⟨R, 0, none⟩), .agg #[.int .i64 n, v], .int .i64 l] w fun e w' => e = .returned (.tuple #[]) ∧ w'.heap[R]? = some (.cells #[.int .i64 (nLow cs l low high), .int .i64 (nHigh cs l low high)] 75 (0, 0)) ∧ Kpt (· = R) w w' := by
  obtain ⟨ao, cap, rfl⟩ := h.shape
  have hlen := h.len
  obtain ⟨b0, o0, e0, -, hcs⟩ := h.2.cells (by omega)
  obtain rfl := e0
  have hRlt := blk_lt hR
  have hb : ∀ o, Below w.heap.size w (w.alloc o) := fun o => by go_grown
  have hB0 := hb (.cells #[.int .i64 n, .slice (some ⟨b0, o0, none⟩) cs.length cap] 27)
  have hA : (w.alloc (.cells #[.int .i64 n, .slice (some ⟨b0, o0, none⟩) cs.length cap] 27)).heap[w.heap.size]? = some (.cells #[.int .i64 n, .slice (some ⟨b0, o0, none⟩) cs.length cap] 27 (0, 0)) := heap_alloc_new w _
  have hR0 := blk_next hB0 hR
  have hcl0 := hcs l hl
  have hpb := prod_bd hp hs hl h0 h1 h2
  have hbb := befo_bd hp l
  have hbn := befo_next hp hl
  have hsp := sumL_pos hp
  have hne : w.heap.size ≠ R := by omega
  have HL := Lib.hid (show nLow cs l low high = low + (high - low + 1) * befo cs l / sumL cs from rfl)
  have HH := Lib.hid (show nHigh cs l low high = low + (high - low + 1) * (befo cs l + git cs l) / sumL cs - 1 from rfl)
  have Hsm := Lib.hid (pos_small hp hs)
  have Hsmt := Lib.hid (show Small 1099511627776 (cs.take l) from fun z hz => pos_small hp hs z (List.mem_of_mem_take hz))
  have HRI := Lib.hid h
  have HRt := Lib.hid (show RI w (.slice (some ⟨b0, o0, none⟩) l cap) (cs.take l) from ⟨fun z hz => h.1 z (List.mem_of_mem_take hz), h.2.take l (by omega)⟩)
  have Hbt := Lib.hid (show sumL (cs.take l) = befo cs l from rfl)
  have Hlt := Lib.hid (show (cs.take l).length ≤ 16 by rw [List.length_take]; omega)
  have hcapl : l ≤ cap := by
    obtain ⟨_, ao', cap', e0, hcap, _⟩ := h
    simp only [Value.slice.injEq, true_and] at e0
    obtain ⟨rfl, rfl⟩ := e0
    omega
  rw [← git_eq hl] at hcl0
  obtain ⟨T, hT⟩ : ∃ T, sumL cs = T := ⟨_, rfl⟩
  obtain ⟨be, hbe⟩ : ∃ be, befo cs l = be := ⟨_, rfl⟩
  obtain ⟨c, hc⟩ : ∃ c, git cs l = c := ⟨_, rfl⟩
  rw [hbe] at hpb hbb hbn HL HH Hbt
  rw [hc] at hpb hbn HH hcl0
  rw [hT] at hbb hbn HL HH hsp
  have hTs : T ≤ 16384 := by rw [← hT]; exact hs
  have HT := Lib.hid hT
  obtain ⟨wd, hwd⟩ : ∃ wd, high - low + 1 = wd := ⟨_, rfl⟩
  rw [hwd] at hpb HL HH
  have hwd1 : 1 ≤ wd := by omega
  have hwd2 : wd ≤ 65536 := by omega
  have Hwd := Lib.hid hwd
  clear hT hbe hc h hcs hp hs hwd
  have hv1 : IntKind.i64.wrap (high - low) = high - low := IntWalk.i64_in _ (by omega)
  have hv2 : IntKind.i64.wrap (high - low + 1) = wd := by rw [Hwd.out]; exact IntWalk.i64_in _ (by omega)
  go_enter Try.func47, Try.ntmps47
  go_wp2_with fail
  generalize w.alloc (.cells #[.int .i64 n, .slice (some ⟨b0, o0, none⟩) cs.length cap] 27) = W0 at *
  obtain ⟨a0, a1, -, -⟩ := blk2 hA
  obtain ⟨r0, r1, -, -⟩ := blk2 hR0
  have HR0 := Lib.hid (HRI.out.below hB0)
  have hbw : Below W0.heap.size W0 W0.drew := below_drewN W0 1
  refine wp_region_held_drew (S := fun W' => W'.cell? ⟨w.heap.size, 0, none⟩ = some (.int .i64 n) ∧ W'.cell? ⟨w.heap.size, 1, none⟩ = some (.slice (some ⟨b0, o0, none⟩) cs.length cap) ∧ W'.cell? ⟨R, 0, none⟩ = some (.int .i64 low) ∧ W'.cell? ⟨R, 1, none⟩ = some (.int .i64 high) ∧ Below W0.heap.size W0 W') (by kernel_rfl) ?_ (fun hHeld => ?_)
  · (try go_split_ands); refine ⟨?_, ?_, ?_, ?_, ?_⟩ <;> first | assumption | exact cnext (by assumption) (by assumption) | exact bnext (by assumption) (by assumption) | exact Below.alloc (by assumption) (Below.size (by assumption)) _ | (go_keep; done)
  refine wpAnyH_tk (i := 0) (v := ?_) (some 9) rfl rfl (by kernel_rfl) (by decide +kernel) (by decide +kernel) (fun _ _ _ h => h) (by kernel_rfl) ?_ hHeld ?_
  rotate_left
  · (intro w hSw; (try dsimp only at hSw); go_simp <;> with_reducible rfl)
  (try simp only [Act.put, List.setIfInBounds_toArray, List.set_cons_zero, List.set_cons_succ])
  refine wpAnyH_tk (i := 1) (v := ?_) (some 10) rfl rfl (by kernel_rfl) (by decide +kernel) (by decide +kernel) (fun _ _ _ h => h) (by kernel_rfl) ?_ hHeld ?_
  rotate_left
  · (intro w hSw; (try dsimp only at hSw); go_simp <;> with_reducible rfl)
  (try simp only [Act.put, List.setIfInBounds_toArray, List.set_cons_zero, List.set_cons_succ])
  refine wpAnyH_tk (i := 2) (v := ?_) (some 11) rfl rfl (by kernel_rfl) (by decide +kernel) (by decide +kernel) (fun _ _ _ h => h) (by kernel_rfl) ?_ hHeld ?_
  rotate_left
  · (intro w hSw; (try dsimp only at hSw); go_simp <;> with_reducible rfl)
  (try simp only [Act.put, List.setIfInBounds_toArray, List.set_cons_zero, List.set_cons_succ])
  refine wpAnyH_tk (i := 3) (v := ?_) (some 12) rfl rfl (by kernel_rfl) (by decide +kernel) (by decide +kernel) (fun _ _ _ h => h) (by kernel_rfl) ?_ hHeld ?_
  rotate_left
  · (intro w hSw; (try dsimp only at hSw); go_simp <;> with_reducible rfl)
  (try simp only [Act.put, List.setIfInBounds_toArray, List.set_cons_zero, List.set_cons_succ])
  refine wpAnyH_tk (i := 4) (v := ?_) (some 13) rfl rfl (by kernel_rfl) (by decide +kernel) (by decide +kernel) (fun _ _ _ h => h) (by kernel_rfl) ?_ hHeld ?_
  rotate_left
  · (intro w hSw; (try dsimp only at hSw); go_simp <;> with_reducible rfl)
  (try simp only [Act.put, List.setIfInBounds_toArray, List.set_cons_zero, List.set_cons_succ])
  refine wpAnyH_tk (i := 5) (v := ?_) (some 14) rfl rfl (by kernel_rfl) (by decide +kernel) (by decide +kernel) (fun _ _ _ h => h) (by kernel_rfl) ?_ hHeld ?_
  rotate_left
  · (intro w hSw; (try dsimp only at hSw); go_simp <;> with_reducible rfl)
  (try simp only [Act.put, List.setIfInBounds_toArray, List.set_cons_zero, List.set_cons_succ])
  refine wpAnyH_tk (i := 6) (v := ?_) (some 15) rfl rfl (by kernel_rfl) (by decide +kernel) (by decide +kernel) (fun _ _ _ h => h) (by kernel_rfl) ?_ hHeld ?_
  rotate_left
  · (intro w hSw; (try dsimp only at hSw); go_simp <;> with_reducible rfl)
  (try simp only [Act.put, List.setIfInBounds_toArray, List.set_cons_zero, List.set_cons_succ])
  refine wpAnyH_tk (i := 7) (v := ?_) (some 16) rfl rfl (by kernel_rfl) (by decide +kernel) (by decide +kernel) (fun _ _ _ h => h) (by kernel_rfl) ?_ hHeld ?_
  rotate_left
  · (intro w hSw; (try dsimp only at hSw); go_simp <;> with_reducible rfl)
  (try simp only [Act.put, List.setIfInBounds_toArray, List.set_cons_zero, List.set_cons_succ])
  refine wpAnyH_tk (i := 8) (v := ?_) (some 17) rfl rfl (by kernel_rfl) (by decide +kernel) (by decide +kernel) (fun _ _ _ h => h) (by kernel_rfl) ?_ hHeld ?_
  rotate_left
  · (intro w hSw; (try dsimp only at hSw); go_simp <;> with_reducible rfl)
  (try simp only [Act.put, List.setIfInBounds_toArray, List.set_cons_zero, List.set_cons_succ])
  refine wpAnyH_tk (i := 9) (v := ?_) (some 18) rfl rfl (by kernel_rfl) (by decide +kernel) (by decide +kernel) (fun _ _ _ h => h) (by kernel_rfl) ?_ hHeld ?_
  rotate_left
  · (intro w hSw; (try dsimp only at hSw); go_simp <;> with_reducible rfl)
  (try simp only [Act.put, List.setIfInBounds_toArray, List.set_cons_zero, List.set_cons_succ])
  refine wpAnyH_tk (i := 10) (v := ?_) (some 19) rfl rfl (by kernel_rfl) (by decide +kernel) (by decide +kernel) (fun _ _ _ h => h) (by kernel_rfl) ?_ hHeld ?_
  rotate_left
  · (intro w hSw; (try dsimp only at hSw); go_simp <;> with_reducible rfl)
  (try simp only [Act.put, List.setIfInBounds_toArray, List.set_cons_zero, List.set_cons_succ])
  refine wpAnyH_ready (rs := [11]) (by kernel_rfl) (by simp) ?_
  refine AllReadyH.cons rfl (fun K hK => ?_) AllReadyH.nil
  go_simp
  with_reducible refine Calls.mono (total_any n _ cs _ (HR0.out.below (by go_split_ands; assumption)) Hsm.out (by omega)) ?_
  rw [HT.out]
  rintro e w1 ⟨rfl, hb1⟩
  try go_wp2_with fail
  refine hK.out _ _ ?_ (fun hHeld => ?_)
  · (try go_split_ands); refine ⟨?_, ?_, ?_, ?_, ?_⟩ <;> first | assumption | exact cnext (by assumption) (by assumption) | exact bnext (by assumption) (by assumption) | exact Below.alloc (by assumption) (Below.size (by assumption)) _ | (go_keep; done)
  clear hK K
  (try simp only [Act.put, List.setIfInBounds_toArray, List.set_cons_zero, List.set_cons_succ])
  refine wpAnyH_tk (i := 12) (v := ?_) (some 6) rfl rfl (by kernel_rfl) (by decide +kernel) (by decide +kernel) (fun _ _ _ h => h) (by kernel_rfl) ?_ hHeld ?_
  rotate_left
  · (intro w hSw; (try dsimp only at hSw); go_simp <;> with_reducible rfl)
  (try simp only [Act.put, List.setIfInBounds_toArray, List.set_cons_zero, List.set_cons_succ])
  refine wpAnyH_tk (i := 13) (v := ?_) (some 7) rfl rfl (by kernel_rfl) (by decide +kernel) (by decide +kernel) (fun _ _ _ h => h) (by kernel_rfl) ?_ hHeld ?_
  rotate_left
  · (intro w hSw; (try dsimp only at hSw); go_simp <;> with_reducible rfl)
  (try simp only [Act.put, List.setIfInBounds_toArray, List.set_cons_zero, List.set_cons_succ])
  refine wpAnyH_done (by kernel_rfl) ?_ _
  have hBq : Below W0.heap.size W0 w1 := by go_split_ands; assumption
  have hA := blk_next hBq hA
  have hR1 := blk_next hBq hR0
  have hB := bnext hB0 hBq
  clear hHeld hb1 hbw hBq a0 a1 r0 r1 hR0 HR0 hB0
  have hRt1 := HRt.out.below hB
  have he1 := cnext hB hcl0
  obtain ⟨a0, a1, -, -⟩ := blk2 hA
  obtain ⟨r0, r1, f0, f1⟩ := blk2 hR1
  obtain ⟨q1, hq1⟩ : ∃ q1, wd * (be + c) / T = q1 := ⟨_, rfl⟩
  obtain ⟨q2, hq2⟩ : ∃ q2, wd * be / T = q2 := ⟨_, rfl⟩
  have hT0 : 0 < T := by omega
  have hTne : T ≠ 0 := by omega
  have hd1 := div_top (w := wd) hT0 (by omega) hbn.2 (by omega)
  have hd2 := div_top (w := wd) hT0 (by omega) hbb.2 hbb.1
  rw [hq1] at hd1 HH
  rw [hq2] at hd2 HL
  have hv3 : IntKind.i64.wrap (be + c) = be + c := IntWalk.i64_in _ (by omega)
  have hv4 : IntKind.i64.wrap (wd * (be + c)) = wd * (be + c) := IntWalk.i64_in _ (by omega)
  have ht1 : (wd * (be + c)).tdiv T = q1 := by rw [Int.tdiv_eq_ediv_of_nonneg hpb.2.2.1]; exact hq1
  have ht2 : (wd * be).tdiv T = q2 := by rw [Int.tdiv_eq_ediv_of_nonneg hpb.1]; exact hq2
  have hv5 : IntKind.i64.wrap q1 = q1 := IntWalk.i64_in _ (by omega)
  have hv6 : IntKind.i64.wrap (low + q1) = low + q1 := IntWalk.i64_in _ (by omega)
  have hv7 : IntKind.i64.wrap (low + q1 - 1) = low + q1 - 1 := IntWalk.i64_in _ (by omega)
  have hv8 : IntKind.i64.wrap (wd * be) = wd * be := IntWalk.i64_in _ (by omega)
  have hv9 : IntKind.i64.wrap q2 = q2 := IntWalk.i64_in _ (by omega)
  have hv10 : IntKind.i64.wrap (low + q2) = low + q2 := IntWalk.i64_in _ (by omega)
  have hl0 : (0 : Int) ≤ (l : Int) := by omega
  have hll : (l : Int) < (cs.length : Int) := by omega
  have hlc : (l : Int) ≤ (cap : Int) := by omega
  have Hend := Lib.hid (And.intro (show nLow cs l low high = low + q2 from HL.out) (show nHigh cs l low high = low + q1 - 1 from HH.out))
  have Hfin := Lib.hid (And.intro (blk_next (below_drewN _ 2) (blk_set0 (u := .int .i64 (low + q2)) (blk_set1 (u := .int .i64 (low + q1 - 1)) hR1))) ((((Kpt.of_below (F := (· = R)) hB).set (p := ⟨R, 1, none⟩) (.inl rfl) (.int .i64 (low + q1 - 1))).set (p := ⟨R, 0, none⟩) (.inl rfl) (.int .i64 (low + q2))).drewN 2))
  clear hq1 hq2 HL HH hA hR1 hB hpb
  go_wp2_with (go_at_call 51; refine (sumOf_any _ (cs.take l) _ hRt1 Hsmt.out (Nat.le_trans Hlt.out (by decide))).mono ?_; rw [Hbt.out]; rintro e w' ⟨rfl, rfl⟩)
  refine wp_region_held_tail 20 (S := fun W' => W'.cell? ⟨w.heap.size, 1, none⟩ = some (.slice (some ⟨b0, o0, none⟩) cs.length cap) ∧ W'.cell? ⟨R, 0, none⟩ = some (.int .i64 low) ∧ W'.cell? ⟨b0, o0 + l, none⟩ = some (.int .i64 c)) (by kernel_rfl) (by decide +kernel) ?_ (fun hHeld => ?_)
  · (try go_split_ands); refine ⟨?_, ?_, ?_⟩ <;> first | assumption | exact cnext (by assumption) (by assumption) | exact bnext (by assumption) (by assumption) | exact Below.alloc (by assumption) (Below.size (by assumption)) _ | (go_keep; done)
  simp only [List.take_succ_cons, List.take_zero, List.drop_succ_cons, List.drop_zero, List.length_cons, List.length_nil, Nat.reduceAdd]
  refine wpAnyH_tk (i := 0) (v := ?_) (some 26) rfl rfl (by kernel_rfl) (by decide +kernel) (by decide +kernel) (fun _ _ _ h => h) (by kernel_rfl) ?_ hHeld ?_
  rotate_left
  · (intro w hSw; (try dsimp only at hSw); go_simp <;> with_reducible rfl)
  (try simp only [Act.put, List.setIfInBounds_toArray, List.set_cons_zero, List.set_cons_succ])
  refine wpAnyH_tk (i := 1) (v := ?_) (some 27) rfl rfl (by kernel_rfl) (by decide +kernel) (by decide +kernel) (fun _ _ _ h => h) (by kernel_rfl) ?_ hHeld ?_
  rotate_left
  · (intro w hSw; (try dsimp only at hSw); go_simp <;> with_reducible rfl)
  (try simp only [Act.put, List.setIfInBounds_toArray, List.set_cons_zero, List.set_cons_succ])
  refine wpAnyH_tk (i := 2) (v := ?_) (some 28) rfl rfl (by kernel_rfl) (by decide +kernel) (by decide +kernel) (fun _ _ _ h => h) (by kernel_rfl) ?_ hHeld ?_
  rotate_left
  · (intro w hSw; (try dsimp only at hSw); go_simp <;> with_reducible rfl)
  (try simp only [Act.put, List.setIfInBounds_toArray, List.set_cons_zero, List.set_cons_succ])
  refine wpAnyH_tk (i := 3) (v := ?_) (some 29) rfl rfl (by kernel_rfl) (by decide +kernel) (by decide +kernel) (fun _ _ _ h => h) (by kernel_rfl) ?_ hHeld ?_
  rotate_left
  · (intro w hSw; (try dsimp only at hSw); go_simp <;> with_reducible rfl)
  (try simp only [Act.put, List.setIfInBounds_toArray, List.set_cons_zero, List.set_cons_succ])
  refine wpAnyH_tk (i := 4) (v := ?_) (some 30) rfl rfl (by kernel_rfl) (by decide +kernel) (by decide +kernel) (fun _ _ _ h => h) (by kernel_rfl) ?_ hHeld ?_
  rotate_left
  · (intro w hSw; (try dsimp only at hSw); go_simp <;> with_reducible rfl)
  (try simp only [Act.put, List.setIfInBounds_toArray, List.set_cons_zero, List.set_cons_succ])
  refine wpAnyH_tk (i := 5) (v := ?_) (some 31) rfl rfl (by kernel_rfl) (by decide +kernel) (by decide +kernel) (fun _ _ _ h => h) (by kernel_rfl) ?_ hHeld ?_
  rotate_left
  · (intro w hSw; (try dsimp only at hSw); go_simp <;> with_reducible rfl)
  (try simp only [Act.put, List.setIfInBounds_toArray, List.set_cons_zero, List.set_cons_succ])
  refine wpAnyH_tk (i := 6) (v := ?_) (some 32) rfl rfl (by kernel_rfl) (by decide +kernel) (by decide +kernel) (fun _ _ _ h => h) (by kernel_rfl) ?_ hHeld ?_
  rotate_left
  · (intro w hSw; (try dsimp only at hSw); go_simp <;> with_reducible rfl)
  (try simp only [Act.put, List.setIfInBounds_toArray, List.set_cons_zero, List.set_cons_succ])
  refine wpAnyH_tk (i := 7) (v := ?_) (some 33) rfl rfl (by kernel_rfl) (by decide +kernel) (by decide +kernel) (fun _ _ _ h => h) (by kernel_rfl) ?_ hHeld ?_
  rotate_left
  · (intro w hSw; (try dsimp only at hSw); go_simp <;> with_reducible rfl)
  (try simp only [Act.put, List.setIfInBounds_toArray, List.set_cons_zero, List.set_cons_succ])
  refine wpAnyH_tk (i := 8) (v := ?_) (some 34) rfl rfl (by kernel_rfl) (by decide +kernel) (by decide +kernel) (fun _ _ _ h => h) (by kernel_rfl) ?_ hHeld ?_
  rotate_left
  · (intro w hSw; (try dsimp only at hSw); go_simp <;> with_reducible rfl)
  (try simp only [Act.put, List.setIfInBounds_toArray, List.set_cons_zero, List.set_cons_succ])
  refine wpAnyH_tk (i := 9) (v := ?_) (some 35) rfl rfl (by kernel_rfl) (by decide +kernel) (by decide +kernel) (fun _ _ _ h => h) (by kernel_rfl) ?_ hHeld ?_
  rotate_left
  · (intro w hSw; (try dsimp only at hSw); go_simp <;> with_reducible rfl)
  (try simp only [Act.put, List.setIfInBounds_toArray, List.set_cons_zero, List.set_cons_succ])
  refine wpAnyH_tk (i := 10) (v := ?_) (some 36) rfl rfl (by kernel_rfl) (by decide +kernel) (by decide +kernel) (fun _ _ _ h => h) (by kernel_rfl) ?_ hHeld ?_
  rotate_left
  · (intro w hSw; (try dsimp only at hSw); go_simp <;> with_reducible rfl)
  (try simp only [Act.put, List.setIfInBounds_toArray, List.set_cons_zero, List.set_cons_succ])
  refine wpAnyH_tk (i := 11) (v := ?_) (some 37) rfl rfl (by kernel_rfl) (by decide +kernel) (by decide +kernel) (fun _ _ _ h => h) (by kernel_rfl) ?_ hHeld ?_
  rotate_left
  · (intro w hSw; (try dsimp only at hSw); go_simp <;> with_reducible rfl)
  (try simp only [Act.put, List.setIfInBounds_toArray, List.set_cons_zero, List.set_cons_succ])
  refine wpAnyH_tk (i := 12) (v := ?_) (some 38) rfl rfl (by kernel_rfl) (by decide +kernel) (by decide +kernel) (fun _ _ _ h => h) (by kernel_rfl) ?_ hHeld ?_
  rotate_left
  · (intro w hSw; (try dsimp only at hSw); go_simp <;> with_reducible rfl)
  (try simp only [Act.put, List.setIfInBounds_toArray, List.set_cons_zero, List.set_cons_succ])
  refine wpAnyH_tk (i := 13) (v := ?_) (some 39) rfl rfl (by kernel_rfl) (by decide +kernel) (by decide +kernel) (fun _ _ _ h => h) (by kernel_rfl) ?_ hHeld ?_
  rotate_left
  · (intro w hSw; (try dsimp only at hSw); go_simp <;> with_reducible rfl)
  (try simp only [Act.put, List.setIfInBounds_toArray, List.set_cons_zero, List.set_cons_succ])
  refine wpAnyH_tk (i := 14) (v := ?_) (some 40) rfl rfl (by kernel_rfl) (by decide +kernel) (by decide +kernel) (fun _ _ _ h => h) (by kernel_rfl) ?_ hHeld ?_
  rotate_left
  · (intro w hSw; (try dsimp only at hSw); go_simp <;> with_reducible rfl)
  (try simp only [Act.put, List.setIfInBounds_toArray, List.set_cons_zero, List.set_cons_succ])
  refine wpAnyH_tk (i := 15) (v := ?_) (some 41) rfl rfl (by kernel_rfl) (by decide +kernel) (by decide +kernel) (fun _ _ _ h => h) (by kernel_rfl) ?_ hHeld ?_
  rotate_left
  · (intro w hSw; (try dsimp only at hSw); go_simp <;> with_reducible rfl)
  (try simp only [Act.put, List.setIfInBounds_toArray, List.set_cons_zero, List.set_cons_succ])
  refine wpAnyH_tk (i := 16) (v := ?_) (some 42) rfl rfl (by kernel_rfl) (by decide +kernel) (by decide +kernel) (fun _ _ _ h => h) (by kernel_rfl) ?_ hHeld ?_
  rotate_left
  · (intro w hSw; (try dsimp only at hSw); go_simp <;> with_reducible rfl)
  (try simp only [Act.put, List.setIfInBounds_toArray, List.set_cons_zero, List.set_cons_succ])
  refine wpAnyH_tk (i := 17) (v := ?_) (some 43) rfl rfl (by kernel_rfl) (by decide +kernel) (by decide +kernel) (fun _ _ _ h => h) (by kernel_rfl) ?_ hHeld ?_
  rotate_left
  · (intro w hSw; (try dsimp only at hSw); go_simp <;> with_reducible rfl)
  (try simp only [Act.put, List.setIfInBounds_toArray, List.set_cons_zero, List.set_cons_succ])
  refine wpAnyH_tk (i := 18) (v := ?_) (some 44) rfl rfl (by kernel_rfl) (by decide +kernel) (by decide +kernel) (fun _ _ _ h => h) (by kernel_rfl) ?_ hHeld ?_
  rotate_left
  · (intro w hSw; (try dsimp only at hSw); go_simp <;> with_reducible rfl)
  (try simp only [Act.put, List.setIfInBounds_toArray, List.set_cons_zero, List.set_cons_succ])
  refine wpAnyH_tk (i := 19) (v := ?_) (some 45) rfl rfl (by kernel_rfl) (by decide +kernel) (by decide +kernel) (fun _ _ _ h => h) (by kernel_rfl) ?_ hHeld ?_
  rotate_left
  · (intro w hSw; (try dsimp only at hSw); go_simp <;> with_reducible rfl)
  (try simp only [Act.put, List.setIfInBounds_toArray, List.set_cons_zero, List.set_cons_succ])
  refine wpAnyH_done (by kernel_rfl) ?_ _
  show wpList _ _ _ _ _ _
  clear hHeld
  have r0' : (w1.setCell ⟨R, 1, none⟩ (.int .i64 (low + q1 - 1))).cell? ⟨R, 0, none⟩ = some (.int .i64 low) := by rw [World.cell?_setCell_other (a := ⟨R, 1, none⟩) (b := ⟨R, 0, none⟩) (h := by simp)]; exact r0
  have f0' : (w1.setCell ⟨R, 1, none⟩ (.int .i64 (low + q1 - 1))).frozen? ⟨R, 0, none⟩ = false := by rw [World.frozen?_setCell]; exact f0
  go_wp2_with fail
  refine wp_region_held_tail 13 (S := fun W' => W'.cell? ⟨R, 0, none⟩ = some (.int .i64 low)) (by kernel_rfl) (by decide +kernel) ?_ (fun hHeld => ?_)
  · (first | assumption | (go_keep; done))
  simp only [List.take_succ_cons, List.take_zero, List.drop_succ_cons, List.drop_zero, List.length_cons, List.length_nil, Nat.reduceAdd]
  refine wpAnyH_tk (i := 0) (v := ?_) (some 46) rfl rfl (by kernel_rfl) (by decide +kernel) (by decide +kernel) (fun _ _ _ h => h) (by kernel_rfl) ?_ hHeld ?_
  rotate_left
  · (intro w hSw; (try dsimp only at hSw); go_simp <;> with_reducible rfl)
  (try simp only [Act.put, List.setIfInBounds_toArray, List.set_cons_zero, List.set_cons_succ])
  refine wpAnyH_tk (i := 1) (v := ?_) (some 47) rfl rfl (by kernel_rfl) (by decide +kernel) (by decide +kernel) (fun _ _ _ h => h) (by kernel_rfl) ?_ hHeld ?_
  rotate_left
  · (intro w hSw; (try dsimp only at hSw); go_simp <;> with_reducible rfl)
  (try simp only [Act.put, List.setIfInBounds_toArray, List.set_cons_zero, List.set_cons_succ])
  refine wpAnyH_tk (i := 2) (v := ?_) (some 48) rfl rfl (by kernel_rfl) (by decide +kernel) (by decide +kernel) (fun _ _ _ h => h) (by kernel_rfl) ?_ hHeld ?_
  rotate_left
  · (intro w hSw; (try dsimp only at hSw); go_simp <;> with_reducible rfl)
  (try simp only [Act.put, List.setIfInBounds_toArray, List.set_cons_zero, List.set_cons_succ])
  refine wpAnyH_tk (i := 3) (v := ?_) (some 49) rfl rfl (by kernel_rfl) (by decide +kernel) (by decide +kernel) (fun _ _ _ h => h) (by kernel_rfl) ?_ hHeld ?_
  rotate_left
  · (intro w hSw; (try dsimp only at hSw); go_simp <;> with_reducible rfl)
  (try simp only [Act.put, List.setIfInBounds_toArray, List.set_cons_zero, List.set_cons_succ])
  refine wpAnyH_tk (i := 4) (v := ?_) (some 50) rfl rfl (by kernel_rfl) (by decide +kernel) (by decide +kernel) (fun _ _ _ h => h) (by kernel_rfl) ?_ hHeld ?_
  rotate_left
  · (intro w hSw; (try dsimp only at hSw); go_simp <;> with_reducible rfl)
  (try simp only [Act.put, List.setIfInBounds_toArray, List.set_cons_zero, List.set_cons_succ])
  refine wpAnyH_tk (i := 5) (v := ?_) (some 51) rfl rfl (by kernel_rfl) (by decide +kernel) (by decide +kernel) (fun _ _ _ h => h) (by kernel_rfl) ?_ hHeld ?_
  rotate_left
  · (intro w hSw; (try dsimp only at hSw); go_simp <;> with_reducible rfl)
  (try simp only [Act.put, List.setIfInBounds_toArray, List.set_cons_zero, List.set_cons_succ])
  refine wpAnyH_tk (i := 6) (v := ?_) (some 52) rfl rfl (by kernel_rfl) (by decide +kernel) (by decide +kernel) (fun _ _ _ h => h) (by kernel_rfl) ?_ hHeld ?_
  rotate_left
  · (intro w hSw; (try dsimp only at hSw); go_simp <;> with_reducible rfl)
  (try simp only [Act.put, List.setIfInBounds_toArray, List.set_cons_zero, List.set_cons_succ])
  refine wpAnyH_tk (i := 7) (v := ?_) (some 53) rfl rfl (by kernel_rfl) (by decide +kernel) (by decide +kernel) (fun _ _ _ h => h) (by kernel_rfl) ?_ hHeld ?_
  rotate_left
  · (intro w hSw; (try dsimp only at hSw); go_simp <;> with_reducible rfl)
  (try simp only [Act.put, List.setIfInBounds_toArray, List.set_cons_zero, List.set_cons_succ])
  refine wpAnyH_tk (i := 8) (v := ?_) (some 54) rfl rfl (by kernel_rfl) (by decide +kernel) (by decide +kernel) (fun _ _ _ h => h) (by kernel_rfl) ?_ hHeld ?_
  rotate_left
  · (intro w hSw; (try dsimp only at hSw); go_simp <;> with_reducible rfl)
  (try simp only [Act.put, List.setIfInBounds_toArray, List.set_cons_zero, List.set_cons_succ])
  refine wpAnyH_tk (i := 9) (v := ?_) (some 55) rfl rfl (by kernel_rfl) (by decide +kernel) (by decide +kernel) (fun _ _ _ h => h) (by kernel_rfl) ?_ hHeld ?_
  rotate_left
  · (intro w hSw; (try dsimp only at hSw); go_simp <;> with_reducible rfl)
  (try simp only [Act.put, List.setIfInBounds_toArray, List.set_cons_zero, List.set_cons_succ])
  refine wpAnyH_tk (i := 10) (v := ?_) (some 56) rfl rfl (by kernel_rfl) (by decide +kernel) (by decide +kernel) (fun _ _ _ h => h) (by kernel_rfl) ?_ hHeld ?_
  rotate_left
  · (intro w hSw; (try dsimp only at hSw); go_simp <;> with_reducible rfl)
  (try simp only [Act.put, List.setIfInBounds_toArray, List.set_cons_zero, List.set_cons_succ])
  refine wpAnyH_tk (i := 11) (v := ?_) (some 57) rfl rfl (by kernel_rfl) (by decide +kernel) (by decide +kernel) (fun _ _ _ h => h) (by kernel_rfl) ?_ hHeld ?_
  rotate_left
  · (intro w hSw; (try dsimp only at hSw); go_simp <;> with_reducible rfl)
  (try simp only [Act.put, List.setIfInBounds_toArray, List.set_cons_zero, List.set_cons_succ])
  refine wpAnyH_tk (i := 12) (v := ?_) (some 58) rfl rfl (by kernel_rfl) (by decide +kernel) (by decide +kernel) (fun _ _ _ h => h) (by kernel_rfl) ?_ hHeld ?_
  rotate_left
  · (intro w hSw; (try dsimp only at hSw); go_simp <;> with_reducible rfl)
  (try simp only [Act.put, List.setIfInBounds_toArray, List.set_cons_zero, List.set_cons_succ])
  refine wpAnyH_done (by kernel_rfl) ?_ _
  show wpList _ _ _ _ _ _
  clear hHeld
  go_wp2
  go_end0
  exact ⟨rfl, by rw [Hend.out.1, Hend.out.2]; exact Hfin.out.1, Hfin.out.2⟩
def kd (b : Int) : Int := if b = 0 then 0 else if b = 32768 then 1 else 2
set_option maxHeartbeats 1000000 in
theorem shift_some (R : Nat) (low high b : Int) (w : World) (hR : w.heap[R]? = some (.cells #[.int .i64 low, .int .i64 high] 75 (0, 0))) (h0 : 0 ≤ low) (h1 : low ≤ high) (h2 : high ≤ 65535) (hh : halv low high = some b) :
    Calls Try.prog 48 #[.pointer (some ⟨R, 0, none⟩)] w fun e w' => e = .returned (.tuple #[.int .i64 b, .int .i64 (kd b)]) ∧ w'.heap[R]? = some (.cells #[.int .i64 (2 * (low - b)), .int .i64 (2 * (high - b) + 1)] 75 (0, 0)) ∧ Kpt (· = R) w w' := by
  obtain ⟨r0, r1, f0, f1⟩ := blk2 hR
  have hb := halv_some hh h0 h1 h2
  have key : ∀ b : Int, (w.setCell ⟨R, 0, none⟩ (.int .i64 (2 * (low - b)))).cell? ⟨R, 1, none⟩ = some (.int .i64 high) ∧ (w.setCell ⟨R, 0, none⟩ (.int .i64 (2 * (low - b)))).frozen? ⟨R, 1, none⟩ = false := fun b =>
    ⟨by rw [World.cell?_setCell_other (a := ⟨R, 0, none⟩) (b := ⟨R, 1, none⟩) (h := by simp)]; exact r1, by rw [World.frozen?_setCell]; exact f1⟩
  have fin : ∀ b : Int, ((w.setCell ⟨R, 0, none⟩ (.int .i64 (2 * (low - b)))).setCell ⟨R, 1, none⟩ (.int .i64 (2 * (high - b) + 1))).heap[R]? = some (.cells #[.int .i64 (2 * (low - b)), .int .i64 (2 * (high - b) + 1)] 75 (0, 0)) ∧ Kpt (· = R) w ((w.setCell ⟨R, 0, none⟩ (.int .i64 (2 * (low - b)))).setCell ⟨R, 1, none⟩ (.int .i64 (2 * (high - b) + 1))) := fun b =>
    ⟨blk_set1 (blk_set0 hR), ((Kpt.refl (· = R) w).set (p := ⟨R, 0, none⟩) (.inl rfl) _).set (p := ⟨R, 1, none⟩) (.inl rfl) _⟩
  clear hR
  by_cases c1 : high < 32768
  · have hbe : b = 0 := by unfold halv at hh; rw [if_pos c1] at hh; exact (Option.some.inj hh).symm
    subst hbe
    obtain ⟨k1, k2⟩ := key 0
    have Fin := Lib.hid (fin 0)
    rw [Int.sub_zero] at k1 k2
    clear hh key fin
    go_enter Try.func48, Try.ntmps48
    go_wp2
    go_ret2
    exact ⟨rfl, by have := Fin.out.1; simpa using this, by have := Fin.out.2; simpa using this⟩
  · by_cases c2 : 32768 ≤ low
    · have hbe : b = 32768 := by unfold halv at hh; rw [if_neg c1, if_pos c2] at hh; exact (Option.some.inj hh).symm
      subst hbe
      obtain ⟨k1, k2⟩ := key 32768
      have Fin := Lib.hid (fin 32768)
      clear hh key fin
      go_enter Try.func48, Try.ntmps48
      go_wp2
      go_ret2
      exact ⟨rfl, Fin.out.1, Fin.out.2⟩
    · by_cases c3 : 16384 ≤ low ∧ high < 49152
      · have hbe : b = 16384 := by unfold halv at hh; rw [if_neg c1, if_neg c2, if_pos c3] at hh; exact (Option.some.inj hh).symm
        subst hbe
        obtain ⟨k1, k2⟩ := key 16384
        have Fin := Lib.hid (fin 16384)
        obtain ⟨c31, c32⟩ := c3
        clear hh key fin
        go_enter Try.func48, Try.ntmps48
        go_wp2
        go_ret2
        exact ⟨rfl, Fin.out.1, Fin.out.2⟩
      · unfold halv at hh; rw [if_neg c1, if_neg c2, if_neg c3] at hh; cases hh
set_option maxHeartbeats 1000000 in
theorem shift_none (R : Nat) (low high : Int) (w : World) (hR : w.heap[R]? = some (.cells #[.int .i64 low, .int .i64 high] 75 (0, 0))) (hh : halv low high = none) :
    Calls Try.prog 48 #[.pointer (some ⟨R, 0, none⟩)] w fun e w' => e = .returned (.tuple #[.int .i64 0, .int .i64 (-1)]) ∧ w = w' := by
  obtain ⟨r0, r1, f0, f1⟩ := blk2 hR
  clear hR
  unfold halv at hh
  by_cases c1 : high < 32768
  · rw [if_pos c1] at hh; cases hh
  · by_cases c2 : 32768 ≤ low
    · rw [if_neg c1, if_pos c2] at hh; cases hh
    · by_cases c3 : 16384 ≤ low ∧ high < 49152
      · rw [if_neg c1, if_neg c2, if_pos c3] at hh; cases hh
      · clear hh
        by_cases c4 : 16384 ≤ low
        · have c5 : ¬ high < 49152 := fun h => c3 ⟨c4, h⟩
          clear c3
          go_enter Try.func48, Try.ntmps48
          go_wp2
          go_ret2
          exact ⟨rfl, rfl⟩
        · clear c3
          go_enter Try.func48, Try.ntmps48
          go_wp2
          go_ret2
          exact ⟨rfl, rfl⟩
/-- What a sender writes: its own block, and rows of truth values from block B on. -/
def SndF (B S : Nat) (w : World) (k : Nat) : Prop := k = S ∨ (B ≤ k ∧ ∃ cur x, w.heap[k]? = some (.cells cur 4 x))
theorem sndF_row {B S : Nat} {w wr : World} {v : Value} {n : Nat} {xs : List Value} (hk : Kpt (SndF B S w) w wr) (hr : wr.ownsRow B 4 1 v n xs) : ∀ k, v.ownBlock = some k → SndF B S w k ∨ w.heap.size ≤ k := by
  intro k e
  by_cases hlt : k < w.heap.size
  · left
    refine Classical.byContradiction fun hn => ?_
    rcases hr.2 with ⟨rfl, _⟩ | ⟨g, cap, cur, rfl, hb, hg, _⟩
    · simp [Value.ownBlock] at e
    · obtain rfl : g = k := by simpa [Value.ownBlock] using e
      rw [hk.block g hlt hn] at hg
      exact hn (.inr ⟨hb, cur, _, hg⟩)
  · right; omega
set_option maxHeartbeats 2000000 in
theorem put_any (S B : Nat) (v : Value) (b : List Bool) (bit : Bool) (wait : Nat) (w : World) (hS : w.heap[S]? = some (.cells #[v, .int .i64 wait] 77 (0, 0))) (hown : OwnB B w v b) (hB : B ≤ w.heap.size) (hl : b.length + wait ≤ 100000) :
    Calls Try.prog 49 #[.pointer (some ⟨S, 0, none⟩), .bool bit] w fun e w' => e = .returned (.tuple #[]) ∧ ∃ v', w'.heap[S]? = some (.cells #[v', .int .i64 0] 77 (0, 0)) ∧ OwnB B w' v' (b ++ tellB bit wait) ∧ Kpt (SndF B S w) w w' := by
  obtain ⟨ao, cap, rfl⟩ := hown.shape
  obtain ⟨s0, s1, f0, f1⟩ := blk2 hS
  have hSlt := blk_lt hS
  go_enter Try.func49, Try.ntmps49
  go_wp2_with (at_builtin; go_must (refine app_bools rfl _ _ rfl B 0 (Nat.zero_le _) (.slice ao b.length cap) b rfl hown (Below.refl 0 w) _ _ [bit] rfl rfl (by simp; omega) hB ?_))
  intro v1 w1 hown1 _ hg1
  have Hb1 := Lib.hid (show ∀ k, b ++ tellB bit k = (b ++ [bit]) ++ List.replicate k (!bit) from fun k => by simp [tellB])
  have Hbl := Lib.hid (show (b ++ [bit]).length = b.length + 1 by simp)
  generalize b ++ [bit] = b1 at *
  obtain ⟨ao1, cap1, rfl⟩ := hown1.shape
  have hne : (Value.slice ao b.length cap).ownBlock ≠ some S := blk_not_row hS (by decide) hown
  have hS1 := blk_grown hg1 (fun e => hne e.symm) (blk_alloc hS)
  have hk1 : Kpt (SndF B S w) w w1 := ((Kpt.refl (SndF B S w) w).alloc _).grown hg1 (sndF_row (Kpt.refl _ w) hown)
  obtain ⟨s0, s1, f0, f1⟩ := blk2 hS1
  have hne1 : (Value.slice ao1 b1.length cap1).ownBlock ≠ some S := blk_not_row hS1 (by decide) hown1
  have hS2 := blk_set0 (u := .slice ao1 b1.length cap1) hS1
  have hk2 := hk1.set (p := ⟨S, 0, none⟩) (.inl (.inl rfl)) (.slice ao1 b1.length cap1)
  have hown2 : OwnB B (w1.setCell ⟨S, 0, none⟩ (.slice ao1 b1.length cap1)) (.slice ao1 b1.length cap1) b1 := World.ownsRow.kept hown1 (grown_setCell w1 ⟨S, 0, none⟩ _) (.inr hne1)
  have s1' : (w1.setCell ⟨S, 0, none⟩ (.slice ao1 b1.length cap1)).cell? ⟨S, 1, none⟩ = some (.int .i64 wait) := (blk2 hS2).2.1
  have Hall := Lib.hid (And.intro hS2 (And.intro hown2 hk2))
  clear hown hown1 hS hS1 hS2 hg1 hk1 hk2 hown2 hne hne1
  go_wp2
  go_loopw [18] (fun i wr => ∃ (k : Nat) (v' : Value), i = .int .i64 k ∧ k ≤ wait ∧ wr.heap[S]? = some (.cells #[v', .int .i64 wait] 77 (0, 0)) ∧ OwnB B wr v' (b1 ++ List.replicate k (!bit)) ∧ Kpt (SndF B S w) w wr) (fun i _ => wait - (intOf i).toNat)
  case atStart => exact ⟨0, _, rfl, Nat.zero_le _, Hall.out.1, by rw [List.replicate_zero, List.append_nil]; exact Hall.out.2.1, Hall.out.2.2⟩
  case round =>
    clear s0 s1 f0 f1 s1'
    obtain ⟨k, v', rfl, hk, hS, hown, hkp⟩ := hrel
    obtain ⟨ao, cap, rfl⟩ := hown.shape
    obtain ⟨s0, s1, f0, f1⟩ := blk2 hS
    by_cases hkw : k < wait
    · have hBr : B ≤ wr.heap.size := Nat.le_trans hB hkp.size
      have Hsn := Lib.hid (show (b1 ++ List.replicate k (!bit)) ++ [!bit] = b1 ++ List.replicate (k + 1) (!bit) by rw [List.append_assoc, ← List.replicate_succ'])
      have hll : (b1 ++ List.replicate k (!bit)).length ≤ 100001 := by have := Hbl.out; simp; omega
      generalize b1 ++ List.replicate k (!bit) = bk at *
      go_wp2_with (at_builtin; go_must (refine app_bools rfl _ _ rfl B 0 (Nat.zero_le _) (.slice ao bk.length cap) bk rfl hown (Below.refl 0 wr) _ _ [!bit] rfl rfl (by simp; omega) hBr ?_))
      intro v1 w1 hown1 _ hg1
      generalize bk ++ [!bit] = bk1 at *
      obtain ⟨ao1, cap1, rfl⟩ := hown1.shape
      have hne : (Value.slice ao bk.length cap).ownBlock ≠ some S := blk_not_row hS (by decide) hown
      have hS1 := blk_grown hg1 (fun e => hne e.symm) (blk_alloc hS)
      have hk1 : Kpt (SndF B S w) w w1 := (hkp.alloc _).grown hg1 (sndF_row hkp hown)
      obtain ⟨s0, s1, f0, f1⟩ := blk2 hS1
      have hne1 : (Value.slice ao1 bk1.length cap1).ownBlock ≠ some S := blk_not_row hS1 (by decide) hown1
      have hS2 := blk_set0 (u := .slice ao1 bk1.length cap1) hS1
      have hk2 := hk1.set (p := ⟨S, 0, none⟩) (.inl (.inl rfl)) (.slice ao1 bk1.length cap1)
      have hown2 : OwnB B (w1.setCell ⟨S, 0, none⟩ (.slice ao1 bk1.length cap1)) (.slice ao1 bk1.length cap1) bk1 := World.ownsRow.kept hown1 (grown_setCell w1 ⟨S, 0, none⟩ _) (.inr hne1)
      have Hal2 := Lib.hid (And.intro hS2 (And.intro hown2 hk2))
      clear hown hown1 hS hS1 hS2 hg1 hk1 hk2 hown2 hne hne1 hkp
      go_wp2
      go_roundw
      case rel => exact ⟨k + 1, _, by go_num, by omega, Hal2.out.1, by rw [← Hsn.out]; exact Hal2.out.2.1, Hal2.out.2.2⟩
      case measure => simp [intOf] <;> omega
    · have hkw2 : k = wait := by omega
      subst hkw2
      have hne : (Value.slice ao (b1 ++ List.replicate k (!bit)).length cap).ownBlock ≠ some S := blk_not_row hS (by decide) hown
      have hS3 := blk_set1 (u := .int .i64 0) hS
      have hk3 := hkp.set (p := ⟨S, 1, none⟩) (.inl (.inl rfl)) (.int .i64 0)
      have hown3 : OwnB B (wr.setCell ⟨S, 1, none⟩ (.int .i64 0)) (.slice ao (b1 ++ List.replicate k (!bit)).length cap) (b1 ++ List.replicate k (!bit)) := World.ownsRow.kept hown (grown_setCell wr ⟨S, 1, none⟩ _) (.inr hne)
      have Hal3 := Lib.hid (And.intro hS3 (And.intro hown3 hk3))
      clear hS hown hkp hne hS3 hk3 hown3
      go_wp2
      go_end0
      exact ⟨rfl, _, Hal3.out.1, by rw [Hb1.out]; exact Hal3.out.2.1, Hal3.out.2.2⟩
end Go.Proofs.Ytbhconogaoghmaa
