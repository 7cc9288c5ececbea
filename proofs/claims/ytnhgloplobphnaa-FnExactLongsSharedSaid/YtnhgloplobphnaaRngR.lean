/- Ranges of letters, in the reference: a range is narrowed to a letter, doubled, bits are told. Conditions: counts of at least 1, not above 16384 in all; a range of 16 bits. -/
import Derived.Test.YtnhgloplobphnaaRngJ
import Derived.Deep.LoopGhost
import Derived.Handy
namespace Go.Proofs.Ytnhgloplobphnaa
open Go.RowKit
set_option maxRecDepth 100000
set_option linter.unusedVariables false
set_option linter.unusedSimpArgs false
attribute [local go_sem ↓] Go.wp_at_zero Go.wp_at_succ

theorem blk4 {W : World} {b : Nat} {x y z u : Value} {t : TypeId} (h : W.heap[b]? = some (.cells #[x, y, z, u] t (0, 0))) :
    (W.cell? ⟨b, 0, none⟩ = some x ∧ W.cell? ⟨b, 1, none⟩ = some y ∧ W.cell? ⟨b, 2, none⟩ = some z ∧ W.cell? ⟨b, 3, none⟩ = some u) ∧ ∀ i, W.frozen? ⟨b, i, none⟩ = false :=
  ⟨⟨by rw [cell_of_row _ _ _ _ _ _ h]; rfl, by rw [cell_of_row _ _ _ _ _ _ h]; rfl, by rw [cell_of_row _ _ _ _ _ _ h]; rfl, by rw [cell_of_row _ _ _ _ _ _ h]; rfl⟩, fun i => frozen_of_row _ _ _ _ _ h⟩
theorem four0 {W : World} {b : Nat} {x y z u v : Value} {t : TypeId} (h : W.heap[b]? = some (.cells #[x, y, z, u] t (0, 0))) : (W.setCell ⟨b, 0, none⟩ v).heap[b]? = some (.cells #[v, y, z, u] t (0, 0)) :=
  heap_setCell_same W b 0 #[x, y, z, u] t v h
theorem four1 {W : World} {b : Nat} {x y z u v : Value} {t : TypeId} (h : W.heap[b]? = some (.cells #[x, y, z, u] t (0, 0))) : (W.setCell ⟨b, 1, none⟩ v).heap[b]? = some (.cells #[x, v, z, u] t (0, 0)) :=
  heap_setCell_same W b 1 #[x, y, z, u] t v h
theorem four2 {W : World} {b : Nat} {x y z u v : Value} {t : TypeId} (h : W.heap[b]? = some (.cells #[x, y, z, u] t (0, 0))) : (W.setCell ⟨b, 2, none⟩ v).heap[b]? = some (.cells #[x, y, v, u] t (0, 0)) :=
  heap_setCell_same W b 2 #[x, y, z, u] t v h
theorem four3 {W : World} {b : Nat} {x y z u v : Value} {t : TypeId} (h : W.heap[b]? = some (.cells #[x, y, z, u] t (0, 0))) : (W.setCell ⟨b, 3, none⟩ v).heap[b]? = some (.cells #[x, y, z, v] t (0, 0)) :=
  heap_setCell_same W b 3 #[x, y, z, u] t v h
theorem sndF_next {B S : Nat} {w wr w' : World} (hk : Kpt (SndF B S w) w wr) (k : Kpt (SndF B S wr) wr w') : Kpt (SndF B S w) w w' := by
  refine hk.next k fun i hi => ?_
  by_cases hlt : i < w.heap.size
  · left
    refine Classical.byContradiction fun hn => ?_
    rcases hi with e | ⟨hb, cur, x, hg⟩
    · exact hn (.inl e)
    · rw [hk.block i hlt hn] at hg
      exact hn (.inr ⟨hb, cur, x, hg⟩)
  · right; omega
theorem befo_small {cs : List Int} (hp : Pos cs) (hs : sumL cs ≤ 16384) (k : Nat) : 0 ≤ befo cs k ∧ befo cs k ≤ 16384 := by have := befo_bd hp k; omega
set_option maxHeartbeats 1000000 in
theorem l05Before_any (v : Value) (cs : List Int) (B l : Nat) (w : World) (h : RI w v cs) (c1 : w.cell? ⟨B, 1, none⟩ = some v) (hp : Pos cs) (hs : sumL cs ≤ 16384) (hl : l ≤ cs.length) (hcl : cs.length ≤ 16) :
    Calls Try.prog 36 #[.pointer (some ⟨B, 0, none⟩), .int .i64 l] w fun e w' => e = .returned (.int .i64 (befo cs l)) ∧ w = w' := by
  obtain ⟨_, ao, cap, rfl, h1, h2, h3⟩ := h
  have Hb := Lib.hid (befo_small hp hs)
  have Hn := Lib.hid (fun k (hk : k < cs.length) => befo_succ (cs := cs) hk)
  clear hp hs
  go_enter Try.func36, Try.ntmps36
  go_wp2
  go_loop [5, 6] (fun s i => ∃ k : Nat, k ≤ l ∧ i = .int .i64 k ∧ s = .int .i64 (befo cs k)) (fun _ i => l - (intOf i).toNat)
  case atStart => exact ⟨0, Nat.zero_le _, rfl, rfl⟩
  case round =>
    obtain ⟨k, hk, rfl, rfl⟩ := hrel
    have hb := Hb.out k
    by_cases hlt : k < l
    · have hkl : k < cs.length := by omega
      obtain ⟨b, off, rfl, hc⟩ := h3 k hkl
      have hb2 := Hb.out (k + 1)
      have Hs := Lib.hid (Hn.out k hkl)
      rw [Hs.out] at hb2
      rw [← git_eq hkl] at hc
      clear h3
      generalize git cs k = z at *
      generalize befo cs k = be at *
      go_wp2
      go_round
      case rel => exact ⟨k + 1, by omega, by go_num, by rw [Hs.out]⟩
      case measure => simp [intOf]; omega
    · obtain rfl : k = l := by omega
      clear hb h3
      go_wp2
      go_ret
      exact ⟨rfl, rfl⟩
set_option maxHeartbeats 4000000 in
theorem l05Narrow_any (A R : Nat) (v bv : Value) (cs : List Int) (l : Nat) (low high : Int) (wait : Int) (w : World) (h : RI w v cs) (c1 : w.cell? ⟨A, 1, none⟩ = some v) (hp : Pos cs) (hs : sumL cs ≤ 16384) (hl : l < cs.length) (hcl : cs.length ≤ 16)
    (hR : w.heap[R]? = some (.cells #[.int .i64 low, .int .i64 high, .int .i64 wait, bv] 47 (0, 0))) (h0 : 0 ≤ low) (h1 : low ≤ high) (h2 : high ≤ 65535) :
    Calls Try.prog 27 #[.pointer (some ⟨R, 0, none⟩), .pointer (some ⟨A, 0, none⟩), .int .i64 l] w fun e w' => e = .returned (.tuple #[]) ∧ w'.heap[R]? = some (.cells #[.int .i64 (nLow cs l low high), .int .i64 (nHigh cs l low high), .int .i64 wait, bv] 47 (0, 0)) ∧ Kpt (· = R) w w' := by
  obtain ⟨ao, cap, rfl⟩ := h.shape
  have hlen := h.len
  obtain ⟨b0, o0, e0, -, hcs⟩ := h.2.cells (by omega)
  obtain rfl := e0
  have hcl0 := hcs l hl
  have hpb := prod_bd hp hs hl h0 h1 h2
  have hbb := befo_bd hp l
  have hbn := befo_next hp hl
  have hsp := sumL_pos hp
  obtain ⟨⟨r0, r1, r2, r3⟩, hf⟩ := blk4 hR
  have f0 := hf 0
  have f1 := hf 1
  have HL := Lib.hid (show nLow cs l low high = low + (high - low + 1) * befo cs l / sumL cs from rfl)
  have HH := Lib.hid (show nHigh cs l low high = low + (high - low + 1) * (befo cs l + git cs l) / sumL cs - 1 from rfl)
  have Hsm := Lib.hid (pos_small hp hs)
  have HRI := Lib.hid h
  rw [← git_eq hl] at hcl0
  have hA1 := l05Before_any _ cs A l w h c1 hp hs (by omega) hcl
  have hA2 := l05Total_any 0 _ cs A w h c1 (pos_small hp hs) (by omega)
  obtain ⟨T, hT⟩ : ∃ T, sumL cs = T := ⟨_, rfl⟩
  obtain ⟨be, hbe⟩ : ∃ be, befo cs l = be := ⟨_, rfl⟩
  obtain ⟨c, hc⟩ : ∃ c, git cs l = c := ⟨_, rfl⟩
  rw [hbe] at hpb hbb hbn HL HH hA1
  rw [hc] at hpb hbn HH hcl0
  rw [hT] at hbb hbn HL HH hsp hA2
  have hTs : T ≤ 16384 := by rw [← hT]; exact hs
  obtain ⟨wd, hwd⟩ : ∃ wd, high - low + 1 = wd := ⟨_, rfl⟩
  rw [hwd] at hpb HL HH
  have hwd1 : 1 ≤ wd := by omega
  have hwd2 : wd ≤ 65536 := by omega
  have Hwd := Lib.hid hwd
  have HA1 := Lib.hid hA1
  have HA2 := Lib.hid hA2
  clear hT hbe hc h hcs hp hs hwd hA1 hA2 hf
  have hv1 : IntKind.i64.wrap (high - low) = high - low := IntWalk.i64_in _ (by omega)
  have hv2 : IntKind.i64.wrap (high - low + 1) = wd := by rw [Hwd.out]; exact IntWalk.i64_in _ (by omega)
  obtain ⟨q1, hq1⟩ : ∃ q1, wd * (be + c) / T = q1 := ⟨_, rfl⟩
  obtain ⟨q2, hq2⟩ : ∃ q2, wd * be / T = q2 := ⟨_, rfl⟩
  have hT0 : 0 < T := by omega
  have hTne : T ≠ 0 := by omega
  have hd1 := div_top (w := wd) hT0 (by omega) hbn.2 (by omega)
  have hd2 := div_top (w := wd) hT0 (by omega) hbb.2 hbb.1
  rw [hq1] at hd1 HH
  rw [hq2] at hd2 HL
  have hv3 : IntKind.i64.wrap (be + c) = be + c := IntWalk.i64_in _ (by omega)
  have hv4 : IntKind.i64.wrap (wd * (be + c)) = wd * (be + c) := IntWalk.i64_in _ (by omega)
  have ht1 : (wd * (be + c)).tdiv T = q1 := by rw [Int.tdiv_eq_ediv_of_nonneg hpb.2.2.1]; exact hq1
  have ht2 : (wd * be).tdiv T = q2 := by rw [Int.tdiv_eq_ediv_of_nonneg hpb.1]; exact hq2
  have hv5 : IntKind.i64.wrap q1 = q1 := IntWalk.i64_in _ (by omega)
  have hv6 : IntKind.i64.wrap (low + q1) = low + q1 := IntWalk.i64_in _ (by omega)
  have hv7 : IntKind.i64.wrap (low + q1 - 1) = low + q1 - 1 := IntWalk.i64_in _ (by omega)
  have hv8 : IntKind.i64.wrap (wd * be) = wd * be := IntWalk.i64_in _ (by omega)
  have hv9 : IntKind.i64.wrap q2 = q2 := IntWalk.i64_in _ (by omega)
  have hv10 : IntKind.i64.wrap (low + q2) = low + q2 := IntWalk.i64_in _ (by omega)
  have hl0 : (0 : Int) ≤ (l : Int) := by omega
  have hll : (l : Int) < (cs.length : Int) := by omega
  have Hend := Lib.hid (And.intro (show nLow cs l low high = low + q2 from HL.out) (show nHigh cs l low high = low + q1 - 1 from HH.out))
  have Hfin := Lib.hid (show ∀ m : Nat, ((((w.drewN m).setCell ⟨R, 1, none⟩ (.int .i64 (low + q1 - 1))).setCell ⟨R, 0, none⟩ (.int .i64 (low + q2))).drew).heap[R]? = some (.cells #[.int .i64 (low + q2), .int .i64 (low + q1 - 1), .int .i64 wait, bv] 47 (0, 0)) ∧ Kpt (· = R) w (((w.drewN m).setCell ⟨R, 1, none⟩ (.int .i64 (low + q1 - 1))).setCell ⟨R, 0, none⟩ (.int .i64 (low + q2))).drew from fun m =>
    ⟨four0 (four1 hR), ((((Kpt.refl (· = R) w).drewN m).set (p := ⟨R, 1, none⟩) (.inl rfl) (.int .i64 (low + q1 - 1))).set (p := ⟨R, 0, none⟩) (.inl rfl) (.int .i64 (low + q2))).drew⟩)
  clear hq1 hq2 HL HH hR hpb
  go_enter Try.func27, Try.ntmps27
  go_wp2_with (first | (go_at_call 36; refine HA1.out.mono ?_; rintro e w' ⟨rfl, rfl⟩) | (go_at_call 37; refine HA2.out.mono ?_; rintro e w' ⟨rfl, rfl⟩))
  go_quiet (fail)
  go_wp2_with fail
  refine wp_region_held_tail 20 (S := fun W' => W'.cell? ⟨A, 1, none⟩ = some (.slice (some ⟨b0, o0, none⟩) cs.length cap) ∧ W'.cell? ⟨R, 0, none⟩ = some (.int .i64 low) ∧ W'.cell? ⟨b0, o0 + l, none⟩ = some (.int .i64 c)) (by kernel_rfl) (by decide +kernel) ?_ (fun hHeld => ?_)
  · (try go_split_ands); refine ⟨?_, ?_, ?_⟩ <;> first | assumption | exact cnext (by assumption) (by assumption) | exact bnext (by assumption) (by assumption) | exact Below.alloc (by assumption) (Below.size (by assumption)) _ | (go_keep; done)
  simp only [List.take_succ_cons, List.take_zero, List.drop_succ_cons, List.drop_zero, List.length_cons, List.length_nil, Nat.reduceAdd]
  refine wpAnyH_tk (i := 0) (v := ?_) (some 24) rfl rfl (by kernel_rfl) (by decide +kernel) (by decide +kernel) (fun _ _ _ h => h) (by kernel_rfl) ?_ hHeld ?_
  rotate_left
  · (intro w hSw; (try dsimp only at hSw); go_simp <;> with_reducible rfl)
  (try simp only [Act.put, List.setIfInBounds_toArray, List.set_cons_zero, List.set_cons_succ])
  refine wpAnyH_tk (i := 1) (v := ?_) (some 25) rfl rfl (by kernel_rfl) (by decide +kernel) (by decide +kernel) (fun _ _ _ h => h) (by kernel_rfl) ?_ hHeld ?_
  rotate_left
  · (intro w hSw; (try dsimp only at hSw); go_simp <;> with_reducible rfl)
  (try simp only [Act.put, List.setIfInBounds_toArray, List.set_cons_zero, List.set_cons_succ])
  refine wpAnyH_tk (i := 2) (v := ?_) (some 26) rfl rfl (by kernel_rfl) (by decide +kernel) (by decide +kernel) (fun _ _ _ h => h) (by kernel_rfl) ?_ hHeld ?_
  rotate_left
  · (intro w hSw; (try dsimp only at hSw); go_simp <;> with_reducible rfl)
  (try simp only [Act.put, List.setIfInBounds_toArray, List.set_cons_zero, List.set_cons_succ])
  refine wpAnyH_tk (i := 3) (v := ?_) (some 27) rfl rfl (by kernel_rfl) (by decide +kernel) (by decide +kernel) (fun _ _ _ h => h) (by kernel_rfl) ?_ hHeld ?_
  rotate_left
  · (intro w hSw; (try dsimp only at hSw); go_simp <;> with_reducible rfl)
  (try simp only [Act.put, List.setIfInBounds_toArray, List.set_cons_zero, List.set_cons_succ])
  refine wpAnyH_tk (i := 4) (v := ?_) (some 28) rfl rfl (by kernel_rfl) (by decide +kernel) (by decide +kernel) (fun _ _ _ h => h) (by kernel_rfl) ?_ hHeld ?_
  rotate_left
  · (intro w hSw; (try dsimp only at hSw); go_simp <;> with_reducible rfl)
  (try simp only [Act.put, List.setIfInBounds_toArray, List.set_cons_zero, List.set_cons_succ])
  refine wpAnyH_tk (i := 5) (v := ?_) (some 29) rfl rfl (by kernel_rfl) (by decide +kernel) (by decide +kernel) (fun _ _ _ h => h) (by kernel_rfl) ?_ hHeld ?_
  rotate_left
  · (intro w hSw; (try dsimp only at hSw); go_simp <;> with_reducible rfl)
  (try simp only [Act.put, List.setIfInBounds_toArray, List.set_cons_zero, List.set_cons_succ])
  refine wpAnyH_tk (i := 6) (v := ?_) (some 30) rfl rfl (by kernel_rfl) (by decide +kernel) (by decide +kernel) (fun _ _ _ h => h) (by kernel_rfl) ?_ hHeld ?_
  rotate_left
  · (intro w hSw; (try dsimp only at hSw); go_simp <;> with_reducible rfl)
  (try simp only [Act.put, List.setIfInBounds_toArray, List.set_cons_zero, List.set_cons_succ])
  refine wpAnyH_tk (i := 7) (v := ?_) (some 31) rfl rfl (by kernel_rfl) (by decide +kernel) (by decide +kernel) (fun _ _ _ h => h) (by kernel_rfl) ?_ hHeld ?_
  rotate_left
  · (intro w hSw; (try dsimp only at hSw); go_simp <;> with_reducible rfl)
  (try simp only [Act.put, List.setIfInBounds_toArray, List.set_cons_zero, List.set_cons_succ])
  refine wpAnyH_tk (i := 8) (v := ?_) (some 32) rfl rfl (by kernel_rfl) (by decide +kernel) (by decide +kernel) (fun _ _ _ h => h) (by kernel_rfl) ?_ hHeld ?_
  rotate_left
  · (intro w hSw; (try dsimp only at hSw); go_simp <;> with_reducible rfl)
  (try simp only [Act.put, List.setIfInBounds_toArray, List.set_cons_zero, List.set_cons_succ])
  refine wpAnyH_tk (i := 9) (v := ?_) (some 33) rfl rfl (by kernel_rfl) (by decide +kernel) (by decide +kernel) (fun _ _ _ h => h) (by kernel_rfl) ?_ hHeld ?_
  rotate_left
  · (intro w hSw; (try dsimp only at hSw); go_simp <;> with_reducible rfl)
  (try simp only [Act.put, List.setIfInBounds_toArray, List.set_cons_zero, List.set_cons_succ])
  refine wpAnyH_tk (i := 10) (v := ?_) (some 34) rfl rfl (by kernel_rfl) (by decide +kernel) (by decide +kernel) (fun _ _ _ h => h) (by kernel_rfl) ?_ hHeld ?_
  rotate_left
  · (intro w hSw; (try dsimp only at hSw); go_simp <;> with_reducible rfl)
  (try simp only [Act.put, List.setIfInBounds_toArray, List.set_cons_zero, List.set_cons_succ])
  refine wpAnyH_tk (i := 11) (v := ?_) (some 35) rfl rfl (by kernel_rfl) (by decide +kernel) (by decide +kernel) (fun _ _ _ h => h) (by kernel_rfl) ?_ hHeld ?_
  rotate_left
  · (intro w hSw; (try dsimp only at hSw); go_simp <;> with_reducible rfl)
  (try simp only [Act.put, List.setIfInBounds_toArray, List.set_cons_zero, List.set_cons_succ])
  refine wpAnyH_tk (i := 12) (v := ?_) (some 36) rfl rfl (by kernel_rfl) (by decide +kernel) (by decide +kernel) (fun _ _ _ h => h) (by kernel_rfl) ?_ hHeld ?_
  rotate_left
  · (intro w hSw; (try dsimp only at hSw); go_simp <;> with_reducible rfl)
  (try simp only [Act.put, List.setIfInBounds_toArray, List.set_cons_zero, List.set_cons_succ])
  refine wpAnyH_tk (i := 13) (v := ?_) (some 37) rfl rfl (by kernel_rfl) (by decide +kernel) (by decide +kernel) (fun _ _ _ h => h) (by kernel_rfl) ?_ hHeld ?_
  rotate_left
  · (intro w hSw; (try dsimp only at hSw); go_simp <;> with_reducible rfl)
  (try simp only [Act.put, List.setIfInBounds_toArray, List.set_cons_zero, List.set_cons_succ])
  refine wpAnyH_tk (i := 14) (v := ?_) (some 38) rfl rfl (by kernel_rfl) (by decide +kernel) (by decide +kernel) (fun _ _ _ h => h) (by kernel_rfl) ?_ hHeld ?_
  rotate_left
  · (intro w hSw; (try dsimp only at hSw); go_simp <;> with_reducible rfl)
  (try simp only [Act.put, List.setIfInBounds_toArray, List.set_cons_zero, List.set_cons_succ])
  refine wpAnyH_tk (i := 15) (v := ?_) (some 39) rfl rfl (by kernel_rfl) (by decide +kernel) (by decide +kernel) (fun _ _ _ h => h) (by kernel_rfl) ?_ hHeld ?_
  rotate_left
  · (intro w hSw; (try dsimp only at hSw); go_simp <;> with_reducible rfl)
  (try simp only [Act.put, List.setIfInBounds_toArray, List.set_cons_zero, List.set_cons_succ])
  refine wpAnyH_tk (i := 16) (v := ?_) (some 40) rfl rfl (by kernel_rfl) (by decide +kernel) (by decide +kernel) (fun _ _ _ h => h) (by kernel_rfl) ?_ hHeld ?_
  rotate_left
  · (intro w hSw; (try dsimp only at hSw); go_simp <;> with_reducible rfl)
  (try simp only [Act.put, List.setIfInBounds_toArray, List.set_cons_zero, List.set_cons_succ])
  refine wpAnyH_tk (i := 17) (v := ?_) (some 41) rfl rfl (by kernel_rfl) (by decide +kernel) (by decide +kernel) (fun _ _ _ h => h) (by kernel_rfl) ?_ hHeld ?_
  rotate_left
  · (intro w hSw; (try dsimp only at hSw); go_simp <;> with_reducible rfl)
  (try simp only [Act.put, List.setIfInBounds_toArray, List.set_cons_zero, List.set_cons_succ])
  refine wpAnyH_tk (i := 18) (v := ?_) (some 42) rfl rfl (by kernel_rfl) (by decide +kernel) (by decide +kernel) (fun _ _ _ h => h) (by kernel_rfl) ?_ hHeld ?_
  rotate_left
  · (intro w hSw; (try dsimp only at hSw); go_simp <;> with_reducible rfl)
  (try simp only [Act.put, List.setIfInBounds_toArray, List.set_cons_zero, List.set_cons_succ])
  refine wpAnyH_tk (i := 19) (v := ?_) (some 43) rfl rfl (by kernel_rfl) (by decide +kernel) (by decide +kernel) (fun _ _ _ h => h) (by kernel_rfl) ?_ hHeld ?_
  rotate_left
  · (intro w hSw; (try dsimp only at hSw); go_simp <;> with_reducible rfl)
  (try simp only [Act.put, List.setIfInBounds_toArray, List.set_cons_zero, List.set_cons_succ])
  refine wpAnyH_done (by kernel_rfl) ?_ _
  show wpList _ _ _ _ _ _
  clear hHeld
  have r0' : ∀ m, ((w.drewN m).setCell ⟨R, 1, none⟩ (.int .i64 (low + q1 - 1))).cell? ⟨R, 0, none⟩ = some (.int .i64 low) := fun m => by rw [World.cell?_setCell_other (a := ⟨R, 1, none⟩) (b := ⟨R, 0, none⟩) (h := by simp)]; exact r0
  have f0' : ∀ m, ((w.drewN m).setCell ⟨R, 1, none⟩ (.int .i64 (low + q1 - 1))).frozen? ⟨R, 0, none⟩ = false := fun m => by rw [World.frozen?_setCell]; exact f0
  go_wp2_with fail
  refine wp_region_held_tail 11 (S := fun W' => W'.cell? ⟨R, 0, none⟩ = some (.int .i64 low)) (by kernel_rfl) (by decide +kernel) ?_ (fun hHeld => ?_)
  · (first | assumption | exact r0' _ | (go_keep; done))
  simp only [List.take_succ_cons, List.take_zero, List.drop_succ_cons, List.drop_zero, List.length_cons, List.length_nil, Nat.reduceAdd]
  refine wpAnyH_tk (i := 0) (v := ?_) (some 46) rfl rfl (by kernel_rfl) (by decide +kernel) (by decide +kernel) (fun _ _ _ h => h) (by kernel_rfl) ?_ hHeld ?_
  rotate_left
  · (intro w hSw; (try dsimp only at hSw); go_simp <;> with_reducible rfl)
  (try simp only [Act.put, List.setIfInBounds_toArray, List.set_cons_zero, List.set_cons_succ])
  refine wpAnyH_tk (i := 1) (v := ?_) (some 47) rfl rfl (by kernel_rfl) (by decide +kernel) (by decide +kernel) (fun _ _ _ h => h) (by kernel_rfl) ?_ hHeld ?_
  rotate_left
  · (intro w hSw; (try dsimp only at hSw); go_simp <;> with_reducible rfl)
  (try simp only [Act.put, List.setIfInBounds_toArray, List.set_cons_zero, List.set_cons_succ])
  refine wpAnyH_tk (i := 2) (v := ?_) (some 48) rfl rfl (by kernel_rfl) (by decide +kernel) (by decide +kernel) (fun _ _ _ h => h) (by kernel_rfl) ?_ hHeld ?_
  rotate_left
  · (intro w hSw; (try dsimp only at hSw); go_simp <;> with_reducible rfl)
  (try simp only [Act.put, List.setIfInBounds_toArray, List.set_cons_zero, List.set_cons_succ])
  refine wpAnyH_tk (i := 3) (v := ?_) (some 49) rfl rfl (by kernel_rfl) (by decide +kernel) (by decide +kernel) (fun _ _ _ h => h) (by kernel_rfl) ?_ hHeld ?_
  rotate_left
  · (intro w hSw; (try dsimp only at hSw); go_simp <;> with_reducible rfl)
  (try simp only [Act.put, List.setIfInBounds_toArray, List.set_cons_zero, List.set_cons_succ])
  refine wpAnyH_tk (i := 4) (v := ?_) (some 50) rfl rfl (by kernel_rfl) (by decide +kernel) (by decide +kernel) (fun _ _ _ h => h) (by kernel_rfl) ?_ hHeld ?_
  rotate_left
  · (intro w hSw; (try dsimp only at hSw); go_simp <;> with_reducible rfl)
  (try simp only [Act.put, List.setIfInBounds_toArray, List.set_cons_zero, List.set_cons_succ])
  refine wpAnyH_tk (i := 5) (v := ?_) (some 51) rfl rfl (by kernel_rfl) (by decide +kernel) (by decide +kernel) (fun _ _ _ h => h) (by kernel_rfl) ?_ hHeld ?_
  rotate_left
  · (intro w hSw; (try dsimp only at hSw); go_simp <;> with_reducible rfl)
  (try simp only [Act.put, List.setIfInBounds_toArray, List.set_cons_zero, List.set_cons_succ])
  refine wpAnyH_tk (i := 6) (v := ?_) (some 52) rfl rfl (by kernel_rfl) (by decide +kernel) (by decide +kernel) (fun _ _ _ h => h) (by kernel_rfl) ?_ hHeld ?_
  rotate_left
  · (intro w hSw; (try dsimp only at hSw); go_simp <;> with_reducible rfl)
  (try simp only [Act.put, List.setIfInBounds_toArray, List.set_cons_zero, List.set_cons_succ])
  refine wpAnyH_tk (i := 7) (v := ?_) (some 53) rfl rfl (by kernel_rfl) (by decide +kernel) (by decide +kernel) (fun _ _ _ h => h) (by kernel_rfl) ?_ hHeld ?_
  rotate_left
  · (intro w hSw; (try dsimp only at hSw); go_simp <;> with_reducible rfl)
  (try simp only [Act.put, List.setIfInBounds_toArray, List.set_cons_zero, List.set_cons_succ])
  refine wpAnyH_tk (i := 8) (v := ?_) (some 54) rfl rfl (by kernel_rfl) (by decide +kernel) (by decide +kernel) (fun _ _ _ h => h) (by kernel_rfl) ?_ hHeld ?_
  rotate_left
  · (intro w hSw; (try dsimp only at hSw); go_simp <;> with_reducible rfl)
  (try simp only [Act.put, List.setIfInBounds_toArray, List.set_cons_zero, List.set_cons_succ])
  refine wpAnyH_tk (i := 9) (v := ?_) (some 55) rfl rfl (by kernel_rfl) (by decide +kernel) (by decide +kernel) (fun _ _ _ h => h) (by kernel_rfl) ?_ hHeld ?_
  rotate_left
  · (intro w hSw; (try dsimp only at hSw); go_simp <;> with_reducible rfl)
  (try simp only [Act.put, List.setIfInBounds_toArray, List.set_cons_zero, List.set_cons_succ])
  refine wpAnyH_tk (i := 10) (v := ?_) (some 56) rfl rfl (by kernel_rfl) (by decide +kernel) (by decide +kernel) (fun _ _ _ h => h) (by kernel_rfl) ?_ hHeld ?_
  rotate_left
  · (intro w hSw; (try dsimp only at hSw); go_simp <;> with_reducible rfl)
  (try simp only [Act.put, List.setIfInBounds_toArray, List.set_cons_zero, List.set_cons_succ])
  refine wpAnyH_done (by kernel_rfl) ?_ _
  show wpList _ _ _ _ _ _
  clear hHeld
  go_wp2
  go_end0
  exact ⟨rfl, by rw [Hend.out.1, Hend.out.2]; exact (Hfin.out _).1, (Hfin.out _).2⟩
set_option maxHeartbeats 1000000 in
theorem l05Halve_any (R : Nat) (low high : Int) (wait : Int) (bv : Value) (w : World) (hR : w.heap[R]? = some (.cells #[.int .i64 low, .int .i64 high, .int .i64 wait, bv] 47 (0, 0))) :
    Calls Try.prog 38 #[.pointer (some ⟨R, 0, none⟩)] w fun e w' => e = .returned (.tuple #[.int .i64 ((halv low high).getD 0), .bool (halv low high).isSome]) ∧ w = w' := by
  obtain ⟨⟨r0, r1, r2, r3⟩, -⟩ := blk4 hR
  clear hR
  by_cases c1 : high < 32768
  · have hh : halv low high = some 0 := by unfold halv; rw [if_pos c1]
    rw [hh]; clear hh
    go_enter Try.func38, Try.ntmps38
    go_wp2
    go_ret2
    exact ⟨rfl, rfl⟩
  · by_cases c2 : 32768 ≤ low
    · have hh : halv low high = some 32768 := by unfold halv; rw [if_neg c1, if_pos c2]
      rw [hh]; clear hh
      go_enter Try.func38, Try.ntmps38
      go_wp2
      go_ret2
      exact ⟨rfl, rfl⟩
    · by_cases c3 : 16384 ≤ low
      · by_cases c4 : high < 49152
        · have hh : halv low high = some 16384 := by unfold halv; rw [if_neg c1, if_neg c2, if_pos ⟨c3, c4⟩]
          rw [hh]; clear hh
          go_enter Try.func38, Try.ntmps38
          go_wp2
          go_ret2
          exact ⟨rfl, rfl⟩
        · have hh : halv low high = none := by unfold halv; rw [if_neg c1, if_neg c2, if_neg (fun h => c4 h.2)]
          rw [hh]; clear hh
          go_enter Try.func38, Try.ntmps38
          go_wp2
          go_ret2
          exact ⟨rfl, rfl⟩
      · have hh : halv low high = none := by unfold halv; rw [if_neg c1, if_neg c2, if_neg (fun h => c3 h.1)]
        rw [hh]; clear hh
        go_enter Try.func38, Try.ntmps38
        go_wp2
        go_ret2
        exact ⟨rfl, rfl⟩
set_option maxHeartbeats 2000000 in
theorem l05Tell_any (R B : Nat) (low high : Int) (v : Value) (b : List Bool) (bit : Bool) (wait : Nat) (w : World) (hS : w.heap[R]? = some (.cells #[.int .i64 low, .int .i64 high, .int .i64 wait, v] 47 (0, 0))) (hown : OwnB B w v b) (hB : B ≤ w.heap.size) (hl : b.length + wait ≤ 100000) :
    Calls Try.prog 29 #[.pointer (some ⟨R, 0, none⟩), .bool bit] w fun e w' => e = .returned (.tuple #[]) ∧ ∃ v', w'.heap[R]? = some (.cells #[.int .i64 low, .int .i64 high, .int .i64 0, v'] 47 (0, 0)) ∧ OwnB B w' v' (b ++ tellB bit wait) ∧ Kpt (SndF B R w) w w' := by
  obtain ⟨ao, cap, rfl⟩ := hown.shape
  obtain ⟨⟨s0, s1, s2, s3⟩, hf⟩ := blk4 hS
  have f2 := hf 2
  have f3 := hf 3
  have hSlt := blk_lt hS
  clear hf
  go_enter Try.func29, Try.ntmps29
  go_wp2_with (at_builtin; go_must (refine app_bools rfl _ _ rfl B 0 (Nat.zero_le _) (.slice ao b.length cap) b rfl hown (Below.refl 0 w) _ _ [bit] rfl rfl (by simp; omega) hB ?_))
  intro v1 w1 hown1 _ hg1
  have Hb1 := Lib.hid (show ∀ k, b ++ tellB bit k = (b ++ [bit]) ++ List.replicate k (!bit) from fun k => by simp [tellB])
  have Hbl := Lib.hid (show (b ++ [bit]).length = b.length + 1 by simp)
  generalize b ++ [bit] = b1 at *
  obtain ⟨ao1, cap1, rfl⟩ := hown1.shape
  have hne : (Value.slice ao b.length cap).ownBlock ≠ some R := blk_not_row hS (by decide) hown
  have hS1 := blk_grown hg1 (fun e => hne e.symm) (blk_alloc hS)
  have hk1 : Kpt (SndF B R w) w w1 := ((Kpt.refl (SndF B R w) w).alloc _).grown hg1 (sndF_row (Kpt.refl _ w) hown)
  have hne1 : (Value.slice ao1 b1.length cap1).ownBlock ≠ some R := blk_not_row hS1 (by decide) hown1
  have hS2 := four3 (v := .slice ao1 b1.length cap1) hS1
  have hk2 := hk1.set (p := ⟨R, 3, none⟩) (.inl (.inl rfl)) (.slice ao1 b1.length cap1)
  have hown2 : OwnB B (w1.setCell ⟨R, 3, none⟩ (.slice ao1 b1.length cap1)) (.slice ao1 b1.length cap1) b1 := World.ownsRow.kept hown1 (grown_setCell w1 ⟨R, 3, none⟩ _) (.inr hne1)
  clear s0 s1 s2 s3 f2 f3
  obtain ⟨⟨s0, s1, s2, s3⟩, hf⟩ := blk4 hS1
  have f3 := hf 3
  clear hf
  have Hall := Lib.hid (And.intro hS2 (And.intro hown2 hk2))
  clear hown hown1 hS hS1 hS2 hg1 hk1 hk2 hown2 hne hne1
  go_wp2
  clear s0 s1 s2 s3 f3
  go_loopg [] wait (fun (f : Nat) wr => ∃ (k : Nat) (v' : Value), k = f ∧ k ≤ wait ∧ wr.heap[R]? = some (.cells #[.int .i64 low, .int .i64 high, .int .i64 k, v'] 47 (0, 0)) ∧ OwnB B wr v' (b1 ++ List.replicate (wait - k) (!bit)) ∧ Kpt (SndF B R w) w wr)
  case atStart => exact ⟨wait, _, rfl, Nat.le_refl _, Hall.out.1, by rw [Nat.sub_self, List.replicate_zero, List.append_nil]; exact Hall.out.2.1, Hall.out.2.2⟩
  case round =>
    obtain ⟨k, v', rfl, hk, hS, hown, hkp⟩ := hrel
    obtain ⟨ao, cap, rfl⟩ := hown.shape
    obtain ⟨⟨s0, s1, s2, s3⟩, hf⟩ := blk4 hS
    have f2 := hf 2
    have f3 := hf 3
    clear hf
    by_cases hk0 : 0 < k
    · obtain ⟨k, rfl⟩ : ∃ g, k = g + 1 := ⟨k - 1, by omega⟩
      have hBr : B ≤ wr.heap.size := Nat.le_trans hB hkp.size
      have Hsn := Lib.hid (show (b1 ++ List.replicate (wait - (k + 1)) (!bit)) ++ [!bit] = b1 ++ List.replicate (wait - k) (!bit) by rw [List.append_assoc, ← List.replicate_succ']; congr 2; omega)
      have hll : (b1 ++ List.replicate (wait - (k + 1)) (!bit)).length ≤ 100001 := by have := Hbl.out; simp; omega
      generalize b1 ++ List.replicate (wait - (k + 1)) (!bit) = bk at *
      go_wp2_with (at_builtin; go_must (refine app_bools rfl _ _ rfl B 0 (Nat.zero_le _) (.slice ao bk.length cap) bk rfl hown (Below.refl 0 wr) _ _ [!bit] rfl rfl (by simp; omega) hBr ?_))
      intro v1 w1 hown1 _ hg1
      generalize bk ++ [!bit] = bk1 at *
      obtain ⟨ao1, cap1, rfl⟩ := hown1.shape
      have hne : (Value.slice ao bk.length cap).ownBlock ≠ some R := blk_not_row hS (by decide) hown
      have hS1 := blk_grown hg1 (fun e => hne e.symm) (blk_alloc hS)
      have hk1 : Kpt (SndF B R w) w w1 := (hkp.alloc _).grown hg1 (sndF_row hkp hown)
      clear s0 s1 s2 s3 f2 f3
      obtain ⟨⟨s0, s1, s2, s3⟩, hf⟩ := blk4 hS1
      have f3 := hf 3
      have hne1 : (Value.slice ao1 bk1.length cap1).ownBlock ≠ some R := blk_not_row hS1 (by decide) hown1
      have hS2 := four3 (v := .slice ao1 bk1.length cap1) hS1
      have hk2 := hk1.set (p := ⟨R, 3, none⟩) (.inl (.inl rfl)) (.slice ao1 bk1.length cap1)
      have hown2 : OwnB B (w1.setCell ⟨R, 3, none⟩ (.slice ao1 bk1.length cap1)) (.slice ao1 bk1.length cap1) bk1 := World.ownsRow.kept hown1 (grown_setCell w1 ⟨R, 3, none⟩ _) (.inr hne1)
      have hS3 := four2 (v := .int .i64 k) hS2
      have hk3 := hk2.set (p := ⟨R, 2, none⟩) (.inl (.inl rfl)) (.int .i64 k)
      have hown3 : OwnB B ((w1.setCell ⟨R, 3, none⟩ (.slice ao1 bk1.length cap1)).setCell ⟨R, 2, none⟩ (.int .i64 k)) (.slice ao1 bk1.length cap1) bk1 := World.ownsRow.kept hown2 (grown_setCell _ ⟨R, 2, none⟩ _) (.inr hne1)
      have s2' := (blk4 hS2).1.2.2.1
      have f2' := (blk4 hS2).2 2
      have Hal2 := Lib.hid (And.intro hS3 (And.intro hown3 hk3))
      clear hf s2 hown hown1 hS hS1 hS2 hS3 hg1 hk1 hk2 hk3 hown2 hown3 hne hne1 hkp
      have hvk : ((k + 1 : Nat) : Int) - 1 = k := by omega
      go_wp2
      go_roundg k
      case measure => omega
      case rel => exact ⟨k, _, rfl, by omega, Hal2.out.1, by rw [← Hsn.out]; exact Hal2.out.2.1, Hal2.out.2.2⟩
    · obtain rfl : k = 0 := by omega
      have Hal3 := Lib.hid (And.intro hS (And.intro hown hkp))
      rw [Nat.sub_zero] at Hal3
      clear hS hown hkp
      go_wp2
      go_end0
      exact ⟨rfl, _, Hal3.out.1, by rw [Hb1.out]; exact Hal3.out.2.1, Hal3.out.2.2⟩
set_option maxHeartbeats 4000000 in
theorem l05Widen_any (R B : Nat) (low high : Int) (bv : Value) (bits : List Bool) (wait : Nat) (w : World) (hS : w.heap[R]? = some (.cells #[.int .i64 low, .int .i64 high, .int .i64 wait, bv] 47 (0, 0))) (hown : OwnB B w bv bits) (hB : B ≤ w.heap.size) (hl : bits.length + wait ≤ 10000)
    (h0 : 0 ≤ low) (h1 : low ≤ high) (h2 : high ≤ 65535) :
    Calls Try.prog 28 #[.pointer (some ⟨R, 0, none⟩)] w fun e w' => e = .returned (.tuple #[]) ∧ ∃ bv', w'.heap[R]? = some (.cells #[.int .i64 (wid 17 ⟨low, high, wait, bits⟩).low, .int .i64 (wid 17 ⟨low, high, wait, bits⟩).high, .int .i64 ((wid 17 ⟨low, high, wait, bits⟩).wait : Nat), bv'] 47 (0, 0)) ∧ OwnB B w' bv' (wid 17 ⟨low, high, wait, bits⟩).bits ∧ Kpt (SndF B R w) w w' := by
  go_enter Try.func28, Try.ntmps28
  go_wp2
  go_loopg [] 17 (fun f wr => ∃ (lo hi : Int) (wait' : Nat) (bits' : List Bool) (bv' : Value), wid f ⟨lo, hi, wait', bits'⟩ = wid 17 ⟨low, high, wait, bits⟩ ∧ Fuel f lo hi ∧ 0 ≤ lo ∧ lo ≤ hi ∧ hi ≤ 65535 ∧ bits'.length + wait' + f ≤ bits.length + wait + 17 ∧ wr.heap[R]? = some (.cells #[.int .i64 lo, .int .i64 hi, .int .i64 wait', bv'] 47 (0, 0)) ∧ OwnB B wr bv' bits' ∧ Kpt (SndF B R w) w wr)
  case atStart => exact ⟨low, high, wait, bits, bv, rfl, fuel17 h1, h0, h1, h2, Nat.le_refl _, hS, hown, Kpt.refl _ _⟩
  case round =>
    clear hS hown h0 h1 h2
    obtain ⟨lo, hi, wait', bits', bv', hw, hfu, h0, h1, h2, hbl, hS, hown, hkp⟩ := hrel
    have Hw := Lib.hid hw
    have Hfu := Lib.hid hfu
    have hha := l05Halve_any R lo hi wait' bv' _ hS
    have hBr : B ≤ wr.heap.size := Nat.le_trans hB hkp.size
    clear hw hfu
    cases hh : halv lo hi with
    | none =>
      have Hw2 := Lib.hid (show (⟨lo, hi, wait', bits'⟩ : Rs) = wid 17 ⟨low, high, wait, bits⟩ by rw [← Hw.out, wid_none hh])
      rw [hh] at hha
      have Hfin := Lib.hid (And.intro hS (And.intro hown hkp))
      clear hS hown hkp hh
      go_wp2_with fail
      refine hha.mono ?_
      rintro e w' ⟨rfl, rfl⟩
      clear hha
      go_wp2
      refine bodyPost_ret (results_none rfl _ _ _) rfl ?_
      exact ⟨rfl, _, by rw [← Hw2.out]; exact Hfin.out.1, by rw [← Hw2.out]; exact Hfin.out.2.1, Hfin.out.2.2⟩
    | some b =>
      rw [hh] at hha
      have hb := halv_some hh h0 h1 h2
      obtain ⟨f', rfl⟩ := Hfu.out.pos h0 h2
      have Hfu2 := Lib.hid (Hfu.out.next (b := b))
      have Hw2 := Lib.hid (wid_some (f := f') (r := ⟨lo, hi, wait', bits'⟩) hh)
      have hbc := halv_cases hh
      have Hsd := Lib.hid (show (some b).getD 0 = b from rfl)
      clear hh
      rcases hbc with rfl | rfl | rfl
      · have htl := fun w hS hown hB => l05Tell_any R B lo hi bv' bits' false wait' w hS hown hB (by omega)
        have Htl := Lib.hid (htl _ hS hown hBr)
        have hk0 := hkp
        clear htl hS hown hkp
        go_wp2_with fail
        refine hha.mono ?_
        rintro e w' ⟨rfl, rfl⟩
        clear hha
        go_wp2_with fail
        refine Htl.out.mono ?_
        rintro e w1 ⟨rfl, v1, hS1, hown1, hk1⟩
        have hk2 := sndF_next hk0 hk1
        obtain ⟨⟨s0, s1, s2, s3⟩, hf⟩ := blk4 hS1
        have f0 := hf 0
        have f1 := hf 1
        have hne : v1.ownBlock ≠ some R := blk_not_row hS1 (by decide) hown1
        have hS2 := four0 (v := .int .i64 (2 * (lo - 0))) hS1
        have hS3 := four1 (v := .int .i64 (2 * (hi - 0) + 1)) hS2
        have hown2 : OwnB B (w1.setCell ⟨R, 0, none⟩ (.int .i64 (2 * (lo - 0)))) v1 _ := World.ownsRow.kept hown1 (grown_setCell _ ⟨R, 0, none⟩ _) (.inr hne)
        have hown3 : OwnB B ((w1.setCell ⟨R, 0, none⟩ (.int .i64 (2 * (lo - 0)))).setCell ⟨R, 1, none⟩ (.int .i64 (2 * (hi - 0) + 1))) v1 _ := World.ownsRow.kept hown2 (grown_setCell _ ⟨R, 1, none⟩ _) (.inr hne)
        have hk3 := (hk2.set (p := ⟨R, 0, none⟩) (.inl (.inl rfl)) (.int .i64 (2 * (lo - 0)))).set (p := ⟨R, 1, none⟩) (.inl (.inl rfl)) (.int .i64 (2 * (hi - 0) + 1))
        have s1' := (blk4 hS2).1.2.1
        have f1' := (blk4 hS2).2 1
        have Hall := Lib.hid (And.intro hS3 (And.intro hown3 hk3))
        have Htb := Lib.hid (show (bits' ++ tellB false wait').length = bits'.length + wait' + 1 by simp [tellB]; omega)
        clear hf hS1 hS2 hS3 hown1 hown2 hown3 hk0 hk1 hk2 hk3 hne s1 f1
        simp only [Int.sub_zero] at s1' f1'
        go_wp2
        go_roundg f'
        case measure => omega
        case rel => exact ⟨2 * (lo - 0), 2 * (hi - 0) + 1, 0, bits' ++ tellB false wait', v1, by rw [← Hw.out, Hw2.out]; rfl, Hfu2.out, by omega, by omega, by omega, by rw [Htb.out]; omega, by have := Hall.out.1; simpa using this, by have := Hall.out.2.1; simpa using this, by have := Hall.out.2.2; simpa using this⟩
      · have htl := fun w hS hown hB => l05Tell_any R B lo hi bv' bits' true wait' w hS hown hB (by omega)
        have Htl := Lib.hid (htl _ hS hown hBr)
        have hk0 := hkp
        clear htl hS hown hkp
        go_wp2_with fail
        refine hha.mono ?_
        rintro e w' ⟨rfl, rfl⟩
        clear hha
        go_wp2_with fail
        refine Htl.out.mono ?_
        rintro e w1 ⟨rfl, v1, hS1, hown1, hk1⟩
        have hk2 := sndF_next hk0 hk1
        obtain ⟨⟨s0, s1, s2, s3⟩, hf⟩ := blk4 hS1
        have f0 := hf 0
        have f1 := hf 1
        have hne : v1.ownBlock ≠ some R := blk_not_row hS1 (by decide) hown1
        have hS2 := four0 (v := .int .i64 (2 * (lo - 32768))) hS1
        have hS3 := four1 (v := .int .i64 (2 * (hi - 32768) + 1)) hS2
        have hown2 : OwnB B (w1.setCell ⟨R, 0, none⟩ (.int .i64 (2 * (lo - 32768)))) v1 _ := World.ownsRow.kept hown1 (grown_setCell _ ⟨R, 0, none⟩ _) (.inr hne)
        have hown3 : OwnB B ((w1.setCell ⟨R, 0, none⟩ (.int .i64 (2 * (lo - 32768)))).setCell ⟨R, 1, none⟩ (.int .i64 (2 * (hi - 32768) + 1))) v1 _ := World.ownsRow.kept hown2 (grown_setCell _ ⟨R, 1, none⟩ _) (.inr hne)
        have hk3 := (hk2.set (p := ⟨R, 0, none⟩) (.inl (.inl rfl)) (.int .i64 (2 * (lo - 32768)))).set (p := ⟨R, 1, none⟩) (.inl (.inl rfl)) (.int .i64 (2 * (hi - 32768) + 1))
        have s1' := (blk4 hS2).1.2.1
        have f1' := (blk4 hS2).2 1
        have Hall := Lib.hid (And.intro hS3 (And.intro hown3 hk3))
        have Htb := Lib.hid (show (bits' ++ tellB true wait').length = bits'.length + wait' + 1 by simp [tellB]; omega)
        clear hf hS1 hS2 hS3 hown1 hown2 hown3 hk0 hk1 hk2 hk3 hne s1 f1
        skip
        go_wp2
        go_roundg f'
        case measure => omega
        case rel => exact ⟨2 * (lo - 32768), 2 * (hi - 32768) + 1, 0, bits' ++ tellB true wait', v1, by rw [← Hw.out, Hw2.out]; rfl, Hfu2.out, by omega, by omega, by omega, by rw [Htb.out]; omega, Hall.out.1, Hall.out.2.1, Hall.out.2.2⟩
      · obtain ⟨⟨s0, s1, s2, s3⟩, hf⟩ := blk4 hS
        have f2 := hf 2
        have hne : bv'.ownBlock ≠ some R := blk_not_row hS (by decide) hown
        have hS1 := four2 (v := .int .i64 (wait' + 1)) hS
        have hown1 : OwnB B (wr.setCell ⟨R, 2, none⟩ (.int .i64 (wait' + 1))) bv' _ := World.ownsRow.kept hown (grown_setCell _ ⟨R, 2, none⟩ _) (.inr hne)
        have hk2 := hkp.set (p := ⟨R, 2, none⟩) (.inl (.inl rfl)) (.int .i64 (wait' + 1))
        clear hf hS hown hkp
        obtain ⟨⟨t0, t1, t2, t3⟩, hf⟩ := blk4 hS1
        have f0 := hf 0
        have hS2 := four0 (v := .int .i64 (2 * (lo - 16384))) hS1
        have hS3 := four1 (v := .int .i64 (2 * (hi - 16384) + 1)) hS2
        have hown2 : OwnB B ((wr.setCell ⟨R, 2, none⟩ (.int .i64 (wait' + 1))).setCell ⟨R, 0, none⟩ (.int .i64 (2 * (lo - 16384)))) bv' _ := World.ownsRow.kept hown1 (grown_setCell _ ⟨R, 0, none⟩ _) (.inr hne)
        have hown3 : OwnB B (((wr.setCell ⟨R, 2, none⟩ (.int .i64 (wait' + 1))).setCell ⟨R, 0, none⟩ (.int .i64 (2 * (lo - 16384)))).setCell ⟨R, 1, none⟩ (.int .i64 (2 * (hi - 16384) + 1))) bv' _ := World.ownsRow.kept hown2 (grown_setCell _ ⟨R, 1, none⟩ _) (.inr hne)
        have hk3 := (hk2.set (p := ⟨R, 0, none⟩) (.inl (.inl rfl)) (.int .i64 (2 * (lo - 16384)))).set (p := ⟨R, 1, none⟩) (.inl (.inl rfl)) (.int .i64 (2 * (hi - 16384) + 1))
        have s1' := (blk4 hS2).1.2.1
        have f1' := (blk4 hS2).2 1
        have Hall := Lib.hid (And.intro hS3 (And.intro hown3 hk3))
        clear hf hS1 hS2 hS3 hown1 hown2 hown3 hk2 hk3 hne t1 t2 t3 s0 s1 s3
        go_wp2_with fail
        refine hha.mono ?_
        rintro e w' ⟨rfl, rfl⟩
        clear hha
        go_wp2
        go_roundg f'
        case measure => omega
        case rel => exact ⟨2 * (lo - 16384), 2 * (hi - 16384) + 1, wait' + 1, bits', bv', by rw [← Hw.out, Hw2.out]; rfl, Hfu2.out, by omega, by omega, by omega, by omega, Hall.out.1, Hall.out.2.1, Hall.out.2.2⟩
end Go.Proofs.Ytnhgloplobphnaa
