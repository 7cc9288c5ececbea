/- SharesOf: the program. No conditions but that the slices read. -/
import Derived.Test.YtnhcoggjnbldiaaShfS
import Derived.Test.YtnhcoggjnbldiaaMax
import Derived.Test.YtnhcoggjnbldiaaPop
import Derived.Deep.LoopGhost
import Derived.Deep.DrawnRows
namespace Go.Proofs.Ytnhcoggjnbldiaa
open Go.RowKit
set_option maxRecDepth 100000
set_option linter.unusedVariables false
set_option linter.unusedSimpArgs false
attribute [local go_sem ↓] Go.wp_at_zero Go.wp_at_succ

theorem blk_keep {W W' : World} (hb : Below W.heap.size W W') {b : Nat} {o : Obj} (h : W.heap[b]? = some o) : W'.heap[b]? = some o := blk_next hb h
theorem mx_ge2 (ss : List Int) (h0 : 0 < ss.length) (hd : (ss.length : Int) < sumL ss) : 2 ≤ ss.getD (mx ss) 0 := by
  refine Classical.byContradiction fun hn => ?_
  have hle := sumL_ones ss (fun z hz' => by
    obtain ⟨j, hj, rfl⟩ := List.getElem_of_mem hz'
    have := (mxF_max ss ss.length 0 0).2 j (by omega) (by omega)
    rw [show ss.getD j 0 = ss[j] by rw [List.getD_eq_getElem?_getD, List.getElem?_eq_getElem hj]; rfl] at this
    have hx : ss.getD (mxF ss ss.length 0 0) 0 = ss.getD (mx ss) 0 := rfl
    omega)
  omega
set_option maxHeartbeats 4000000 in
theorem implShf_ok (n : Int) (v : Value) (cs : List Int) (p : Int) (w : World) (h : RI w v cs) (hc : cts n cs = true) (hp : inB p 1 8 = true) (hn : n ≤ 2 ^ p.toNat) :
    Calls Try.prog 7 #[.agg #[.int .i64 n, v], .int .i64 p] w fun e w' => ∃ v', e = .returned (.tuple #[.agg #[.int .i64 (shfN n cs p), v'], .bool (shfOk n cs p)]) ∧ OI w.heap.size w' v' (shfZ n cs p) ∧ Below w.heap.size w w' := by
  obtain ⟨ao, cap, rfl⟩ := h.shape
  have hlen := h.len
  have hb : ∀ o o', Below w.heap.size w ((w.alloc o).alloc o') := fun o o' => by go_grown
  have hok : shfOk n cs p = true := by rw [shfOk, hc, hp]; simp [hn]
  obtain ⟨h1, h2, h3, h4, h5⟩ := cts_parts hc
  have hp' := inB_eq hp
  simp only [if_true] at hp'
  obtain ⟨m, rfl⟩ := Int.eq_ofNat_of_zero_le (show 0 ≤ p by omega)
  have hm1 : 1 ≤ m := by omega
  have hm8 : m ≤ 8 := by omega
  have hN256 : 2 ^ m ≤ 256 := Nat.le_trans (Nat.pow_le_pow_right (by decide) hm8) (by decide)
  have hN1 : 0 < 2 ^ m := Nat.two_pow_pos m
  have hLi : (2 : Int) ^ m = ((2 ^ m : Nat) : Int) := by simp
  have HZ := Lib.hid (show shfZ n cs (m : Int) = shfF ((2 ^ m : Nat) : Int) cs by rw [shfZ, if_pos hok, Int.toNat_natCast, hLi])
  rw [Int.toNat_natCast] at hn
  have HN := Lib.hid (show shfN n cs (m : Int) = m by rw [shfN, if_pos hok])
  have hsz := fun v w => size_any (m : Int) v w (by omega) (by omega)
  simp only [Int.toNat_natCast, hLi] at hsz
  rw [hLi] at hn
  generalize 2 ^ m = N at *
  subst h3
  have hT1 := sumL_ge cs fun z hz => (h4 z hz).1
  obtain ⟨T, hT⟩ : ∃ T, sumL cs = T := ⟨_, rfl⟩
  have HT := Lib.hid hT
  have hsm : Small 1099511627776 cs := fun z hz => by have := h4 z hz; omega
  have Hsm := Lib.hid hsm
  rw [hT] at hT1 h5
  have H4 := Lib.hid h4
  have HOK := Lib.hid hok
  have hng : decide ((N : Int) < (cs.length : Int)) = false := decide_eq_false (by omega)
  have hng2 : decide (N < cs.length) = false := decide_eq_false (by omega)
  obtain ⟨b0, o0, e0, -, hZc⟩ := h.2.cells (by omega)
  obtain rfl := e0
  have HC := Lib.hid hZc
  have HRI := Lib.hid h
  clear h4 hok hT hZc hsm h
  go_enter Try.func7, Try.ntmps7
  go_wp2_with fail
  have hB0 := hb (.cells #[.int .i64 (cs.length : Int), .slice (some ⟨b0, o0, none⟩) cs.length cap] 27) (.cells #[.int .i64 0, .slice none 0 0] 30)
  have hA : ((w.alloc (.cells #[.int .i64 (cs.length : Int), .slice (some ⟨b0, o0, none⟩) cs.length cap] 27)).alloc (.cells #[.int .i64 0, .slice none 0 0] 30)).heap[w.heap.size]? = some (.cells #[.int .i64 (cs.length : Int), .slice (some ⟨b0, o0, none⟩) cs.length cap] 27 (0, 0)) := blk_alloc (heap_alloc_new w _)
  have hR : ((w.alloc (.cells #[.int .i64 (cs.length : Int), .slice (some ⟨b0, o0, none⟩) cs.length cap] 27)).alloc (.cells #[.int .i64 0, .slice none 0 0] 30)).heap[w.heap.size + 1]? = some (.cells #[.int .i64 0, .slice none 0 0] 30 (0, 0)) := by
    have := heap_alloc_new (w.alloc (.cells #[.int .i64 (cs.length : Int), .slice (some ⟨b0, o0, none⟩) cs.length cap] 27)) (.cells #[.int .i64 0, .slice none 0 0] 30)
    rwa [World.size_alloc] at this
  generalize hW0 : ((w.alloc (.cells #[.int .i64 (cs.length : Int), .slice (some ⟨b0, o0, none⟩) cs.length cap] 27)).alloc (.cells #[.int .i64 0, .slice none 0 0] 30)) = W0 at *
  clear hW0 hb
  have HR0 := Lib.hid (HRI.out.below hB0)
  obtain ⟨a0, a1, -, -⟩ := blk2 hA
  have hbb : Below W0.heap.size W0 W0.drew := below_drewN W0 1
  have hwN : IntKind.i64.wrap (N : Int) = N := IntWalk.i64_in _ (by omega)
  refine wp_region_held_drew (S := fun W' => W'.cell? ⟨w.heap.size, 0, none⟩ = some (.int .i64 (cs.length : Int)) ∧ W'.cell? ⟨w.heap.size, 1, none⟩ = some (.slice (some ⟨b0, o0, none⟩) cs.length cap) ∧ Below W0.heap.size W0 W') (by kernel_rfl) ?_ (fun hHeld => ?_)
  · (try go_split_ands); refine ⟨?_, ?_, ?_⟩ <;> first | assumption | exact cnext (by assumption) (by assumption) | exact bnext (by assumption) (by assumption) | exact Below.alloc (by assumption) (Below.size (by assumption)) _ | (go_keep; done)
  refine wpAnyH_tk (i := 0) (v := ?_) (some 13) rfl rfl (by kernel_rfl) (by decide +kernel) (by decide +kernel) (fun _ _ _ h => h) (by kernel_rfl) ?_ hHeld ?_
  rotate_left
  · (intro w hSw; (try dsimp only at hSw); go_simp <;> with_reducible rfl)
  (try simp only [Act.put, List.setIfInBounds_toArray, List.set_cons_zero, List.set_cons_succ])
  refine wpAnyH_ready (rs := [1]) (by kernel_rfl) (by simp) ?_
  refine AllReadyH.cons rfl (fun K hK => ?_) AllReadyH.nil
  go_simp
  with_reducible refine Calls.mono (implCounts_any (cs.length : Int) _ cs _ (HR0.out.below (by go_split_ands; assumption))) ?_
  rintro e w1 ⟨rfl, hb1⟩
  rw [hc]
  try go_wp2_with fail
  refine hK.out _ _ ?_ (fun hHeld => ?_)
  · (try go_split_ands); refine ⟨?_, ?_, ?_⟩ <;> first | assumption | exact cnext (by assumption) (by assumption) | exact bnext (by assumption) (by assumption) | exact Below.alloc (by assumption) (Below.size (by assumption)) _ | (go_keep; done)
  clear hK K
  (try simp only [Act.put, List.setIfInBounds_toArray, List.set_cons_zero, List.set_cons_succ])
  refine wpAnyH_tk (i := 2) (v := ?_) (some 15) rfl rfl (by kernel_rfl) (by decide +kernel) (by decide +kernel) (fun _ _ _ h => h) (by kernel_rfl) ?_ hHeld ?_
  rotate_left
  · (intro w hSw; (try dsimp only at hSw); go_simp <;> with_reducible rfl)
  (try simp only [Act.put, List.setIfInBounds_toArray, List.set_cons_zero, List.set_cons_succ])
  refine wpAnyH_tk (i := 3) (v := ?_) (some 16) rfl rfl (by kernel_rfl) (by decide +kernel) (by decide +kernel) (fun _ _ _ h => h) (by kernel_rfl) ?_ hHeld ?_
  rotate_left
  · (intro w hSw; (try dsimp only at hSw); go_simp <;> with_reducible rfl)
  (try simp only [Act.put, List.setIfInBounds_toArray, List.set_cons_zero, List.set_cons_succ])
  refine wpAnyH_tk (i := 4) (v := ?_) (some 17) rfl rfl (by kernel_rfl) (by decide +kernel) (by decide +kernel) (fun _ _ _ h => h) (by kernel_rfl) ?_ hHeld ?_
  rotate_left
  · (intro w hSw; (try dsimp only at hSw); go_simp <;> with_reducible rfl)
  (try simp only [Act.put, List.setIfInBounds_toArray, List.set_cons_zero, List.set_cons_succ])
  refine wpAnyH_ready (rs := [5]) (by kernel_rfl) (by simp) ?_
  refine AllReadyH.cons rfl (fun K hK => ?_) AllReadyH.nil
  go_simp
  with_reducible refine Calls.mono (within_any _ _ _ _) ?_
  rintro e w' ⟨rfl, rfl⟩
  rw [hp]
  try go_wp2_with fail
  refine hK.out _ _ ?_ (fun hHeld => ?_)
  · (try go_split_ands); refine ⟨?_, ?_, ?_⟩ <;> first | assumption | exact cnext (by assumption) (by assumption) | exact bnext (by assumption) (by assumption) | exact Below.alloc (by assumption) (Below.size (by assumption)) _ | (go_keep; done)
  clear hK K
  (try simp only [Act.put, List.setIfInBounds_toArray, List.set_cons_zero, List.set_cons_succ])
  refine wpAnyH_tk (i := 6) (v := ?_) (some 19) rfl rfl (by kernel_rfl) (by decide +kernel) (by decide +kernel) (fun _ _ _ h => h) (by kernel_rfl) ?_ hHeld ?_
  rotate_left
  · (intro w hSw; (try dsimp only at hSw); go_simp <;> with_reducible rfl)
  (try simp only [Act.put, List.setIfInBounds_toArray, List.set_cons_zero, List.set_cons_succ])
  refine wpAnyH_tk (i := 7) (v := ?_) (some 20) rfl rfl (by kernel_rfl) (by decide +kernel) (by decide +kernel) (fun _ _ _ h => h) (by kernel_rfl) ?_ hHeld ?_
  rotate_left
  · (intro w hSw; (try dsimp only at hSw); go_simp <;> with_reducible rfl)
  (try simp only [Act.put, List.setIfInBounds_toArray, List.set_cons_zero, List.set_cons_succ])
  refine wpAnyH_tk (i := 8) (v := ?_) (some 21) rfl rfl (by kernel_rfl) (by decide +kernel) (by decide +kernel) (fun _ _ _ h => h) (by kernel_rfl) ?_ hHeld ?_
  rotate_left
  · (intro w hSw; (try dsimp only at hSw); go_simp <;> with_reducible rfl)
  (try simp only [Act.put, List.setIfInBounds_toArray, List.set_cons_zero, List.set_cons_succ])
  refine wpAnyH_tk (i := 9) (v := ?_) (some 22) rfl rfl (by kernel_rfl) (by decide +kernel) (by decide +kernel) (fun _ _ _ h => h) (by kernel_rfl) ?_ hHeld ?_
  rotate_left
  · (intro w hSw; (try dsimp only at hSw); go_simp <;> with_reducible rfl)
  (try simp only [Act.put, List.setIfInBounds_toArray, List.set_cons_zero, List.set_cons_succ])
  refine wpAnyH_tk (i := 10) (v := ?_) (some 23) rfl rfl (by kernel_rfl) (by decide +kernel) (by decide +kernel) (fun _ _ _ h => h) (by kernel_rfl) ?_ hHeld ?_
  rotate_left
  · (intro w hSw; (try dsimp only at hSw); go_simp <;> with_reducible rfl)
  (try simp only [Act.put, List.setIfInBounds_toArray, List.set_cons_zero, List.set_cons_succ])
  refine wpAnyH_tk (i := 11) (v := ?_) (some 24) rfl rfl (by kernel_rfl) (by decide +kernel) (by decide +kernel) (fun _ _ _ h => h) (by kernel_rfl) ?_ hHeld ?_
  rotate_left
  · (intro w hSw; (try dsimp only at hSw); go_simp <;> with_reducible rfl)
  (try simp only [Act.put, List.setIfInBounds_toArray, List.set_cons_zero, List.set_cons_succ])
  refine wpAnyH_tk (i := 12) (v := ?_) (some 25) rfl rfl (by kernel_rfl) (by decide +kernel) (by decide +kernel) (fun _ _ _ h => h) (by kernel_rfl) ?_ hHeld ?_
  rotate_left
  · (intro w hSw; (try dsimp only at hSw); go_simp <;> with_reducible rfl)
  (try simp only [Act.put, List.setIfInBounds_toArray, List.set_cons_zero, List.set_cons_succ])
  refine wpAnyH_tk (i := 13) (v := ?_) (some 26) rfl rfl (by kernel_rfl) (by decide +kernel) (by decide +kernel) (fun _ _ _ h => h) (by kernel_rfl) ?_ hHeld ?_
  rotate_left
  · (intro w hSw; (try dsimp only at hSw); go_simp <;> with_reducible rfl)
  (try simp only [Act.put, List.setIfInBounds_toArray, List.set_cons_zero, List.set_cons_succ])
  refine wpAnyH_tk (i := 14) (v := ?_) (some 27) rfl rfl (by kernel_rfl) (by decide +kernel) (by decide +kernel) (fun _ _ _ h => h) (by kernel_rfl) ?_ hHeld ?_
  rotate_left
  · (intro w hSw; (try dsimp only at hSw); go_simp <;> with_reducible rfl)
  (try simp only [Act.put, List.setIfInBounds_toArray, List.set_cons_zero, List.set_cons_succ])
  refine wpAnyH_done (by kernel_rfl) ?_ _
  have hBq : Below W0.heap.size W0 w1 := by go_split_ands; assumption
  have hA := blk_next hBq hA
  have hR := blk_next hBq hR
  have hB := bnext hB0 hBq
  clear hHeld a0 a1 hb1 hbb hB0
  clear hBq HR0
  have HRq := Lib.hid (HRI.out.below hB)
  obtain ⟨S0, hS0⟩ : ∃ S0, sf0 (N : Int) T cs = S0 := ⟨_, rfl⟩
  have HS0 := Lib.hid hS0
  have HSl := Lib.hid (show S0.length = cs.length by rw [← hS0]; simp [sf0])
  have HTk := Lib.hid (show ∀ j (hj : j < cs.length), S0.take (j + 1) = S0.take j ++ [max 1 (cs[j] * N / T)] by rw [← hS0]; exact sf0_take (N : Int) T cs)
  have HcT := Lib.hid (show ∀ z ∈ cs, z ≤ T from fun z hz => by
    have := (sum_ge' (zs := cs) fun z hz => by have := H4.out z hz; omega) z hz
    rw [HT.out] at this; exact this)
  have hnil := own_nil (w1.heap.size + 1) (w1.alloc (.cells #[.int .i64 m, .slice none 0 0] 30))
  have hTb : (w1.alloc (.cells #[.int .i64 m, .slice none 0 0] 30)).heap[w1.heap.size]? = some (.cells #[.int .i64 m, .slice none 0 0] 30 (0, 0)) := heap_alloc_new w1 _
  have hT1' : 1 ≤ T := by omega
  have hwA : w.heap.size < w1.heap.size := blk_lt hA
  have hwR : w.heap.size + 1 < w1.heap.size := blk_lt hR
  clear hS0 hT1
  obtain ⟨i0, hi, hz0, hz1, hz2⟩ := info_parts info_int
  have hl16 : cs.length ≤ 16 := by omega
  have hl2 : 2 ≤ cs.length := by omega
  obtain ⟨a0, a1, -, -⟩ := blk2 hA
  go_wp2_with fail
  go_loopw [34] (fun iv wr => ∃ (i : Nat) (P : List Int) (vo : Value), iv = .int .i64 i ∧ i ≤ cs.length ∧ P = S0.take i ∧ P.length = i ∧ wr.heap[w1.heap.size]? = some (.cells #[.int .i64 m, vo] 30 (0, 0)) ∧ OwnI (w1.heap.size + 1) wr vo P ∧ Below w1.heap.size w1 wr) (fun iv _ => cs.length - (intOf iv).toNat)
  case atStart => exact ⟨0, [], _, rfl, Nat.zero_le _, rfl, rfl, hTb, hnil, by go_grown⟩
  case round =>
    clear hTb hnil
    obtain ⟨i, P, vo, rfl, hi', hP, hPl, hbx, hown, hBw⟩ := hrel
    obtain ⟨ao3, cap3, rfl⟩ := hown.shape
    have HP := Lib.hid hP
    have HPl := Lib.hid hPl
    obtain ⟨x0, x1, y0, y1⟩ := blk2 hbx
    have aw0 := cnext hBw a0
    have aw1 := cnext hBw a1
    clear hP hPl
    by_cases hil : i < cs.length
    · have hci := cnext hBw (cnext hB (HC.out i hil))
      have hzb := H4.out cs[i] (List.getElem_mem hil)
      have hzT := HcT.out cs[i] (List.getElem_mem hil)
      have Htk := Lib.hid (HTk.out i hil)
      generalize cs[i] = z at hci hzb hzT Htk
      have hzN0 : 0 ≤ z * (N : Int) := Int.mul_nonneg (by omega) (by omega)
      have hzN1 : z * (N : Int) ≤ 16384 * 256 := Int.mul_le_mul (by omega) (by omega) (by omega) (by decide)
      obtain ⟨q, hq⟩ : ∃ q, z * (N : Int) / T = q := ⟨_, rfl⟩
      have hq2 : (z * (N : Int)).tdiv T = q := by rw [Int.tdiv_eq_ediv_of_nonneg hzN0]; exact hq
      have hq0 : 0 ≤ q := by rw [← hq]; exact Int.ediv_nonneg hzN0 (by omega)
      have hq1 : q ≤ 256 := by
        rw [← hq]
        refine Int.le_trans (Int.ediv_le_ediv (by omega) (Int.mul_le_mul_of_nonneg_right hzT (by omega))) ?_
        rw [Int.mul_ediv_cancel_left _ (by omega)]; omega
      have hTne : T ≠ 0 := by omega
      obtain ⟨x, hx⟩ : ∃ x, max 1 q = x := ⟨_, rfl⟩
      have hx1 : 1 ≤ x ∧ x ≤ 256 := by rw [← hx]; omega
      rw [hq, hx] at Htk
      have hxi : (if (1 : Int) < q then q else 1) = x := by rw [← hx]; split <;> omega
      have hx1a := hx1.1
      have hx1b := hx1.2
      have hs5 : w1.heap.size + 1 ≤ wr.heap.size := blk_lt hbx
      have hne := hown.lt
      have hv1 : IntKind.i64.wrap (z * (N : Int)) = z * N := IntWalk.i64_in _ (by omega)
      have hv2 : IntKind.i64.wrap q = q := IntWalk.i64_in _ (by omega)
      have HRw := Lib.hid (HRq.out.below hBw)
      have hbb : Below wr.heap.size wr wr.drew := below_drewN wr 1
      clear hx1 hx
      go_wp2_with fail
      refine wp_region_held_tail 11 (S := fun W' => W'.cell? ⟨w1.heap.size, 0, none⟩ = some (.int .i64 m) ∧ W'.cell? ⟨w1.heap.size, 1, none⟩ = some (.slice ao3 P.length cap3) ∧ W'.cell? ⟨w.heap.size, 0, none⟩ = some (.int .i64 (cs.length : Int)) ∧ W'.cell? ⟨w.heap.size, 1, none⟩ = some (.slice (some ⟨b0, o0, none⟩) cs.length cap) ∧ Below wr.heap.size wr W') (by kernel_rfl) (by decide +kernel) ?_ (fun hHeld => ?_)
      · (try go_split_ands); refine ⟨?_, ?_, ?_, ?_, ?_⟩ <;> first | assumption | exact cnext (by assumption) (by assumption) | exact bnext (by assumption) (by assumption) | exact Below.alloc (by assumption) (Below.size (by assumption)) _ | (go_keep; done)
      simp only [List.take_succ_cons, List.take_zero, List.drop_succ_cons, List.drop_zero, List.length_cons, List.length_nil, Nat.reduceAdd]
      refine wpAnyH_tk (i := 0) (v := ?_) (some 38) rfl rfl (by kernel_rfl) (by decide +kernel) (by decide +kernel) (fun _ _ _ h => h) (by kernel_rfl) ?_ hHeld ?_
      rotate_left
      · (intro w hSw; (try dsimp only at hSw); go_simp <;> with_reducible rfl)
      (try simp only [Act.put, List.setIfInBounds_toArray, List.set_cons_zero, List.set_cons_succ])
      refine wpAnyH_tk (i := 1) (v := ?_) (some 39) rfl rfl (by kernel_rfl) (by decide +kernel) (by decide +kernel) (fun _ _ _ h => h) (by kernel_rfl) ?_ hHeld ?_
      rotate_left
      · (intro w hSw; (try dsimp only at hSw); go_simp <;> with_reducible rfl)
      (try simp only [Act.put, List.setIfInBounds_toArray, List.set_cons_zero, List.set_cons_succ])
      refine wpAnyH_tk (i := 2) (v := ?_) (some 40) rfl rfl (by kernel_rfl) (by decide +kernel) (by decide +kernel) (fun _ _ _ h => h) (by kernel_rfl) ?_ hHeld ?_
      rotate_left
      · (intro w hSw; (try dsimp only at hSw); go_simp <;> with_reducible rfl)
      (try simp only [Act.put, List.setIfInBounds_toArray, List.set_cons_zero, List.set_cons_succ])
      refine wpAnyH_tk (i := 3) (v := ?_) (some 41) rfl rfl (by kernel_rfl) (by decide +kernel) (by decide +kernel) (fun _ _ _ h => h) (by kernel_rfl) ?_ hHeld ?_
      rotate_left
      · (intro w hSw; (try dsimp only at hSw); go_simp <;> with_reducible rfl)
      (try simp only [Act.put, List.setIfInBounds_toArray, List.set_cons_zero, List.set_cons_succ])
      refine wpAnyH_tk (i := 6) (v := ?_) (some 44) rfl rfl (by kernel_rfl) (by decide +kernel) (by decide +kernel) (fun _ _ _ h => h) (by kernel_rfl) ?_ hHeld ?_
      rotate_left
      · (intro w hSw; (try dsimp only at hSw); go_simp <;> with_reducible rfl)
      (try simp only [Act.put, List.setIfInBounds_toArray, List.set_cons_zero, List.set_cons_succ])
      refine wpAnyH_ready (rs := [4]) (by kernel_rfl) (by simp) ?_
      refine AllReadyH.cons rfl (fun K hK => ?_) AllReadyH.nil
      go_simp
      with_reducible refine Calls.mono (hsz _ _) ?_
      rintro e w4 ⟨rfl, hb4⟩
      try go_wp2_with fail
      refine hK.out _ _ ?_ (fun hHeld => ?_)
      · (try go_split_ands); refine ⟨?_, ?_, ?_, ?_, ?_⟩ <;> first | assumption | exact cnext (by assumption) (by assumption) | exact bnext (by assumption) (by assumption) | exact Below.alloc (by assumption) (Below.size (by assumption)) _ | (go_keep; done)
      clear hK K
      (try simp only [Act.put, List.setIfInBounds_toArray, List.set_cons_zero, List.set_cons_succ])
      refine wpAnyH_tk (i := 5) (v := ?_) (some 43) rfl rfl (by kernel_rfl) (by decide +kernel) (by decide +kernel) (fun _ _ _ h => h) (by kernel_rfl) ?_ hHeld ?_
      rotate_left
      · (intro w hSw; (try dsimp only at hSw); go_simp <;> with_reducible rfl)
      (try simp only [Act.put, List.setIfInBounds_toArray, List.set_cons_zero, List.set_cons_succ])
      refine wpAnyH_ready (rs := [7]) (by kernel_rfl) (by simp) ?_
      refine AllReadyH.cons rfl (fun K hK => ?_) AllReadyH.nil
      go_simp
      with_reducible refine Calls.mono (total_any (cs.length : Int) _ cs _ (HRw.out.below (by go_split_ands; assumption)) Hsm.out (by omega)) ?_
      rw [HT.out]
      rintro e w5 ⟨rfl, hb5⟩
      try go_wp2_with fail
      refine hK.out _ _ ?_ (fun hHeld => ?_)
      · (try go_split_ands); refine ⟨?_, ?_, ?_, ?_, ?_⟩ <;> first | assumption | exact cnext (by assumption) (by assumption) | exact bnext (by assumption) (by assumption) | exact Below.alloc (by assumption) (Below.size (by assumption)) _ | (go_keep; done)
      clear hK K
      (try simp only [Act.put, List.setIfInBounds_toArray, List.set_cons_zero, List.set_cons_succ])
      refine wpAnyH_tk (i := 8) (v := ?_) (some 46) rfl rfl (by kernel_rfl) (by decide +kernel) (by decide +kernel) (fun _ _ _ h => h) (by kernel_rfl) ?_ hHeld ?_
      rotate_left
      · (intro w hSw; (try dsimp only at hSw); go_simp <;> with_reducible rfl)
      (try simp only [Act.put, List.setIfInBounds_toArray, List.set_cons_zero, List.set_cons_succ])
      refine wpAnyH_tk (i := 9) (v := ?_) (some 47) rfl rfl (by kernel_rfl) (by decide +kernel) (by decide +kernel) (fun _ _ _ h => h) (by kernel_rfl) ?_ hHeld ?_
      rotate_left
      · (intro w hSw; (try dsimp only at hSw); go_simp <;> with_reducible rfl)
      (try simp only [Act.put, List.setIfInBounds_toArray, List.set_cons_zero, List.set_cons_succ])
      refine wpAnyH_ready (rs := [10]) (by kernel_rfl) (by simp) ?_
      refine AllReadyH.cons rfl (fun K hK => ?_) AllReadyH.nil
      go_simp
      refine hK.out _ _ ?_ (fun hHeld => ?_)
      · (try go_split_ands); refine ⟨?_, ?_, ?_, ?_, ?_⟩ <;> first | assumption | exact cnext (by assumption) (by assumption) | exact bnext (by assumption) (by assumption) | exact Below.alloc (by assumption) (Below.size (by assumption)) _ | (go_keep; done)
      clear hK K
      (try simp only [Act.put, List.setIfInBounds_toArray, List.set_cons_zero, List.set_cons_succ])
      refine wpAnyH_done (by kernel_rfl) ?_ _
      show wpList _ _ _ _ _ _
      have hB5 : Below wr.heap.size wr w5 := by go_split_ands; assumption
      have hown5 : OwnI (w1.heap.size + 1) w5 (.slice ao3 P.length cap3) P := own_below hB5 hown
      have hBw5 := bnext hBw hB5
      have hbx5 := blk_next hB5 hbx
      have hs6 := hB5.size
      clear hHeld hown hBw hbx hb4 hb5 x0 x1 y0 y1 aw0 aw1 hci hbb
      refine app_ints (by rfl) _ _ (by rfl) (w1.heap.size + 1) w1.heap.size (by omega) (.slice ao3 P.length cap3) P (by rfl) hown5 hBw5 _ _ [x] (by rfl) (by rfl) (by rw [HPl.out]; simp; omega) (by omega) ?_
      intro v6 w6 hown6 hB6 hg6
      have HP2 := Lib.hid (show P ++ [x] = S0.take (i + 1) by rw [HP.out, Htk.out])
      have HPl2 := Lib.hid (show (P ++ [x]).length = i + 1 by rw [List.length_append, HPl.out]; rfl)
      generalize P ++ [x] = P2 at *
      obtain ⟨ao6, cap6, rfl⟩ := hown6.shape
      have hbx6 := blk_grown hg6 (fun e => by have := hne _ e.symm; omega) (blk_alloc hbx5)
      obtain ⟨x0, x1, y0, y1⟩ := blk2 hbx6
      have hown7 := hown6.set ⟨w1.heap.size, 1, none⟩ (.slice ao6 P2.length cap6) (by simp)
      have hbx7 := blk_set1 (u := .slice ao6 P2.length cap6) hbx6
      have hB7 := hB6.setCell (p := ⟨w1.heap.size, 1, none⟩) (Nat.le_refl _) (.slice ao6 P2.length cap6)
      clear hown5 hBw5 hbx5 hB5 hown6 hB6 hbx6 hg6 hq2 hv1 hv2 hxi
      go_wp2
      go_roundw
      case rel => exact ⟨i + 1, P2, _, by go_num, by omega, HP2.out, HPl2.out, hbx7, hown7, hB7⟩
      case measure => simp [intOf] <;> omega
    · have hic : i = cs.length := by omega
      have hPS : P = S0 := by rw [HP.out, hic, ← HSl.out, List.take_length]
      have hs5 : w1.heap.size + 1 ≤ wr.heap.size := blk_lt hbx
      have hne := hown.lt
      have hlP : P.length = cs.length := by rw [HPl.out, hic]
      have HlP := Lib.hid hlP
      have HPS := Lib.hid hPS
      clear hic hPS hlP
      go_wp2_with (at_make; refine wpList_make_full _ rfl _ _ 25 rfl wr.heap.size 2 i0 (.int .i64 0) 1 Try.underlying25 hi hz0 hz1 _ _ _ _ cs.length rfl rfl rfl rfl (by rw [hz2]; omega) (by unfold maxLen; omega) (Nat.le_refl _) ?_)
      intro w2 hown2 hg2
      have hob := made_ob (show 0 < cs.length by omega) hown2
      have hBw := bnext hBw (grow_below hg2)
      have hbx := blk_next (grow_below hg2) hbx
      have hown : OwnI _ w2 _ P := own_below (grow_below hg2) hown
      have hgm : ∀ kk, (Value.slice ao3 P.length cap3).ownBlock = some kk → kk ≠ wr.heap.size := fun kk e => by have := hne kk e; omega
      clear hown2 hg2 hne x0 x1 y0 y1 aw0 aw1
      generalize wr.heap.size = gm at *
      have HU := Lib.hid (show shfF (N : Int) cs = dnF (sumL (upF cs ((N : Int) - sumL S0).toNat (List.replicate cs.length 0) S0) - N).toNat (upF cs ((N : Int) - sumL S0).toNat (List.replicate cs.length 0) S0) by rw [shfF_eq _ _ (by omega), HT.out, HS0.out])
      obtain ⟨U, hU⟩ : ∃ U, upF cs ((N : Int) - sumL S0).toNat (List.replicate cs.length 0) S0 = U := ⟨_, rfl⟩
      rw [hU] at HU
      have hzS := sf0_ge (N : Int) T cs
      have hzS2 := sf0_le (N : Int) T cs (by omega) (by omega) fun z hz => ⟨(H4.out z hz).1, HcT.out z hz⟩
      rw [HS0.out] at hzS hzS2
      have HU2 := Lib.hid hU
      have HzS := Lib.hid hzS
      have HzS2 := Lib.hid hzS2
      have hS0l : sumL S0 ≤ 4096 := by
        have := sumL_le S0 N hzS2 (by omega)
        have h2 : (N : Int) * S0.length ≤ 256 * 16 := Int.mul_le_mul (by omega) (by rw [HSl.out]; omega) (by omega) (by decide)
        omega
      have HS4 := Lib.hid hS0l
      have hS00 : 0 ≤ sumL S0 := by have := sumL_ge S0 hzS; omega
      clear hU hzS hzS2 hS0l
      go_wp2_with fail
      go_loopg [] 300 (fun gk wr => ∃ (d : Nat) (more ss : List Int) (ao3 : Option Addr) (cap3 : Nat), d ≤ gk ∧ ((N : Int) - sumL ss).toNat = d ∧ d ≤ 256 ∧ sumL ss ≤ 4096 ∧ upF cs d more ss = U ∧ more.length = cs.length ∧ ss.length = cs.length ∧ (∀ z ∈ more, 0 ≤ z ∧ z + d ≤ 256) ∧ (∀ z ∈ ss, 1 ≤ z ∧ z + d ≤ 512) ∧ OB (Value.int .i64) (w1.heap.size + 1) wr gm 0 cs.length cs.length more ∧ wr.heap[w1.heap.size]? = some (.cells #[.int .i64 m, .slice ao3 cs.length cap3] 30 (0, 0)) ∧ OwnI (w1.heap.size + 1) wr (.slice ao3 cs.length cap3) ss ∧ (∀ kk, (Value.slice ao3 cs.length cap3).ownBlock = some kk → kk ≠ gm) ∧ Below w1.heap.size w1 wr)
      case atStart =>
        have e1 := HlP.out
        rw [e1] at hbx hown hgm
        refine ⟨((N : Int) - sumL S0).toNat, List.replicate cs.length 0, P, ao3, cap3, by omega, by rw [HPS.out], by have := HzS.out; have := sumL_ge S0 HzS.out; omega, by rw [HPS.out]; exact HS4.out, by rw [← HU2.out, HPS.out], by simp, e1, ?_, ?_, hob.mono hs5, hbx, hown, hgm, hBw⟩
        · intro z hz; rw [List.eq_of_mem_replicate hz]; omega
        · intro z hz; rw [HPS.out] at hz; exact ⟨HzS.out z hz, by have := HzS2.out z hz; have := sumL_ge S0 HzS.out; omega⟩
      case round =>
        clear hob hbx hown hgm hBw
        obtain ⟨d, more, ss, ao4, cap4, hdg, hd, hd256, hS4, hU', hml, hsl, hzm, hzs, hob, hbx, hown, hgm, hBw⟩ := hrel
        obtain ⟨acc, hacc⟩ : ∃ acc, sumL ss = acc := ⟨_, rfl⟩
        rw [hacc] at hd hS4
        have ha0 : 0 ≤ acc := by have := sumL_ge ss (fun z hz => (hzs z hz).1); omega
        have HSs := Lib.hid (show Small 1099511627776 ss from fun z hz => by have := hzs z hz; omega)
        have HRss := Lib.hid (OwnI.oi hown (fun z hz => by have := hzs z hz; constructor <;> omega)).ri
        have Hacc := Lib.hid hacc
        have HU' := Lib.hid hU'
        have Hml := Lib.hid hml
        have Hsl := Lib.hid hsl
        have Hzm := Lib.hid hzm
        have Hzs := Lib.hid hzs
        have Hgm := Lib.hid hgm
        have Hd := Lib.hid hd
        obtain ⟨x0, x1, -, -⟩ := blk2 hbx
        have hbb : Below wr.heap.size wr wr.drew := below_drewN wr 1
        clear hacc hU' hml hsl hzm hzs hgm hd
        by_cases hlt : acc < (N : Int)
        · have hdec : decide (acc < (N : Int)) = true := decide_eq_true hlt
          go_wp2_with fail
          refine wp_region_held_drew (S := fun W' => W'.cell? ⟨w1.heap.size, 0, none⟩ = some (.int .i64 m) ∧ W'.cell? ⟨w1.heap.size, 1, none⟩ = some (.slice ao4 cs.length cap4) ∧ Below wr.heap.size wr W') (by kernel_rfl) ?_ (fun hHeld => ?_)
          · (try go_split_ands); refine ⟨?_, ?_, ?_⟩ <;> first | assumption | exact cnext (by assumption) (by assumption) | exact bnext (by assumption) (by assumption) | exact Below.alloc (by assumption) (Below.size (by assumption)) _ | (go_keep; done)
          refine wpAnyH_tk (i := 0) (v := ?_) (some 55) rfl rfl (by kernel_rfl) (by decide +kernel) (by decide +kernel) (fun _ _ _ h => h) (by kernel_rfl) ?_ hHeld ?_
          rotate_left
          · (intro w hSw; (try dsimp only at hSw); go_simp <;> with_reducible rfl)
          (try simp only [Act.put, List.setIfInBounds_toArray, List.set_cons_zero, List.set_cons_succ])
          refine wpAnyH_tk (i := 1) (v := ?_) (some 56) rfl rfl (by kernel_rfl) (by decide +kernel) (by decide +kernel) (fun _ _ _ h => h) (by kernel_rfl) ?_ hHeld ?_
          rotate_left
          · (intro w hSw; (try dsimp only at hSw); go_simp <;> with_reducible rfl)
          (try simp only [Act.put, List.setIfInBounds_toArray, List.set_cons_zero, List.set_cons_succ])
          refine wpAnyH_tk (i := 3) (v := ?_) (some 58) rfl rfl (by kernel_rfl) (by decide +kernel) (by decide +kernel) (fun _ _ _ h => h) (by kernel_rfl) ?_ hHeld ?_
          rotate_left
          · (intro w hSw; (try dsimp only at hSw); go_simp <;> with_reducible rfl)
          (try simp only [Act.put, List.setIfInBounds_toArray, List.set_cons_zero, List.set_cons_succ])
          refine wpAnyH_ready (rs := [2]) (by kernel_rfl) (by simp) ?_
          refine AllReadyH.cons rfl (fun K hK => ?_) AllReadyH.nil
          go_simp
          with_reducible refine Calls.mono (sumOf_any _ ss _ (HRss.out.below (by go_split_ands; assumption)) HSs.out (by rw [Hsl.out]; omega)) ?_
          rw [Hacc.out]
          rintro e w' ⟨rfl, rfl⟩
          try go_wp2_with fail
          refine hK.out _ _ ?_ (fun hHeld => ?_)
          · (try go_split_ands); refine ⟨?_, ?_, ?_⟩ <;> first | assumption | exact cnext (by assumption) (by assumption) | exact bnext (by assumption) (by assumption) | exact Below.alloc (by assumption) (Below.size (by assumption)) _ | (go_keep; done)
          clear hK K
          (try simp only [Act.put, List.setIfInBounds_toArray, List.set_cons_zero, List.set_cons_succ])
          refine wpAnyH_ready (rs := [4]) (by kernel_rfl) (by simp) ?_
          refine AllReadyH.cons rfl (fun K hK => ?_) AllReadyH.nil
          go_simp
          with_reducible refine Calls.mono (hsz _ _) ?_
          rintro e w4 ⟨rfl, hb4⟩
          try go_wp2_with fail
          refine hK.out _ _ ?_ (fun hHeld => ?_)
          · (try go_split_ands); refine ⟨?_, ?_, ?_⟩ <;> first | assumption | exact cnext (by assumption) (by assumption) | exact bnext (by assumption) (by assumption) | exact Below.alloc (by assumption) (Below.size (by assumption)) _ | (go_keep; done)
          clear hK K
          (try simp only [Act.put, List.setIfInBounds_toArray, List.set_cons_zero, List.set_cons_succ])
          refine wpAnyH_tk (i := 5) (v := ?_) (some 60) rfl rfl (by kernel_rfl) (by decide +kernel) (by decide +kernel) (fun _ _ _ h => h) (by kernel_rfl) ?_ hHeld ?_
          rotate_left
          · (intro w hSw; (try dsimp only at hSw); go_simp <;> with_reducible rfl)
          (try simp only [Act.put, List.setIfInBounds_toArray, List.set_cons_zero, List.set_cons_succ])
          refine wpAnyH_done (by kernel_rfl) ?_ _
          have hB4 : Below wr.heap.size wr w4 := by go_split_ands; assumption
          have hob := hob.below hB4
          have hbx := blk_next hB4 hbx
          have hown : OwnI _ w4 _ ss := own_below hB4 hown
          have hBw := bnext hBw hB4
          clear hHeld hB4 hb4 x0 x1 hbb HRss HSs
          obtain ⟨d', hd'⟩ : ∃ d', d = d' + 1 := ⟨d - 1, by have := Hd.out; omega⟩
          have Hd' := Lib.hid hd'
          clear hd' hdec
          generalize w4 = wr at *
          have aw1 := cnext hBw a1
          go_wp2_with fail
          clear aw1
          go_loopw [10, 64] (fun bv iv wr' => ∃ (i b nq : Nat), iv = .int .i64 i ∧ i ≤ cs.length ∧ bv = .int .i64 b ∧ b < cs.length ∧ bstF cs more (cs.length - i) i b = bst cs more ∧ wr' = wr.drewN nq) (fun _ iv _ => cs.length - (intOf iv).toNat)
          case atStart => exact ⟨0, 0, 0, rfl, Nat.zero_le _, rfl, by omega, by rw [Nat.sub_zero]; rfl, rfl⟩
          case round =>
            obtain ⟨i, b, nq, rfl, hi', rfl, hb', hq, rfl⟩ := hrel
            have Hq0 := Lib.hid hq
            clear hq
            by_cases hil : i < cs.length
            · have him : i < more.length := by rw [Hml.out]; exact hil
              have hbm : b < more.length := by rw [Hml.out]; exact hb'
              have hmi := hob.cell i him
              have hmb := hob.cell b hbm
              rw [Nat.zero_add] at hmi hmb
              have hci := cnext hBw (cnext hB (HC.out i hil))
              have hcb := cnext hBw (cnext hB (HC.out b hb'))
              have aw1 := cnext hBw a1
              have hah : ahead cs more i b = (decide (more[i] < more[b]) || ((more[i] == more[b]) && decide (cs[b] < cs[i]))) := by
                rw [ahead, getD_eq him, getD_eq hbm, getD_eq hil, getD_eq hb']
              have hq1 : bstF cs more (cs.length - (i + 1)) (i + 1) (if ahead cs more i b = true then i else b) = bst cs more := by
                rw [← Hq0.out, show cs.length - i = (cs.length - (i + 1)) + 1 by omega, bstF]
              rw [hah] at hq1
              have hobk := Lib.hid hob
              have him2 : (i : Int) < (cs.length : Int) := by omega
              have hbm2 : (b : Int) < (cs.length : Int) := by omega
              clear hah hob
              generalize more[i] = mi at *
              generalize more[b] = mb at *
              generalize cs[i] = ci at *
              generalize cs[b] = cb at *
              by_cases c1 : mi < mb
              · have d1 : decide (mi < mb) = true := decide_eq_true c1
                have Hq := Lib.hid (show bstF cs more (cs.length - (i + 1)) (i + 1) i = bst cs more by rw [← hq1, d1]; rfl)
                clear hq1 c1
                go_wp2_with fail
                go_quiet (fail)
                rename_i nq2
                go_wp2
                go_roundw
                case rel => exact ⟨i + 1, i, _, by go_num, by omega, rfl, by omega, Hq.out, rfl⟩
                case measure => simp [intOf] <;> omega
              · have d1 : decide (mi < mb) = false := decide_eq_false c1
                by_cases c2 : mi = mb
                · have d2 : (mi == mb) = true := by simpa using c2
                  by_cases c3 : cb < ci
                  · have d3 : decide (cb < ci) = true := decide_eq_true c3
                    have Hq := Lib.hid (show bstF cs more (cs.length - (i + 1)) (i + 1) i = bst cs more by rw [← hq1, d1, d2, d3]; rfl)
                    clear hq1 c1 c2 c3
                    go_wp2_with fail
                    go_quiet (fail)
                    rename_i nq2
                    go_wp2
                    go_roundw
                    case rel => exact ⟨i + 1, i, _, by go_num, by omega, rfl, by omega, Hq.out, rfl⟩
                    case measure => simp [intOf] <;> omega
                  · have d3 : decide (cb < ci) = false := decide_eq_false c3
                    have Hq := Lib.hid (show bstF cs more (cs.length - (i + 1)) (i + 1) b = bst cs more by rw [← hq1, d1, d2, d3]; rfl)
                    clear hq1 c1 c2 c3
                    go_wp2_with fail
                    go_quiet (fail)
                    rename_i nq2
                    go_wp2
                    go_roundw
                    case rel => exact ⟨i + 1, b, _, by go_num, by omega, rfl, by omega, Hq.out, rfl⟩
                    case measure => simp [intOf] <;> omega
                · have d2 : (mi == mb) = false := by simpa using c2
                  have Hq := Lib.hid (show bstF cs more (cs.length - (i + 1)) (i + 1) b = bst cs more by rw [← hq1, d1, d2]; rfl)
                  clear hq1 c1 c2
                  go_wp2_with fail
                  go_quiet (fail)
                  rename_i nq2
                  go_wp2
                  go_roundw
                  case rel => exact ⟨i + 1, b, _, by go_num, by omega, rfl, by omega, Hq.out, rfl⟩
                  case measure => simp [intOf] <;> omega
            · have hbb : bst cs more = b := by rw [← Hq0.out, show cs.length - i = 0 by omega]; rfl
              have Hbb := Lib.hid hbb
              clear hbb
              have hob := hob.below (below_drewN wr nq)
              have hbx := blk_next (below_drewN wr nq) hbx
              have hown : OwnI _ (wr.drewN nq) _ ss := own_below (below_drewN wr nq) hown
              have hBw := bnext hBw (below_drewN wr nq)
              generalize wr.drewN nq = wz at *
              have hbm : b < more.length := by rw [Hml.out]; exact hb'
              have hbs : b < ss.length := by rw [Hsl.out]; exact hb'
              have hmb := hob.cell b hbm
              have hfb := hob.free b hbm
              rw [Nat.zero_add] at hmb hfb
              have hzb := Hzm.out more[b] (List.getElem_mem hbm)
              have hput := hob.put b hbm (more[b] + 1)
              rw [Nat.zero_add] at hput
              have hgl := hob.lo
              have hne : gm ≠ w1.heap.size := by omega
              have hbx2 := blk_other (p := ⟨gm, b, none⟩) (u := .int .i64 (more[b] + 1)) hne hbx
              have hown2 : OwnI _ (wz.setCell ⟨gm, b, none⟩ (.int .i64 (more[b] + 1))) _ ss := hown.kept (grown_setCell wz ⟨gm, b, none⟩ _) (.inr fun e => Hgm.out _ e rfl)
              have hBw2 := hBw.setCell (p := ⟨gm, b, none⟩) (by show w1.heap.size ≤ gm; omega) (.int .i64 (more[b] + 1))
              rw [← Hsl.out] at hown2 hbx2
              obtain ⟨g4, cap5, e4, hg4, hg4s, hsb, hsf⟩ := own_at hown2 b hbs
              simp only [Value.slice.injEq, true_and] at e4
              obtain ⟨rfl, rfl⟩ := e4
              have hzb2 := Hzs.out ss[b] (List.getElem_mem hbs)
              have hput2 := own_put hown2 b (ss[b] + 1)
              have hgne : g4 ≠ gm := Hgm.out g4 rfl
              have hbx3 := blk_other (p := ⟨g4, b, none⟩) (u := .int .i64 (ss[b] + 1)) (by show g4 ≠ w1.heap.size; omega) hbx2
              have hBw3 := hBw2.setCell (p := ⟨g4, b, none⟩) (by show w1.heap.size ≤ g4; omega) (.int .i64 (ss[b] + 1))
              have hob3 := hput.far ⟨g4, b, none⟩ (.int .i64 (ss[b] + 1)) hgne
              obtain ⟨x0, x1, -, -⟩ := blk2 hbx2
              have Hm1 := Lib.hid (show add1 more b 1 = more.set b (more[b] + 1) by rw [add1, getD_eq hbm])
              have Hs1 := Lib.hid (show add1 ss b 1 = ss.set b (ss[b] + 1) by rw [add1, getD_eq hbs])
              rw [← Hm1.out] at hob3
              rw [← Hs1.out] at hput2
              have HM := Lib.hid (show ∀ z ∈ add1 more b 1, 0 ≤ z ∧ z + d' ≤ 256 from add1_all (fun z hz => by have := Hzm.out z hz; have := Hd'.out; omega) (by rw [getD_eq hbm]; have := Hd'.out; omega))
              have HS' := Lib.hid (show ∀ z ∈ add1 ss b 1, 1 ≤ z ∧ z + d' ≤ 512 from add1_all (fun z hz => by have := Hzs.out z hz; have := Hd'.out; omega) (by rw [getD_eq hbs]; have := Hd'.out; omega))
              have HSum := Lib.hid (show sumL (add1 ss b 1) = acc + 1 by rw [sumL_add1 _ _ _ hbs, Hacc.out])
              have HU4 := Lib.hid (show upF cs d' (add1 more b 1) (add1 ss b 1) = U by rw [← HU'.out, Hd'.out, upF, Hbb.out])
              have hbl : (b : Int) < (ss.length : Int) := by omega
              have hd0 := Hd.out
              have hd1 := Hd'.out
              have hdle : d' ≤ 256 := by omega
              have hmeas : d' < gk := by omega
              have Hdd := Lib.hid (show ((N : Int) - (acc + 1)).toNat = d' by omega)
              have ha4' : acc + 1 ≤ 4096 := by omega
              have Hhead := Lib.hid (And.intro hput2 (And.intro hob3 (And.intro hbx3 hBw3)))
              clear hput2 hob3 hbx3 hBw3 hput hob hown hown2 hbx hBw hBw2 hd0 hd1
              generalize more[b] = mb at *
              generalize ss[b] = sb at *
              go_wp2
              go_roundg d'
              case measure => exact hmeas
              case rel => exact ⟨d', add1 more b 1, add1 ss b 1, some ⟨g4, 0, none⟩, cap4, Nat.le_refl _, by rw [HSum.out]; exact Hdd.out, hdle, by rw [HSum.out]; exact ha4', HU4.out, by rw [add1_len]; exact Hml.out, by rw [add1_len]; exact Hsl.out, HM.out, HS'.out, Hhead.out.2.1, by rw [← Hsl.out]; exact Hhead.out.2.2.1, by rw [← Hsl.out]; exact Hhead.out.1, (fun kk e => by simp [Value.ownBlock] at e; omega), Hhead.out.2.2.2⟩
        · have hdec : decide (acc < (N : Int)) = false := decide_eq_false hlt
          go_wp2_with fail
          refine wp_region_held_drew (S := fun W' => W'.cell? ⟨w1.heap.size, 0, none⟩ = some (.int .i64 m) ∧ W'.cell? ⟨w1.heap.size, 1, none⟩ = some (.slice ao4 cs.length cap4) ∧ Below wr.heap.size wr W') (by kernel_rfl) ?_ (fun hHeld => ?_)
          · (try go_split_ands); refine ⟨?_, ?_, ?_⟩ <;> first | assumption | exact cnext (by assumption) (by assumption) | exact bnext (by assumption) (by assumption) | exact Below.alloc (by assumption) (Below.size (by assumption)) _ | (go_keep; done)
          refine wpAnyH_tk (i := 0) (v := ?_) (some 55) rfl rfl (by kernel_rfl) (by decide +kernel) (by decide +kernel) (fun _ _ _ h => h) (by kernel_rfl) ?_ hHeld ?_
          rotate_left
          · (intro w hSw; (try dsimp only at hSw); go_simp <;> with_reducible rfl)
          (try simp only [Act.put, List.setIfInBounds_toArray, List.set_cons_zero, List.set_cons_succ])
          refine wpAnyH_tk (i := 1) (v := ?_) (some 56) rfl rfl (by kernel_rfl) (by decide +kernel) (by decide +kernel) (fun _ _ _ h => h) (by kernel_rfl) ?_ hHeld ?_
          rotate_left
          · (intro w hSw; (try dsimp only at hSw); go_simp <;> with_reducible rfl)
          (try simp only [Act.put, List.setIfInBounds_toArray, List.set_cons_zero, List.set_cons_succ])
          refine wpAnyH_tk (i := 3) (v := ?_) (some 58) rfl rfl (by kernel_rfl) (by decide +kernel) (by decide +kernel) (fun _ _ _ h => h) (by kernel_rfl) ?_ hHeld ?_
          rotate_left
          · (intro w hSw; (try dsimp only at hSw); go_simp <;> with_reducible rfl)
          (try simp only [Act.put, List.setIfInBounds_toArray, List.set_cons_zero, List.set_cons_succ])
          refine wpAnyH_ready (rs := [2]) (by kernel_rfl) (by simp) ?_
          refine AllReadyH.cons rfl (fun K hK => ?_) AllReadyH.nil
          go_simp
          with_reducible refine Calls.mono (sumOf_any _ ss _ (HRss.out.below (by go_split_ands; assumption)) HSs.out (by rw [Hsl.out]; omega)) ?_
          rw [Hacc.out]
          rintro e w' ⟨rfl, rfl⟩
          try go_wp2_with fail
          refine hK.out _ _ ?_ (fun hHeld => ?_)
          · (try go_split_ands); refine ⟨?_, ?_, ?_⟩ <;> first | assumption | exact cnext (by assumption) (by assumption) | exact bnext (by assumption) (by assumption) | exact Below.alloc (by assumption) (Below.size (by assumption)) _ | (go_keep; done)
          clear hK K
          (try simp only [Act.put, List.setIfInBounds_toArray, List.set_cons_zero, List.set_cons_succ])
          refine wpAnyH_ready (rs := [4]) (by kernel_rfl) (by simp) ?_
          refine AllReadyH.cons rfl (fun K hK => ?_) AllReadyH.nil
          go_simp
          with_reducible refine Calls.mono (hsz _ _) ?_
          rintro e w4 ⟨rfl, hb4⟩
          try go_wp2_with fail
          refine hK.out _ _ ?_ (fun hHeld => ?_)
          · (try go_split_ands); refine ⟨?_, ?_, ?_⟩ <;> first | assumption | exact cnext (by assumption) (by assumption) | exact bnext (by assumption) (by assumption) | exact Below.alloc (by assumption) (Below.size (by assumption)) _ | (go_keep; done)
          clear hK K
          (try simp only [Act.put, List.setIfInBounds_toArray, List.set_cons_zero, List.set_cons_succ])
          refine wpAnyH_tk (i := 5) (v := ?_) (some 60) rfl rfl (by kernel_rfl) (by decide +kernel) (by decide +kernel) (fun _ _ _ h => h) (by kernel_rfl) ?_ hHeld ?_
          rotate_left
          · (intro w hSw; (try dsimp only at hSw); go_simp <;> with_reducible rfl)
          (try simp only [Act.put, List.setIfInBounds_toArray, List.set_cons_zero, List.set_cons_succ])
          refine wpAnyH_done (by kernel_rfl) ?_ _
          have hB4 : Below wr.heap.size wr w4 := by go_split_ands; assumption
          have hob := hob.below hB4
          have hbx := blk_next hB4 hbx
          have hown : OwnI _ w4 _ ss := own_below hB4 hown
          have hBw := bnext hBw hB4
          clear hHeld hB4 hb4 x0 x1 hbb HRss HSs
          have hd0 : d = 0 := by have := Hd.out; omega
          have hUs : U = ss := by rw [← HU'.out, hd0]; rfl
          have HF := Lib.hid (show dnF (acc - (N : Int)).toNat ss = shfF (N : Int) cs by rw [HU.out, hUs, Hacc.out])
          clear hd0 hUs hdec
          generalize w4 = wr at *
          go_wp2_with fail
          go_loopg [] 5000 (fun gk wr => ∃ (d : Nat) (ss : List Int) (ao3 : Option Addr) (cap3 : Nat), d ≤ gk ∧ sumL ss ≤ 4096 ∧ (sumL ss - (N : Int)).toNat = d ∧ dnF d ss = shfF (N : Int) cs ∧ ss.length = cs.length ∧ (∀ z ∈ ss, 1 ≤ z ∧ z ≤ 512) ∧ cs.length ≤ N ∧ wr.heap[w1.heap.size]? = some (.cells #[.int .i64 m, .slice ao3 cs.length cap3] 30 (0, 0)) ∧ OwnI (w1.heap.size + 1) wr (.slice ao3 cs.length cap3) ss ∧ Below w1.heap.size w1 wr)
          case atStart => exact ⟨(acc - (N : Int)).toNat, ss, ao4, cap4, by omega, by rw [Hacc.out]; exact hS4, by rw [Hacc.out], HF.out, Hsl.out, (fun z hz => by have := Hzs.out z hz; omega), by omega, hbx, hown, hBw⟩
          case round =>
            clear hob hbx hown hBw Hgm Hzs Hzm Hsl Hml HU' Hacc Hd HF
            obtain ⟨d2, s2, ao5, cap5, hdg, hS4, hd, hF, hsl, hzs, hcN, hbx, hown, hBw⟩ := hrel
            obtain ⟨ac, hacc⟩ : ∃ ac, sumL s2 = ac := ⟨_, rfl⟩
            rw [hacc] at hd hS4
            have HSs := Lib.hid (show Small 1099511627776 s2 from fun z hz => by have := hzs z hz; omega)
            have HRss := Lib.hid (OwnI.oi hown (fun z hz => by have := hzs z hz; constructor <;> omega)).ri
            have Hacc := Lib.hid hacc
            have HF := Lib.hid hF
            have Hsl := Lib.hid hsl
            have Hzs := Lib.hid hzs
            have Hd := Lib.hid hd
            obtain ⟨x0, x1, -, -⟩ := blk2 hbx
            have hbb : Below wr.heap.size wr wr.drew := below_drewN wr 1
            clear hacc hF hsl hzs hd
            by_cases hgt : (N : Int) < ac
            · have hdec : decide ((N : Int) < ac) = true := decide_eq_true hgt
              go_wp2_with fail
              refine wp_region_held_drew (S := fun W' => W'.cell? ⟨w1.heap.size, 0, none⟩ = some (.int .i64 m) ∧ W'.cell? ⟨w1.heap.size, 1, none⟩ = some (.slice ao5 cs.length cap5) ∧ Below wr.heap.size wr W') (by kernel_rfl) ?_ (fun hHeld => ?_)
              · (try go_split_ands); refine ⟨?_, ?_, ?_⟩ <;> first | assumption | exact cnext (by assumption) (by assumption) | exact bnext (by assumption) (by assumption) | exact Below.alloc (by assumption) (Below.size (by assumption)) _ | (go_keep; done)
              refine wpAnyH_tk (i := 0) (v := ?_) (some 113) rfl rfl (by kernel_rfl) (by decide +kernel) (by decide +kernel) (fun _ _ _ h => h) (by kernel_rfl) ?_ hHeld ?_
              rotate_left
              · (intro w hSw; (try dsimp only at hSw); go_simp <;> with_reducible rfl)
              (try simp only [Act.put, List.setIfInBounds_toArray, List.set_cons_zero, List.set_cons_succ])
              refine wpAnyH_tk (i := 1) (v := ?_) (some 114) rfl rfl (by kernel_rfl) (by decide +kernel) (by decide +kernel) (fun _ _ _ h => h) (by kernel_rfl) ?_ hHeld ?_
              rotate_left
              · (intro w hSw; (try dsimp only at hSw); go_simp <;> with_reducible rfl)
              (try simp only [Act.put, List.setIfInBounds_toArray, List.set_cons_zero, List.set_cons_succ])
              refine wpAnyH_tk (i := 3) (v := ?_) (some 116) rfl rfl (by kernel_rfl) (by decide +kernel) (by decide +kernel) (fun _ _ _ h => h) (by kernel_rfl) ?_ hHeld ?_
              rotate_left
              · (intro w hSw; (try dsimp only at hSw); go_simp <;> with_reducible rfl)
              (try simp only [Act.put, List.setIfInBounds_toArray, List.set_cons_zero, List.set_cons_succ])
              refine wpAnyH_ready (rs := [2]) (by kernel_rfl) (by simp) ?_
              refine AllReadyH.cons rfl (fun K hK => ?_) AllReadyH.nil
              go_simp
              with_reducible refine Calls.mono (sumOf_any _ s2 _ (HRss.out.below (by go_split_ands; assumption)) HSs.out (by rw [Hsl.out]; omega)) ?_
              rw [Hacc.out]
              rintro e w' ⟨rfl, rfl⟩
              try go_wp2_with fail
              refine hK.out _ _ ?_ (fun hHeld => ?_)
              · (try go_split_ands); refine ⟨?_, ?_, ?_⟩ <;> first | assumption | exact cnext (by assumption) (by assumption) | exact bnext (by assumption) (by assumption) | exact Below.alloc (by assumption) (Below.size (by assumption)) _ | (go_keep; done)
              clear hK K
              (try simp only [Act.put, List.setIfInBounds_toArray, List.set_cons_zero, List.set_cons_succ])
              refine wpAnyH_ready (rs := [4]) (by kernel_rfl) (by simp) ?_
              refine AllReadyH.cons rfl (fun K hK => ?_) AllReadyH.nil
              go_simp
              with_reducible refine Calls.mono (hsz _ _) ?_
              rintro e w4 ⟨rfl, hb4⟩
              try go_wp2_with fail
              refine hK.out _ _ ?_ (fun hHeld => ?_)
              · (try go_split_ands); refine ⟨?_, ?_, ?_⟩ <;> first | assumption | exact cnext (by assumption) (by assumption) | exact bnext (by assumption) (by assumption) | exact Below.alloc (by assumption) (Below.size (by assumption)) _ | (go_keep; done)
              clear hK K
              (try simp only [Act.put, List.setIfInBounds_toArray, List.set_cons_zero, List.set_cons_succ])
              refine wpAnyH_tk (i := 5) (v := ?_) (some 118) rfl rfl (by kernel_rfl) (by decide +kernel) (by decide +kernel) (fun _ _ _ h => h) (by kernel_rfl) ?_ hHeld ?_
              rotate_left
              · (intro w hSw; (try dsimp only at hSw); go_simp <;> with_reducible rfl)
              (try simp only [Act.put, List.setIfInBounds_toArray, List.set_cons_zero, List.set_cons_succ])
              refine wpAnyH_done (by kernel_rfl) ?_ _
              have hB4 : Below wr.heap.size wr w4 := by go_split_ands; assumption
              have hbx := blk_next hB4 hbx
              have hown : OwnI _ w4 _ s2 := own_below hB4 hown
              have hBw := bnext hBw hB4
              clear hHeld hB4 hb4 x0 x1 hbb HRss
              clear hdec
              generalize w4 = wr at *
              have hbs : mx s2 < s2.length := mxF_lt s2 _ 0 0 _ (by rw [Hsl.out]; omega) (by omega)
              have hge2 := mx_ge2 s2 (by rw [Hsl.out]; omega) (by rw [Hsl.out, Hacc.out]; omega)
              have Hmx := Lib.hid (show mxV s2 = s2[mx s2] from getD_eq hbs)
              have HRs := Lib.hid (OwnI.oi hown (fun z hz => by have := Hzs.out z hz; constructor <;> omega)).ri
              have hown0 := hown
              rw [← Hsl.out] at hown0
              obtain ⟨g4, cap6, e4, hg4, hg4s, hsb, hsf⟩ := own_at hown0 (mx s2) hbs
              simp only [Value.slice.injEq, true_and] at e4
              obtain ⟨rfl, rfl⟩ := e4
              have hzb2 := Hzs.out s2[mx s2] (List.getElem_mem hbs)
              have hput2 := own_put hown0 (mx s2) (s2[mx s2] + -1)
              have hbx3 := blk_other (p := ⟨g4, mx s2, none⟩) (u := .int .i64 (s2[mx s2] + -1)) (by show g4 ≠ w1.heap.size; omega) hbx
              have hBw3 := hBw.setCell (p := ⟨g4, mx s2, none⟩) (by show w1.heap.size ≤ g4; omega) (.int .i64 (s2[mx s2] + -1))
              obtain ⟨x0, x1, -, -⟩ := blk2 hbx
              have Hs1 := Lib.hid (show add1 s2 (mx s2) (-1) = s2.set (mx s2) (s2[mx s2] + -1) by rw [add1, getD_eq hbs])
              rw [← Hs1.out] at hput2
              have hd0 := Hd.out
              obtain ⟨d', hd'⟩ : ∃ d', d2 = d' + 1 := ⟨d2 - 1, by omega⟩
              have hmeas : d' < gk := by omega
              rw [getD_eq hbs] at hge2
              have HS' := Lib.hid (show ∀ z ∈ add1 s2 (mx s2) (-1), 1 ≤ z ∧ z ≤ 512 from add1_all (fun z hz => by have := Hzs.out z hz; omega) (by rw [getD_eq hbs]; omega))
              have HU4 := Lib.hid (show dnF d' (add1 s2 (mx s2) (-1)) = shfF (N : Int) cs by rw [← HF.out, hd', dnF])
              have HSum := Lib.hid (show sumL (add1 s2 (mx s2) (-1)) = ac + -1 by rw [sumL_add1 _ _ _ hbs, Hacc.out])
              have Hdd := Lib.hid (show ((ac + -1) - (N : Int)).toNat = d' by omega)
              have Hfst := Lib.hid (mx_first s2)
              have hbl : (mx s2 : Int) < (cs.length : Int) := by rw [← Hsl.out]; omega
              have hbl0 : (0 : Int) ≤ (mx s2 : Int) := by omega
              have hS4' : ac + -1 ≤ 4096 := by omega
              have Hhead := Lib.hid (And.intro hput2 (And.intro hbx3 hBw3))
              have hidx : ∀ W, RI W (.slice (some ⟨g4, 0, none⟩) cs.length cap5) s2 → Calls Try.prog 25 #[.slice (some ⟨g4, 0, none⟩) cs.length cap5, .int .i64 s2[mx s2]] W fun e w' => e = .returned (.int .i64 (mx s2)) ∧ W = w' := fun W hW =>
                indexF_any _ s2 _ (mx s2) W hW hbs (getD_eq hbs) (fun j hj => by have := Hfst.out j hj; rw [Hmx.out] at this; omega)
              have hv1 : IntKind.i64.wrap (s2[mx s2] - 1) = s2[mx s2] + -1 := by rw [IntWalk.i64_in _ (by omega)]; omega
              have Hidx := Lib.hid hidx
              clear hput2 hbx3 hBw3 hown hown0 hbx hBw hd0 hd' hidx hge2
              generalize s2[mx s2] = sb at *
              generalize mx s2 = bm at *
              have hbb : Below wr.heap.size wr wr.drew := below_drewN wr 1
              go_wp2_with fail
              refine wp_region_held_tail 11 (S := fun W' => W'.cell? ⟨w1.heap.size, 0, none⟩ = some (.int .i64 m) ∧ W'.cell? ⟨w1.heap.size, 1, none⟩ = some (.slice (some ⟨g4, 0, none⟩) cs.length cap5) ∧ W'.cell? ⟨g4, bm, none⟩ = some (.int .i64 sb) ∧ Below wr.heap.size wr W' ∧ (∃ k, W' = wr.drewN k)) (by kernel_rfl) (by decide +kernel) ?_ (fun hHeld => ?_)
              · (try go_split_ands); refine ⟨?_, ?_, ?_, ?_, ?_⟩ <;> first | assumption | exact ⟨1, rfl⟩ | exact cnext (by assumption) (by assumption) | exact bnext (by assumption) (by assumption) | exact Below.alloc (by assumption) (Below.size (by assumption)) _ | (go_keep; done)
              simp only [List.take_succ_cons, List.take_zero, List.drop_succ_cons, List.drop_zero, List.length_cons, List.length_nil, Nat.reduceAdd]
              refine wpAnyH_tk (i := 0) (v := ?_) (some 119) rfl rfl (by kernel_rfl) (by decide +kernel) (by decide +kernel) (fun _ _ _ h => h) (by kernel_rfl) ?_ hHeld ?_
              rotate_left
              · (intro w hSw; (try dsimp only at hSw); go_simp <;> with_reducible rfl)
              (try simp only [Act.put, List.setIfInBounds_toArray, List.set_cons_zero, List.set_cons_succ])
              refine wpAnyH_tk (i := 1) (v := ?_) (some 120) rfl rfl (by kernel_rfl) (by decide +kernel) (by decide +kernel) (fun _ _ _ h => h) (by kernel_rfl) ?_ hHeld ?_
              rotate_left
              · (intro w hSw; (try dsimp only at hSw); go_simp <;> with_reducible rfl)
              (try simp only [Act.put, List.setIfInBounds_toArray, List.set_cons_zero, List.set_cons_succ])
              refine wpAnyH_tk (i := 2) (v := ?_) (some 121) rfl rfl (by kernel_rfl) (by decide +kernel) (by decide +kernel) (fun _ _ _ h => h) (by kernel_rfl) ?_ hHeld ?_
              rotate_left
              · (intro w hSw; (try dsimp only at hSw); go_simp <;> with_reducible rfl)
              (try simp only [Act.put, List.setIfInBounds_toArray, List.set_cons_zero, List.set_cons_succ])
              refine wpAnyH_tk (i := 3) (v := ?_) (some 122) rfl rfl (by kernel_rfl) (by decide +kernel) (by decide +kernel) (fun _ _ _ h => h) (by kernel_rfl) ?_ hHeld ?_
              rotate_left
              · (intro w hSw; (try dsimp only at hSw); go_simp <;> with_reducible rfl)
              (try simp only [Act.put, List.setIfInBounds_toArray, List.set_cons_zero, List.set_cons_succ])
              refine wpAnyH_tk (i := 4) (v := ?_) (some 123) rfl rfl (by kernel_rfl) (by decide +kernel) (by decide +kernel) (fun _ _ _ h => h) (by kernel_rfl) ?_ hHeld ?_
              rotate_left
              · (intro w hSw; (try dsimp only at hSw); go_simp <;> with_reducible rfl)
              (try simp only [Act.put, List.setIfInBounds_toArray, List.set_cons_zero, List.set_cons_succ])
              refine wpAnyH_tk (i := 5) (v := ?_) (some 124) rfl rfl (by kernel_rfl) (by decide +kernel) (by decide +kernel) (fun _ _ _ h => h) (by kernel_rfl) ?_ hHeld ?_
              rotate_left
              · (intro w hSw; (try dsimp only at hSw); go_simp <;> with_reducible rfl)
              (try simp only [Act.put, List.setIfInBounds_toArray, List.set_cons_zero, List.set_cons_succ])
              refine wpAnyH_ready (rs := [6]) (by kernel_rfl) (by simp) ?_
              refine AllReadyH.cons rfl (fun K hK => ?_) AllReadyH.nil
              go_simp
              with_reducible refine Calls.mono (max_any _ s2 _ (HRs.out.below (by go_split_ands; assumption)) (by rw [Hsl.out]; omega)) ?_
              rw [Hmx.out]
              rintro e w' ⟨rfl, rfl⟩
              try go_wp2_with fail
              refine hK.out _ _ ?_ (fun hHeld => ?_)
              · (try go_split_ands); refine ⟨?_, ?_, ?_, ?_, ?_⟩ <;> first | assumption | exact ⟨1, rfl⟩ | exact cnext (by assumption) (by assumption) | exact bnext (by assumption) (by assumption) | exact Below.alloc (by assumption) (Below.size (by assumption)) _ | (go_keep; done)
              clear hK K
              (try simp only [Act.put, List.setIfInBounds_toArray, List.set_cons_zero, List.set_cons_succ])
              refine wpAnyH_ready (rs := [7]) (by kernel_rfl) (by simp) ?_
              refine AllReadyH.cons rfl (fun K hK => ?_) AllReadyH.nil
              go_simp
              with_reducible refine Calls.mono (Hidx.out _ (HRs.out.below (by go_split_ands; assumption))) ?_
              rintro e w' ⟨rfl, rfl⟩
              try go_wp2_with fail
              refine hK.out _ _ ?_ (fun hHeld => ?_)
              · (try go_split_ands); refine ⟨?_, ?_, ?_, ?_, ?_⟩ <;> first | assumption | exact ⟨1, rfl⟩ | exact cnext (by assumption) (by assumption) | exact bnext (by assumption) (by assumption) | exact Below.alloc (by assumption) (Below.size (by assumption)) _ | (go_keep; done)
              clear hK K
              (try simp only [Act.put, List.setIfInBounds_toArray, List.set_cons_zero, List.set_cons_succ])
              refine wpAnyH_tk (i := 8) (v := ?_) (some 127) rfl rfl (by kernel_rfl) (by decide +kernel) (by decide +kernel) (fun _ _ _ h => h) (by kernel_rfl) ?_ hHeld ?_
              rotate_left
              · (intro w hSw; (try dsimp only at hSw); go_simp <;> with_reducible rfl)
              (try simp only [Act.put, List.setIfInBounds_toArray, List.set_cons_zero, List.set_cons_succ])
              refine wpAnyH_tk (i := 9) (v := ?_) (some 128) rfl rfl (by kernel_rfl) (by decide +kernel) (by decide +kernel) (fun _ _ _ h => h) (by kernel_rfl) ?_ hHeld ?_
              rotate_left
              · (intro w hSw; (try dsimp only at hSw); go_simp <;> with_reducible rfl)
              (try simp only [Act.put, List.setIfInBounds_toArray, List.set_cons_zero, List.set_cons_succ])
              refine wpAnyH_tk (i := 10) (v := ?_) (some 129) rfl rfl (by kernel_rfl) (by decide +kernel) (by decide +kernel) (fun _ _ _ h => h) (by kernel_rfl) ?_ hHeld ?_
              rotate_left
              · (intro w hSw; (try dsimp only at hSw); go_simp <;> with_reducible rfl)
              (try simp only [Act.put, List.setIfInBounds_toArray, List.set_cons_zero, List.set_cons_succ])
              refine wpAnyH_done (by kernel_rfl) ?_ _
              show wpList _ _ _ _ _ _
              clear hHeld hbb
              go_wp2
              go_roundg d'
              case measure => exact hmeas
              case rel => exact ⟨d', add1 s2 bm (-1), some ⟨g4, 0, none⟩, cap5, Nat.le_refl _, by rw [HSum.out]; exact hS4', by rw [HSum.out]; exact Hdd.out, HU4.out, by rw [add1_len]; exact Hsl.out, HS'.out, hcN, blk_next (below_drewN _ 1) Hhead.out.2.1, by rw [← Hsl.out]; exact own_below (below_drewN _ 1) Hhead.out.1, bnext Hhead.out.2.2 (below_drewN _ 1)⟩
            · have hdec : decide ((N : Int) < ac) = false := decide_eq_false hgt
              go_wp2_with fail
              refine wp_region_held_drew (S := fun W' => W'.cell? ⟨w1.heap.size, 0, none⟩ = some (.int .i64 m) ∧ W'.cell? ⟨w1.heap.size, 1, none⟩ = some (.slice ao5 cs.length cap5) ∧ Below wr.heap.size wr W') (by kernel_rfl) ?_ (fun hHeld => ?_)
              · (try go_split_ands); refine ⟨?_, ?_, ?_⟩ <;> first | assumption | exact cnext (by assumption) (by assumption) | exact bnext (by assumption) (by assumption) | exact Below.alloc (by assumption) (Below.size (by assumption)) _ | (go_keep; done)
              refine wpAnyH_tk (i := 0) (v := ?_) (some 113) rfl rfl (by kernel_rfl) (by decide +kernel) (by decide +kernel) (fun _ _ _ h => h) (by kernel_rfl) ?_ hHeld ?_
              rotate_left
              · (intro w hSw; (try dsimp only at hSw); go_simp <;> with_reducible rfl)
              (try simp only [Act.put, List.setIfInBounds_toArray, List.set_cons_zero, List.set_cons_succ])
              refine wpAnyH_tk (i := 1) (v := ?_) (some 114) rfl rfl (by kernel_rfl) (by decide +kernel) (by decide +kernel) (fun _ _ _ h => h) (by kernel_rfl) ?_ hHeld ?_
              rotate_left
              · (intro w hSw; (try dsimp only at hSw); go_simp <;> with_reducible rfl)
              (try simp only [Act.put, List.setIfInBounds_toArray, List.set_cons_zero, List.set_cons_succ])
              refine wpAnyH_tk (i := 3) (v := ?_) (some 116) rfl rfl (by kernel_rfl) (by decide +kernel) (by decide +kernel) (fun _ _ _ h => h) (by kernel_rfl) ?_ hHeld ?_
              rotate_left
              · (intro w hSw; (try dsimp only at hSw); go_simp <;> with_reducible rfl)
              (try simp only [Act.put, List.setIfInBounds_toArray, List.set_cons_zero, List.set_cons_succ])
              refine wpAnyH_ready (rs := [2]) (by kernel_rfl) (by simp) ?_
              refine AllReadyH.cons rfl (fun K hK => ?_) AllReadyH.nil
              go_simp
              with_reducible refine Calls.mono (sumOf_any _ s2 _ (HRss.out.below (by go_split_ands; assumption)) HSs.out (by rw [Hsl.out]; omega)) ?_
              rw [Hacc.out]
              rintro e w' ⟨rfl, rfl⟩
              try go_wp2_with fail
              refine hK.out _ _ ?_ (fun hHeld => ?_)
              · (try go_split_ands); refine ⟨?_, ?_, ?_⟩ <;> first | assumption | exact cnext (by assumption) (by assumption) | exact bnext (by assumption) (by assumption) | exact Below.alloc (by assumption) (Below.size (by assumption)) _ | (go_keep; done)
              clear hK K
              (try simp only [Act.put, List.setIfInBounds_toArray, List.set_cons_zero, List.set_cons_succ])
              refine wpAnyH_ready (rs := [4]) (by kernel_rfl) (by simp) ?_
              refine AllReadyH.cons rfl (fun K hK => ?_) AllReadyH.nil
              go_simp
              with_reducible refine Calls.mono (hsz _ _) ?_
              rintro e w4 ⟨rfl, hb4⟩
              try go_wp2_with fail
              refine hK.out _ _ ?_ (fun hHeld => ?_)
              · (try go_split_ands); refine ⟨?_, ?_, ?_⟩ <;> first | assumption | exact cnext (by assumption) (by assumption) | exact bnext (by assumption) (by assumption) | exact Below.alloc (by assumption) (Below.size (by assumption)) _ | (go_keep; done)
              clear hK K
              (try simp only [Act.put, List.setIfInBounds_toArray, List.set_cons_zero, List.set_cons_succ])
              refine wpAnyH_tk (i := 5) (v := ?_) (some 118) rfl rfl (by kernel_rfl) (by decide +kernel) (by decide +kernel) (fun _ _ _ h => h) (by kernel_rfl) ?_ hHeld ?_
              rotate_left
              · (intro w hSw; (try dsimp only at hSw); go_simp <;> with_reducible rfl)
              (try simp only [Act.put, List.setIfInBounds_toArray, List.set_cons_zero, List.set_cons_succ])
              refine wpAnyH_done (by kernel_rfl) ?_ _
              have hB4 : Below wr.heap.size wr w4 := by go_split_ands; assumption
              have hbx := blk_next hB4 hbx
              have hown : OwnI _ w4 _ s2 := own_below hB4 hown
              have hBw := bnext hBw hB4
              clear hHeld hB4 hb4 x0 x1 hbb HRss
              have hd0 : d2 = 0 := by have := Hd.out; omega
              have hss : s2 = shfF (N : Int) cs := by rw [← HF.out, hd0]; rfl
              have HZ2 := Lib.hid (show shfZ (cs.length : Int) cs (m : Int) = s2 by rw [HZ.out, hss])
              have hi64 : AllI64 s2 := fun z hz => by have := Hzs.out z hz; constructor <;> omega
              rw [← Hsl.out] at hown hbx
              have ho := OwnI.oi hown hi64
              have hRr := blk_below hBw hwR hR
              obtain ⟨x0, x1, -, -⟩ := blk2 hbx
              obtain ⟨r0, r1, q0, q1⟩ := blk2 hRr
              have hfo := (ho.box (w.heap.size + 1) (by omega) (.int .i64 m) (.slice ao5 s2.length cap5)).mono (show w.heap.size ≤ w1.heap.size + 1 by omega)
              have hfB := below_box (bnext hB hBw) (w.heap.size + 1) (by omega) (.int .i64 m) (.slice ao5 s2.length cap5)
              have Hfo := Lib.hid hfo
              have HfB := Lib.hid hfB
              clear hd0 hss hi64 ho hfo hfB hdec hown hbx hBw hA hR hB a0 a1 hsz hng hng2 hwN hLi
              go_wp2
              have HFIN := Lib.hid (And.intro HZ2.out (And.intro Hfo.out HfB.out))
              refine bodyPost_ret (v := .tuple #[.agg #[.int .i64 m, .slice ao5 s2.length cap5], .bool true]) (by simp [results, Try.results7, go_sem, r0, r1]) rfl ?_
              exact ⟨_, by rw [HN.out, HOK.out], by rw [HFIN.out.1]; exact HFIN.out.2.1, HFIN.out.2.2⟩

set_option maxHeartbeats 2000000 in
theorem implShf_b1 (n : Int) (v : Value) (cs : List Int) (p : Int) (w : World) (h : RI w v cs) (hc : cts n cs = true) (hp : inB p 1 8 = true) (hn : ¬ n ≤ 2 ^ p.toNat) :
    Calls Try.prog 7 #[.agg #[.int .i64 n, v], .int .i64 p] w fun e w' => ∃ v', e = .returned (.tuple #[.agg #[.int .i64 (shfN n cs p), v'], .bool (shfOk n cs p)]) ∧ OI w.heap.size w' v' (shfZ n cs p) ∧ Below w.heap.size w w' := by
  obtain ⟨ao, cap, rfl⟩ := h.shape
  have hlen := h.len
  have hb : ∀ o o', Below w.heap.size w ((w.alloc o).alloc o') := fun o o' => by go_grown
  have HRI := Lib.hid h
  clear h
  have hbad : shfOk n cs p = false := by rw [shfOk, hc, hp]; simp [hn]
  have HB := Lib.hid (show shfZ n cs p = [] ∧ shfN n cs p = 0 from ⟨by rw [shfZ, hbad]; rfl, by rw [shfN, hbad]; rfl⟩)
  have HOK := Lib.hid hbad
  clear hbad
  have hp' := inB_eq hp
  simp only [if_true] at hp'
  obtain ⟨m, rfl⟩ := Int.eq_ofNat_of_zero_le (show 0 ≤ p by omega)
  have hm8 : m ≤ 8 := by omega
  have hLi : (2 : Int) ^ m = ((2 ^ m : Nat) : Int) := by simp
  have hN256 : 2 ^ m ≤ 256 := Nat.le_trans (Nat.pow_le_pow_right (by decide) hm8) (by decide)
  rw [Int.toNat_natCast, hLi] at hn
  generalize 2 ^ m = N at *
  have hng : decide ((N : Int) < n) = true := decide_eq_true (by omega)
  have hwN : IntKind.i64.wrap (N : Int) = N := IntWalk.i64_in _ (by omega)
  go_enter Try.func7, Try.ntmps7
  go_wp2_with fail
  have hB0 := hb (.cells #[.int .i64 n, .slice ao cs.length cap] 27) (.cells #[.int .i64 0, .slice none 0 0] 30)
  have hA : ((w.alloc (.cells #[.int .i64 n, .slice ao cs.length cap] 27)).alloc (.cells #[.int .i64 0, .slice none 0 0] 30)).heap[w.heap.size]? = some (.cells #[.int .i64 n, .slice ao cs.length cap] 27 (0, 0)) := blk_alloc (heap_alloc_new w _)
  have hR : ((w.alloc (.cells #[.int .i64 n, .slice ao cs.length cap] 27)).alloc (.cells #[.int .i64 0, .slice none 0 0] 30)).heap[w.heap.size + 1]? = some (.cells #[.int .i64 0, .slice none 0 0] 30 (0, 0)) := by
    have := heap_alloc_new (w.alloc (.cells #[.int .i64 n, .slice ao cs.length cap] 27)) (.cells #[.int .i64 0, .slice none 0 0] 30)
    rwa [World.size_alloc] at this
  generalize hW0 : ((w.alloc (.cells #[.int .i64 n, .slice ao cs.length cap] 27)).alloc (.cells #[.int .i64 0, .slice none 0 0] 30)) = W0 at *
  clear hW0 hb
  have HR0 := Lib.hid (HRI.out.below hB0)
  obtain ⟨a0, a1, -, -⟩ := blk2 hA
  have hbb : Below W0.heap.size W0 W0.drew := below_drewN W0 1
  refine wp_region_held_drew (S := fun W' => W'.cell? ⟨w.heap.size, 0, none⟩ = some (.int .i64 n) ∧ W'.cell? ⟨w.heap.size, 1, none⟩ = some (.slice ao cs.length cap) ∧ Below W0.heap.size W0 W') (by kernel_rfl) ?_ (fun hHeld => ?_)
  · (try go_split_ands); refine ⟨?_, ?_, ?_⟩ <;> first | assumption | exact cnext (by assumption) (by assumption) | exact bnext (by assumption) (by assumption) | exact Below.alloc (by assumption) (Below.size (by assumption)) _ | (go_keep; done)
  refine wpAnyH_tk (i := 0) (v := ?_) (some 13) rfl rfl (by kernel_rfl) (by decide +kernel) (by decide +kernel) (fun _ _ _ h => h) (by kernel_rfl) ?_ hHeld ?_
  rotate_left
  · (intro w hSw; (try dsimp only at hSw); go_simp <;> with_reducible rfl)
  (try simp only [Act.put, List.setIfInBounds_toArray, List.set_cons_zero, List.set_cons_succ])
  refine wpAnyH_ready (rs := [1]) (by kernel_rfl) (by simp) ?_
  refine AllReadyH.cons rfl (fun K hK => ?_) AllReadyH.nil
  go_simp
  with_reducible refine Calls.mono (implCounts_any n _ cs _ (HR0.out.below (by go_split_ands; assumption))) ?_
  rintro e w1 ⟨rfl, hb1⟩
  rw [hc]
  try go_wp2_with fail
  refine hK.out _ _ ?_ (fun hHeld => ?_)
  · (try go_split_ands); refine ⟨?_, ?_, ?_⟩ <;> first | assumption | exact cnext (by assumption) (by assumption) | exact bnext (by assumption) (by assumption) | exact Below.alloc (by assumption) (Below.size (by assumption)) _ | (go_keep; done)
  clear hK K
  (try simp only [Act.put, List.setIfInBounds_toArray, List.set_cons_zero, List.set_cons_succ])
  refine wpAnyH_tk (i := 2) (v := ?_) (some 15) rfl rfl (by kernel_rfl) (by decide +kernel) (by decide +kernel) (fun _ _ _ h => h) (by kernel_rfl) ?_ hHeld ?_
  rotate_left
  · (intro w hSw; (try dsimp only at hSw); go_simp <;> with_reducible rfl)
  (try simp only [Act.put, List.setIfInBounds_toArray, List.set_cons_zero, List.set_cons_succ])
  refine wpAnyH_tk (i := 3) (v := ?_) (some 16) rfl rfl (by kernel_rfl) (by decide +kernel) (by decide +kernel) (fun _ _ _ h => h) (by kernel_rfl) ?_ hHeld ?_
  rotate_left
  · (intro w hSw; (try dsimp only at hSw); go_simp <;> with_reducible rfl)
  (try simp only [Act.put, List.setIfInBounds_toArray, List.set_cons_zero, List.set_cons_succ])
  refine wpAnyH_tk (i := 4) (v := ?_) (some 17) rfl rfl (by kernel_rfl) (by decide +kernel) (by decide +kernel) (fun _ _ _ h => h) (by kernel_rfl) ?_ hHeld ?_
  rotate_left
  · (intro w hSw; (try dsimp only at hSw); go_simp <;> with_reducible rfl)
  (try simp only [Act.put, List.setIfInBounds_toArray, List.set_cons_zero, List.set_cons_succ])
  refine wpAnyH_ready (rs := [5]) (by kernel_rfl) (by simp) ?_
  refine AllReadyH.cons rfl (fun K hK => ?_) AllReadyH.nil
  go_simp
  with_reducible refine Calls.mono (within_any _ _ _ _) ?_
  rintro e w' ⟨rfl, rfl⟩
  rw [hp]
  try go_wp2_with fail
  refine hK.out _ _ ?_ (fun hHeld => ?_)
  · (try go_split_ands); refine ⟨?_, ?_, ?_⟩ <;> first | assumption | exact cnext (by assumption) (by assumption) | exact bnext (by assumption) (by assumption) | exact Below.alloc (by assumption) (Below.size (by assumption)) _ | (go_keep; done)
  clear hK K
  (try simp only [Act.put, List.setIfInBounds_toArray, List.set_cons_zero, List.set_cons_succ])
  refine wpAnyH_tk (i := 6) (v := ?_) (some 19) rfl rfl (by kernel_rfl) (by decide +kernel) (by decide +kernel) (fun _ _ _ h => h) (by kernel_rfl) ?_ hHeld ?_
  rotate_left
  · (intro w hSw; (try dsimp only at hSw); go_simp <;> with_reducible rfl)
  (try simp only [Act.put, List.setIfInBounds_toArray, List.set_cons_zero, List.set_cons_succ])
  refine wpAnyH_tk (i := 7) (v := ?_) (some 20) rfl rfl (by kernel_rfl) (by decide +kernel) (by decide +kernel) (fun _ _ _ h => h) (by kernel_rfl) ?_ hHeld ?_
  rotate_left
  · (intro w hSw; (try dsimp only at hSw); go_simp <;> with_reducible rfl)
  (try simp only [Act.put, List.setIfInBounds_toArray, List.set_cons_zero, List.set_cons_succ])
  refine wpAnyH_tk (i := 8) (v := ?_) (some 21) rfl rfl (by kernel_rfl) (by decide +kernel) (by decide +kernel) (fun _ _ _ h => h) (by kernel_rfl) ?_ hHeld ?_
  rotate_left
  · (intro w hSw; (try dsimp only at hSw); go_simp <;> with_reducible rfl)
  (try simp only [Act.put, List.setIfInBounds_toArray, List.set_cons_zero, List.set_cons_succ])
  refine wpAnyH_tk (i := 9) (v := ?_) (some 22) rfl rfl (by kernel_rfl) (by decide +kernel) (by decide +kernel) (fun _ _ _ h => h) (by kernel_rfl) ?_ hHeld ?_
  rotate_left
  · (intro w hSw; (try dsimp only at hSw); go_simp <;> with_reducible rfl)
  (try simp only [Act.put, List.setIfInBounds_toArray, List.set_cons_zero, List.set_cons_succ])
  refine wpAnyH_tk (i := 10) (v := ?_) (some 23) rfl rfl (by kernel_rfl) (by decide +kernel) (by decide +kernel) (fun _ _ _ h => h) (by kernel_rfl) ?_ hHeld ?_
  rotate_left
  · (intro w hSw; (try dsimp only at hSw); go_simp <;> with_reducible rfl)
  (try simp only [Act.put, List.setIfInBounds_toArray, List.set_cons_zero, List.set_cons_succ])
  refine wpAnyH_tk (i := 11) (v := ?_) (some 24) rfl rfl (by kernel_rfl) (by decide +kernel) (by decide +kernel) (fun _ _ _ h => h) (by kernel_rfl) ?_ hHeld ?_
  rotate_left
  · (intro w hSw; (try dsimp only at hSw); go_simp <;> with_reducible rfl)
  (try simp only [Act.put, List.setIfInBounds_toArray, List.set_cons_zero, List.set_cons_succ])
  refine wpAnyH_tk (i := 12) (v := ?_) (some 25) rfl rfl (by kernel_rfl) (by decide +kernel) (by decide +kernel) (fun _ _ _ h => h) (by kernel_rfl) ?_ hHeld ?_
  rotate_left
  · (intro w hSw; (try dsimp only at hSw); go_simp <;> with_reducible rfl)
  (try simp only [Act.put, List.setIfInBounds_toArray, List.set_cons_zero, List.set_cons_succ])
  refine wpAnyH_tk (i := 13) (v := ?_) (some 26) rfl rfl (by kernel_rfl) (by decide +kernel) (by decide +kernel) (fun _ _ _ h => h) (by kernel_rfl) ?_ hHeld ?_
  rotate_left
  · (intro w hSw; (try dsimp only at hSw); go_simp <;> with_reducible rfl)
  (try simp only [Act.put, List.setIfInBounds_toArray, List.set_cons_zero, List.set_cons_succ])
  refine wpAnyH_tk (i := 14) (v := ?_) (some 27) rfl rfl (by kernel_rfl) (by decide +kernel) (by decide +kernel) (fun _ _ _ h => h) (by kernel_rfl) ?_ hHeld ?_
  rotate_left
  · (intro w hSw; (try dsimp only at hSw); go_simp <;> with_reducible rfl)
  (try simp only [Act.put, List.setIfInBounds_toArray, List.set_cons_zero, List.set_cons_succ])
  refine wpAnyH_done (by kernel_rfl) ?_ _
  have hBq : Below W0.heap.size W0 w1 := by go_split_ands; assumption
  have hRr := blk_next hBq hR
  obtain ⟨r0, r1, q0, q1⟩ := blk2 hRr
  have HfB := Lib.hid (below_box (bnext hB0 hBq) (w.heap.size + 1) (by omega) (.int .i64 0) (.slice none 0 0))
  clear hHeld hb1 hbb hB0 hBq a0 a1 hA hR
  go_wp2
  exact bodyPost_ret (v := .tuple #[.agg #[.int .i64 0, .slice none 0 0], .bool false]) (by simp [results, Try.results7, go_sem, r0, r1]) rfl ⟨.slice none 0 0, by rw [HB.out.2, HOK.out], by rw [HB.out.1]; exact OI.nil _ _, HfB.out⟩

set_option maxHeartbeats 2000000 in
theorem implShf_b2 (n : Int) (v : Value) (cs : List Int) (p : Int) (w : World) (h : RI w v cs) (hc : cts n cs = true) (hp : ¬ inB p 1 8 = true) :
    Calls Try.prog 7 #[.agg #[.int .i64 n, v], .int .i64 p] w fun e w' => ∃ v', e = .returned (.tuple #[.agg #[.int .i64 (shfN n cs p), v'], .bool (shfOk n cs p)]) ∧ OI w.heap.size w' v' (shfZ n cs p) ∧ Below w.heap.size w w' := by
  obtain ⟨ao, cap, rfl⟩ := h.shape
  have hlen := h.len
  have hb : ∀ o o', Below w.heap.size w ((w.alloc o).alloc o') := fun o o' => by go_grown
  have HRI := Lib.hid h
  clear h
  have hp : inB p 1 8 = false := by simpa using hp
  have hbad : shfOk n cs p = false := by rw [shfOk, hc, hp]; rfl
  have HB := Lib.hid (show shfZ n cs p = [] ∧ shfN n cs p = 0 from ⟨by rw [shfZ, hbad]; rfl, by rw [shfN, hbad]; rfl⟩)
  have HOK := Lib.hid hbad
  clear hbad
  skip
  go_enter Try.func7, Try.ntmps7
  go_wp2_with fail
  have hB0 := hb (.cells #[.int .i64 n, .slice ao cs.length cap] 27) (.cells #[.int .i64 0, .slice none 0 0] 30)
  have hA : ((w.alloc (.cells #[.int .i64 n, .slice ao cs.length cap] 27)).alloc (.cells #[.int .i64 0, .slice none 0 0] 30)).heap[w.heap.size]? = some (.cells #[.int .i64 n, .slice ao cs.length cap] 27 (0, 0)) := blk_alloc (heap_alloc_new w _)
  have hR : ((w.alloc (.cells #[.int .i64 n, .slice ao cs.length cap] 27)).alloc (.cells #[.int .i64 0, .slice none 0 0] 30)).heap[w.heap.size + 1]? = some (.cells #[.int .i64 0, .slice none 0 0] 30 (0, 0)) := by
    have := heap_alloc_new (w.alloc (.cells #[.int .i64 n, .slice ao cs.length cap] 27)) (.cells #[.int .i64 0, .slice none 0 0] 30)
    rwa [World.size_alloc] at this
  generalize hW0 : ((w.alloc (.cells #[.int .i64 n, .slice ao cs.length cap] 27)).alloc (.cells #[.int .i64 0, .slice none 0 0] 30)) = W0 at *
  clear hW0 hb
  have HR0 := Lib.hid (HRI.out.below hB0)
  obtain ⟨a0, a1, -, -⟩ := blk2 hA
  have hbb : Below W0.heap.size W0 W0.drew := below_drewN W0 1
  refine wp_region_held_drew (S := fun W' => W'.cell? ⟨w.heap.size, 0, none⟩ = some (.int .i64 n) ∧ W'.cell? ⟨w.heap.size, 1, none⟩ = some (.slice ao cs.length cap) ∧ Below W0.heap.size W0 W') (by kernel_rfl) ?_ (fun hHeld => ?_)
  · (try go_split_ands); refine ⟨?_, ?_, ?_⟩ <;> first | assumption | exact cnext (by assumption) (by assumption) | exact bnext (by assumption) (by assumption) | exact Below.alloc (by assumption) (Below.size (by assumption)) _ | (go_keep; done)
  refine wpAnyH_tk (i := 0) (v := ?_) (some 13) rfl rfl (by kernel_rfl) (by decide +kernel) (by decide +kernel) (fun _ _ _ h => h) (by kernel_rfl) ?_ hHeld ?_
  rotate_left
  · (intro w hSw; (try dsimp only at hSw); go_simp <;> with_reducible rfl)
  (try simp only [Act.put, List.setIfInBounds_toArray, List.set_cons_zero, List.set_cons_succ])
  refine wpAnyH_ready (rs := [1]) (by kernel_rfl) (by simp) ?_
  refine AllReadyH.cons rfl (fun K hK => ?_) AllReadyH.nil
  go_simp
  with_reducible refine Calls.mono (implCounts_any n _ cs _ (HR0.out.below (by go_split_ands; assumption))) ?_
  rintro e w1 ⟨rfl, hb1⟩
  rw [hc]
  try go_wp2_with fail
  refine hK.out _ _ ?_ (fun hHeld => ?_)
  · (try go_split_ands); refine ⟨?_, ?_, ?_⟩ <;> first | assumption | exact cnext (by assumption) (by assumption) | exact bnext (by assumption) (by assumption) | exact Below.alloc (by assumption) (Below.size (by assumption)) _ | (go_keep; done)
  clear hK K
  (try simp only [Act.put, List.setIfInBounds_toArray, List.set_cons_zero, List.set_cons_succ])
  refine wpAnyH_tk (i := 2) (v := ?_) (some 15) rfl rfl (by kernel_rfl) (by decide +kernel) (by decide +kernel) (fun _ _ _ h => h) (by kernel_rfl) ?_ hHeld ?_
  rotate_left
  · (intro w hSw; (try dsimp only at hSw); go_simp <;> with_reducible rfl)
  (try simp only [Act.put, List.setIfInBounds_toArray, List.set_cons_zero, List.set_cons_succ])
  refine wpAnyH_tk (i := 3) (v := ?_) (some 16) rfl rfl (by kernel_rfl) (by decide +kernel) (by decide +kernel) (fun _ _ _ h => h) (by kernel_rfl) ?_ hHeld ?_
  rotate_left
  · (intro w hSw; (try dsimp only at hSw); go_simp <;> with_reducible rfl)
  (try simp only [Act.put, List.setIfInBounds_toArray, List.set_cons_zero, List.set_cons_succ])
  refine wpAnyH_tk (i := 4) (v := ?_) (some 17) rfl rfl (by kernel_rfl) (by decide +kernel) (by decide +kernel) (fun _ _ _ h => h) (by kernel_rfl) ?_ hHeld ?_
  rotate_left
  · (intro w hSw; (try dsimp only at hSw); go_simp <;> with_reducible rfl)
  (try simp only [Act.put, List.setIfInBounds_toArray, List.set_cons_zero, List.set_cons_succ])
  refine wpAnyH_ready (rs := [5]) (by kernel_rfl) (by simp) ?_
  refine AllReadyH.cons rfl (fun K hK => ?_) AllReadyH.nil
  go_simp
  with_reducible refine Calls.mono (within_any _ _ _ _) ?_
  rintro e w' ⟨rfl, rfl⟩
  rw [hp]
  try go_wp2_with fail
  refine hK.out _ _ ?_ (fun hHeld => ?_)
  · (try go_split_ands); refine ⟨?_, ?_, ?_⟩ <;> first | assumption | exact cnext (by assumption) (by assumption) | exact bnext (by assumption) (by assumption) | exact Below.alloc (by assumption) (Below.size (by assumption)) _ | (go_keep; done)
  clear hK K
  (try simp only [Act.put, List.setIfInBounds_toArray, List.set_cons_zero, List.set_cons_succ])
  refine wpAnyH_tk (i := 6) (v := ?_) (some 19) rfl rfl (by kernel_rfl) (by decide +kernel) (by decide +kernel) (fun _ _ _ h => h) (by kernel_rfl) ?_ hHeld ?_
  rotate_left
  · (intro w hSw; (try dsimp only at hSw); go_simp <;> with_reducible rfl)
  (try simp only [Act.put, List.setIfInBounds_toArray, List.set_cons_zero, List.set_cons_succ])
  refine wpAnyH_tk (i := 7) (v := ?_) (some 20) rfl rfl (by kernel_rfl) (by decide +kernel) (by decide +kernel) (fun _ _ _ h => h) (by kernel_rfl) ?_ hHeld ?_
  rotate_left
  · (intro w hSw; (try dsimp only at hSw); go_simp <;> with_reducible rfl)
  (try simp only [Act.put, List.setIfInBounds_toArray, List.set_cons_zero, List.set_cons_succ])
  refine wpAnyH_tk (i := 8) (v := ?_) (some 21) rfl rfl (by kernel_rfl) (by decide +kernel) (by decide +kernel) (fun _ _ _ h => h) (by kernel_rfl) ?_ hHeld ?_
  rotate_left
  · (intro w hSw; (try dsimp only at hSw); go_simp <;> with_reducible rfl)
  (try simp only [Act.put, List.setIfInBounds_toArray, List.set_cons_zero, List.set_cons_succ])
  refine wpAnyH_no (i := 9) (some 22) rfl rfl (by kernel_rfl) (by decide +kernel) (by decide +kernel) (fun _ _ _ h => h) (by kernel_rfl) hHeld ?_
  (try simp only [Act.put, List.setIfInBounds_toArray, List.set_cons_zero, List.set_cons_succ])
  refine wpAnyH_no (i := 10) (some 23) rfl rfl (by kernel_rfl) (by decide +kernel) (by decide +kernel) (fun _ _ _ h => h) (by kernel_rfl) hHeld ?_
  (try simp only [Act.put, List.setIfInBounds_toArray, List.set_cons_zero, List.set_cons_succ])
  refine wpAnyH_no (i := 11) (some 24) rfl rfl (by kernel_rfl) (by decide +kernel) (by decide +kernel) (fun _ _ _ h => h) (by kernel_rfl) hHeld ?_
  (try simp only [Act.put, List.setIfInBounds_toArray, List.set_cons_zero, List.set_cons_succ])
  refine wpAnyH_no (i := 12) (some 25) rfl rfl (by kernel_rfl) (by decide +kernel) (by decide +kernel) (fun _ _ _ h => h) (by kernel_rfl) hHeld ?_
  (try simp only [Act.put, List.setIfInBounds_toArray, List.set_cons_zero, List.set_cons_succ])
  refine wpAnyH_no (i := 13) (some 26) rfl rfl (by kernel_rfl) (by decide +kernel) (by decide +kernel) (fun _ _ _ h => h) (by kernel_rfl) hHeld ?_
  (try simp only [Act.put, List.setIfInBounds_toArray, List.set_cons_zero, List.set_cons_succ])
  refine wpAnyH_tk (i := 14) (v := ?_) (some 27) rfl rfl (by kernel_rfl) (by decide +kernel) (by decide +kernel) (fun _ _ _ h => h) (by kernel_rfl) ?_ hHeld ?_
  rotate_left
  · (intro w hSw; (try dsimp only at hSw); go_simp <;> with_reducible rfl)
  (try simp only [Act.put, List.setIfInBounds_toArray, List.set_cons_zero, List.set_cons_succ])
  refine wpAnyH_done (by kernel_rfl) ?_ _
  have hBq : Below W0.heap.size W0 w1 := by go_split_ands; assumption
  have hRr := blk_next hBq hR
  obtain ⟨r0, r1, q0, q1⟩ := blk2 hRr
  have HfB := Lib.hid (below_box (bnext hB0 hBq) (w.heap.size + 1) (by omega) (.int .i64 0) (.slice none 0 0))
  clear hHeld hb1 hbb hB0 hBq a0 a1 hA hR
  go_wp2
  exact bodyPost_ret (v := .tuple #[.agg #[.int .i64 0, .slice none 0 0], .bool false]) (by simp [results, Try.results7, go_sem, r0, r1]) rfl ⟨.slice none 0 0, by rw [HB.out.2, HOK.out], by rw [HB.out.1]; exact OI.nil _ _, HfB.out⟩

set_option maxHeartbeats 2000000 in
theorem implShf_b3 (n : Int) (v : Value) (cs : List Int) (p : Int) (w : World) (h : RI w v cs) (hc : ¬ cts n cs = true) :
    Calls Try.prog 7 #[.agg #[.int .i64 n, v], .int .i64 p] w fun e w' => ∃ v', e = .returned (.tuple #[.agg #[.int .i64 (shfN n cs p), v'], .bool (shfOk n cs p)]) ∧ OI w.heap.size w' v' (shfZ n cs p) ∧ Below w.heap.size w w' := by
  obtain ⟨ao, cap, rfl⟩ := h.shape
  have hlen := h.len
  have hb : ∀ o o', Below w.heap.size w ((w.alloc o).alloc o') := fun o o' => by go_grown
  have HRI := Lib.hid h
  clear h
  have hc : cts n cs = false := by simpa using hc
  have hbad : shfOk n cs p = false := by rw [shfOk, hc]; rfl
  have HB := Lib.hid (show shfZ n cs p = [] ∧ shfN n cs p = 0 from ⟨by rw [shfZ, hbad]; rfl, by rw [shfN, hbad]; rfl⟩)
  have HOK := Lib.hid hbad
  clear hbad
  skip
  go_enter Try.func7, Try.ntmps7
  go_wp2_with fail
  have hB0 := hb (.cells #[.int .i64 n, .slice ao cs.length cap] 27) (.cells #[.int .i64 0, .slice none 0 0] 30)
  have hA : ((w.alloc (.cells #[.int .i64 n, .slice ao cs.length cap] 27)).alloc (.cells #[.int .i64 0, .slice none 0 0] 30)).heap[w.heap.size]? = some (.cells #[.int .i64 n, .slice ao cs.length cap] 27 (0, 0)) := blk_alloc (heap_alloc_new w _)
  have hR : ((w.alloc (.cells #[.int .i64 n, .slice ao cs.length cap] 27)).alloc (.cells #[.int .i64 0, .slice none 0 0] 30)).heap[w.heap.size + 1]? = some (.cells #[.int .i64 0, .slice none 0 0] 30 (0, 0)) := by
    have := heap_alloc_new (w.alloc (.cells #[.int .i64 n, .slice ao cs.length cap] 27)) (.cells #[.int .i64 0, .slice none 0 0] 30)
    rwa [World.size_alloc] at this
  generalize hW0 : ((w.alloc (.cells #[.int .i64 n, .slice ao cs.length cap] 27)).alloc (.cells #[.int .i64 0, .slice none 0 0] 30)) = W0 at *
  clear hW0 hb
  have HR0 := Lib.hid (HRI.out.below hB0)
  obtain ⟨a0, a1, -, -⟩ := blk2 hA
  have hbb : Below W0.heap.size W0 W0.drew := below_drewN W0 1
  refine wp_region_held_drew (S := fun W' => W'.cell? ⟨w.heap.size, 0, none⟩ = some (.int .i64 n) ∧ W'.cell? ⟨w.heap.size, 1, none⟩ = some (.slice ao cs.length cap) ∧ Below W0.heap.size W0 W') (by kernel_rfl) ?_ (fun hHeld => ?_)
  · (try go_split_ands); refine ⟨?_, ?_, ?_⟩ <;> first | assumption | exact cnext (by assumption) (by assumption) | exact bnext (by assumption) (by assumption) | exact Below.alloc (by assumption) (Below.size (by assumption)) _ | (go_keep; done)
  refine wpAnyH_tk (i := 0) (v := ?_) (some 13) rfl rfl (by kernel_rfl) (by decide +kernel) (by decide +kernel) (fun _ _ _ h => h) (by kernel_rfl) ?_ hHeld ?_
  rotate_left
  · (intro w hSw; (try dsimp only at hSw); go_simp <;> with_reducible rfl)
  (try simp only [Act.put, List.setIfInBounds_toArray, List.set_cons_zero, List.set_cons_succ])
  refine wpAnyH_ready (rs := [1]) (by kernel_rfl) (by simp) ?_
  refine AllReadyH.cons rfl (fun K hK => ?_) AllReadyH.nil
  go_simp
  with_reducible refine Calls.mono (implCounts_any n _ cs _ (HR0.out.below (by go_split_ands; assumption))) ?_
  rintro e w1 ⟨rfl, hb1⟩
  rw [hc]
  try go_wp2_with fail
  refine hK.out _ _ ?_ (fun hHeld => ?_)
  · (try go_split_ands); refine ⟨?_, ?_, ?_⟩ <;> first | assumption | exact cnext (by assumption) (by assumption) | exact bnext (by assumption) (by assumption) | exact Below.alloc (by assumption) (Below.size (by assumption)) _ | (go_keep; done)
  clear hK K
  (try simp only [Act.put, List.setIfInBounds_toArray, List.set_cons_zero, List.set_cons_succ])
  refine wpAnyH_tk (i := 2) (v := ?_) (some 15) rfl rfl (by kernel_rfl) (by decide +kernel) (by decide +kernel) (fun _ _ _ h => h) (by kernel_rfl) ?_ hHeld ?_
  rotate_left
  · (intro w hSw; (try dsimp only at hSw); go_simp <;> with_reducible rfl)
  (try simp only [Act.put, List.setIfInBounds_toArray, List.set_cons_zero, List.set_cons_succ])
  refine wpAnyH_tk (i := 3) (v := ?_) (some 16) rfl rfl (by kernel_rfl) (by decide +kernel) (by decide +kernel) (fun _ _ _ h => h) (by kernel_rfl) ?_ hHeld ?_
  rotate_left
  · (intro w hSw; (try dsimp only at hSw); go_simp <;> with_reducible rfl)
  (try simp only [Act.put, List.setIfInBounds_toArray, List.set_cons_zero, List.set_cons_succ])
  refine wpAnyH_no (i := 4) (some 17) rfl rfl (by kernel_rfl) (by decide +kernel) (by decide +kernel) (fun _ _ _ h => h) (by kernel_rfl) hHeld ?_
  (try simp only [Act.put, List.setIfInBounds_toArray, List.set_cons_zero, List.set_cons_succ])
  refine wpAnyH_no (i := 5) (some 18) rfl rfl (by kernel_rfl) (by decide +kernel) (by decide +kernel) (fun _ _ _ h => h) (by kernel_rfl) hHeld ?_
  (try simp only [Act.put, List.setIfInBounds_toArray, List.set_cons_zero, List.set_cons_succ])
  refine wpAnyH_no (i := 6) (some 19) rfl rfl (by kernel_rfl) (by decide +kernel) (by decide +kernel) (fun _ _ _ h => h) (by kernel_rfl) hHeld ?_
  (try simp only [Act.put, List.setIfInBounds_toArray, List.set_cons_zero, List.set_cons_succ])
  refine wpAnyH_tk (i := 7) (v := ?_) (some 20) rfl rfl (by kernel_rfl) (by decide +kernel) (by decide +kernel) (fun _ _ _ h => h) (by kernel_rfl) ?_ hHeld ?_
  rotate_left
  · (intro w hSw; (try dsimp only at hSw); go_simp <;> with_reducible rfl)
  (try simp only [Act.put, List.setIfInBounds_toArray, List.set_cons_zero, List.set_cons_succ])
  refine wpAnyH_tk (i := 8) (v := ?_) (some 21) rfl rfl (by kernel_rfl) (by decide +kernel) (by decide +kernel) (fun _ _ _ h => h) (by kernel_rfl) ?_ hHeld ?_
  rotate_left
  · (intro w hSw; (try dsimp only at hSw); go_simp <;> with_reducible rfl)
  (try simp only [Act.put, List.setIfInBounds_toArray, List.set_cons_zero, List.set_cons_succ])
  refine wpAnyH_no (i := 9) (some 22) rfl rfl (by kernel_rfl) (by decide +kernel) (by decide +kernel) (fun _ _ _ h => h) (by kernel_rfl) hHeld ?_
  (try simp only [Act.put, List.setIfInBounds_toArray, List.set_cons_zero, List.set_cons_succ])
  refine wpAnyH_no (i := 10) (some 23) rfl rfl (by kernel_rfl) (by decide +kernel) (by decide +kernel) (fun _ _ _ h => h) (by kernel_rfl) hHeld ?_
  (try simp only [Act.put, List.setIfInBounds_toArray, List.set_cons_zero, List.set_cons_succ])
  refine wpAnyH_no (i := 11) (some 24) rfl rfl (by kernel_rfl) (by decide +kernel) (by decide +kernel) (fun _ _ _ h => h) (by kernel_rfl) hHeld ?_
  (try simp only [Act.put, List.setIfInBounds_toArray, List.set_cons_zero, List.set_cons_succ])
  refine wpAnyH_no (i := 12) (some 25) rfl rfl (by kernel_rfl) (by decide +kernel) (by decide +kernel) (fun _ _ _ h => h) (by kernel_rfl) hHeld ?_
  (try simp only [Act.put, List.setIfInBounds_toArray, List.set_cons_zero, List.set_cons_succ])
  refine wpAnyH_no (i := 13) (some 26) rfl rfl (by kernel_rfl) (by decide +kernel) (by decide +kernel) (fun _ _ _ h => h) (by kernel_rfl) hHeld ?_
  (try simp only [Act.put, List.setIfInBounds_toArray, List.set_cons_zero, List.set_cons_succ])
  refine wpAnyH_tk (i := 14) (v := ?_) (some 27) rfl rfl (by kernel_rfl) (by decide +kernel) (by decide +kernel) (fun _ _ _ h => h) (by kernel_rfl) ?_ hHeld ?_
  rotate_left
  · (intro w hSw; (try dsimp only at hSw); go_simp <;> with_reducible rfl)
  (try simp only [Act.put, List.setIfInBounds_toArray, List.set_cons_zero, List.set_cons_succ])
  refine wpAnyH_done (by kernel_rfl) ?_ _
  have hBq : Below W0.heap.size W0 w1 := by go_split_ands; assumption
  have hRr := blk_next hBq hR
  obtain ⟨r0, r1, q0, q1⟩ := blk2 hRr
  have HfB := Lib.hid (below_box (bnext hB0 hBq) (w.heap.size + 1) (by omega) (.int .i64 0) (.slice none 0 0))
  clear hHeld hb1 hbb hB0 hBq a0 a1 hA hR
  go_wp2
  exact bodyPost_ret (v := .tuple #[.agg #[.int .i64 0, .slice none 0 0], .bool false]) (by simp [results, Try.results7, go_sem, r0, r1]) rfl ⟨.slice none 0 0, by rw [HB.out.2, HOK.out], by rw [HB.out.1]; exact OI.nil _ _, HfB.out⟩

theorem implShf_any (n : Int) (v : Value) (cs : List Int) (p : Int) (w : World) (h : RI w v cs) :
    Calls Try.prog 7 #[.agg #[.int .i64 n, v], .int .i64 p] w fun e w' => ∃ v', e = .returned (.tuple #[.agg #[.int .i64 (shfN n cs p), v'], .bool (shfOk n cs p)]) ∧ OI w.heap.size w' v' (shfZ n cs p) ∧ Below w.heap.size w w' := by
  exact if hc : cts n cs = true then if hp : inB p 1 8 = true then if hn : n ≤ 2 ^ p.toNat then implShf_ok n v cs p w h hc hp hn else implShf_b1 n v cs p w h hc hp hn else implShf_b2 n v cs p w h hc hp else implShf_b3 n v cs p w h hc
end Go.Proofs.Ytnhcoggjnbldiaa
