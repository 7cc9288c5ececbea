/- Channels that are made by a function of their places, in the program. Conditions: what comes out is a valid channel. -/
import Derived.Test.YtiejljlmbpgbiaaTb4
namespace Go.Proofs.Ytiejljlmbpgbiaa
open Go.RowKit
set_option maxRecDepth 100000
set_option linter.unusedVariables false
set_option linter.unusedSimpArgs false

set_option maxHeartbeats 4000000 in
theorem madeSide_any (pa pb : Value) (a mb : Nat) (f : Nat → Nat → Nat) (w : World) (hok : ChanOk a mb (gridA f a mb))
    (hcl : ∀ W, Below w.heap.size w W → ∀ i k, i < a → k < mb → Calls Try.prog 49 #[.int .i64 i, .int .i64 k, pb, pa] W fun e w' => e = .returned (eF (f i k)) ∧ Below W.heap.size W w') :
    Calls Try.prog 39 #[.int .i64 a, .int .i64 mb, .func (.func 49) #[] #[pb, pa]] w fun e w' => ∃ v', e = .returned (.tuple #[.agg #[.int .i64 a, .int .i64 mb, v'], .bool true]) ∧ Og eF w.heap.size w' v' (gridA f a mb) ∧ Below w.heap.size w w' := by
  have a8 := hok.n8
  have b8 := hok.m8
  have hst : ∀ W', W' = (w.alloc (.cells #[.int .i64 0, .int .i64 0, .slice none 0 0] 27)).alloc (.cells #[.int .i64 a, .int .i64 mb, .slice none 0 0] 27) → MdS 27 w W' a mb (.slice none 0 0) (gridL f mb 0 0) := by
    intro W' e
    refine ⟨by rw [e]; go_grown, ?_, ?_, by rw [show gridL f mb 0 0 = [] from rfl]; exact ownF_nil _ _⟩
    · rw [e]; exact blk_alloc (heap_alloc_new w _)
    · have := heap_alloc_new (w.alloc (.cells #[.int .i64 0, .int .i64 0, .slice none 0 0] 27)) (.cells #[.int .i64 a, .int .i64 mb, .slice none 0 0] 27)
      rw [World.size_alloc] at this; rw [e]; exact this
  have Hst := Lib.hid hst
  have Hcl := Lib.hid hcl
  have Hok := Lib.hid hok
  clear hst hcl hok
  go_enter Try.func39, Try.ntmps39
  go_wp2
  go_loopw [15] (fun iv wr => ∃ (i : Nat) (out : Value), iv = .int .i64 i ∧ i ≤ a ∧ MdS 27 w wr a mb out (gridL f mb i 0)) (fun iv _ => a - (intOf iv).toNat)
  case atStart => exact ⟨0, .slice none 0 0, rfl, Nat.zero_le _, Hst.out _ rfl⟩
  case round =>
    clear Hst
    obtain ⟨i, out, rfl, hi, h⟩ := hrel
    by_cases hin : i < a
    · have H0 := Lib.hid h
      clear h
      go_wp2
      go_loopw [19] (fun kv wk => ∃ (k : Nat) (out : Value), kv = .int .i64 k ∧ k ≤ mb ∧ MdS 27 w wk a mb out (gridL f mb i k)) (fun kv _ => mb - (intOf kv).toNat)
      case atStart => exact ⟨0, out, rfl, Nat.zero_le _, H0.out⟩
      case round =>
        clear H0
        obtain ⟨k, out, rfl, hk, h⟩ := hrel
        have hsz2 : w.heap.size + 2 ≤ wr.heap.size := blk_lt h.c
        obtain ⟨c0, c1, c2, d0, d1, d2⟩ := cell3 h.c
        have HH := Lib.hid h
        have Hlen := Lib.hid (grid_len f mb i k)
        have hle : i * mb ≤ 64 := Nat.mul_le_mul (Nat.le_trans hi a8) b8
        obtain ⟨ao6, cap6, rfl⟩ := h.o.shape
        by_cases hkm : k < mb
        · have Hsn := Lib.hid (grid_snoc f mb i k)
          have hbb : Below wr.heap.size wr wr.drew := (Below.refl _ _).drew
          have hbb2 : Below (w.heap.size + 2) wr wr.drew := (Below.refl _ _).drew
          clear h
          have Hc := Lib.hid (fun W (hb : Below (w.heap.size + 2) wr W) => Hcl.out W (HH.out.hB.trans (hb.mono (by omega))) i k hin hkm)
          generalize f i k = x at Hsn Hc
          go_wp2
          refine wp_region_held_tail 9 (S := fun W' => W'.cell? ⟨w.heap.size + 1, 2, none⟩ = some (.slice ao6 (gridL f mb i k).length cap6) ∧ Below (w.heap.size + 2) wr W') (by kernel_rfl) (by decide +kernel) ?_ (fun hHeld => ?_)
          · (go_split_ands; refine ⟨?_, ?_⟩ <;> first | assumption | exact cnext (by assumption) (by assumption) | exact bup (by assumption) hsz2 (by assumption) | exact cnext (show Below _ _ (World.alloc _ _) by go_grown) (by assumption) | exact bup (by assumption) hsz2 (show Below _ _ (World.alloc _ _) by go_grown))
          simp only [List.take_succ_cons, List.take_zero, List.drop_succ_cons, List.drop_zero, List.length_cons, List.length_nil, Nat.reduceAdd]
          refine wpAnyH_tk (i := 0) (v := ?_) (some 22) rfl rfl (by kernel_rfl) (by decide +kernel) (by decide +kernel) (fun _ _ _ h => h) (by kernel_rfl) ?_ hHeld ?_
          rotate_left
          · (intro w hSw; (try dsimp only at hSw); go_simp <;> with_reducible rfl)
          (try simp only [Act.put, List.setIfInBounds_toArray, List.set_cons_zero, List.set_cons_succ])
          refine wpAnyH_tk (i := 1) (v := ?_) (some 23) rfl rfl (by kernel_rfl) (by decide +kernel) (by decide +kernel) (fun _ _ _ h => h) (by kernel_rfl) ?_ hHeld ?_
          rotate_left
          · (intro w hSw; (try dsimp only at hSw); go_simp <;> with_reducible rfl)
          (try simp only [Act.put, List.setIfInBounds_toArray, List.set_cons_zero, List.set_cons_succ])
          refine wpAnyH_tk (i := 2) (v := ?_) (some 24) rfl rfl (by kernel_rfl) (by decide +kernel) (by decide +kernel) (fun _ _ _ h => h) (by kernel_rfl) ?_ hHeld ?_
          rotate_left
          · (intro w hSw; (try dsimp only at hSw); go_simp <;> with_reducible rfl)
          (try simp only [Act.put, List.setIfInBounds_toArray, List.set_cons_zero, List.set_cons_succ])
          refine wpAnyH_tk (i := 3) (v := ?_) (some 25) rfl rfl (by kernel_rfl) (by decide +kernel) (by decide +kernel) (fun _ _ _ h => h) (by kernel_rfl) ?_ hHeld ?_
          rotate_left
          · (intro w hSw; (try dsimp only at hSw); go_simp <;> with_reducible rfl)
          (try simp only [Act.put, List.setIfInBounds_toArray, List.set_cons_zero, List.set_cons_succ])
          refine wpAnyH_tk (i := 4) (v := ?_) (some 26) rfl rfl (by kernel_rfl) (by decide +kernel) (by decide +kernel) (fun _ _ _ h => h) (by kernel_rfl) ?_ hHeld ?_
          rotate_left
          · (intro w hSw; (try dsimp only at hSw); go_simp <;> with_reducible rfl)
          (try simp only [Act.put, List.setIfInBounds_toArray, List.set_cons_zero, List.set_cons_succ])
          refine wpAnyH_ready (rs := [5]) (by kernel_rfl) (by simp) ?_
          refine AllReadyH.cons rfl (fun K hK => ?_) AllReadyH.nil
          go_simp
          with_reducible refine Calls.mono (Hc.out _ hHeld.2) ?_
          rintro e w4 ⟨rfl, hb4⟩
          try go_wp2_with fail
          refine hK.out _ _ ?_ (fun hHeld => ?_)
          · (go_split_ands; refine ⟨?_, ?_⟩ <;> first | assumption | exact cnext (by assumption) (by assumption) | exact bup (by assumption) hsz2 (by assumption) | exact cnext (show Below _ _ (World.alloc _ _) by go_grown) (by assumption) | exact bup (by assumption) hsz2 (show Below _ _ (World.alloc _ _) by go_grown))
          clear hK K
          (try simp only [Act.put, List.setIfInBounds_toArray, List.set_cons_zero, List.set_cons_succ])
          refine wpAnyH_ready (rs := [6]) (by kernel_rfl) (by simp) ?_
          refine AllReadyH.cons rfl (fun K hK => ?_) AllReadyH.nil
          go_simp
          refine hK.out _ _ ?_ (fun hHeld => ?_)
          · exact ⟨cnext (alloc_below w4 _) hHeld.1, bup hHeld.2 hsz2 (alloc_below w4 _)⟩
          clear hK K
          (try simp only [Act.put, List.setIfInBounds_toArray, List.set_cons_zero, List.set_cons_succ])
          refine wpAnyH_ready (rs := [7]) (by kernel_rfl) (by simp) ?_
          refine AllReadyH.cons rfl (fun K hK => ?_) AllReadyH.nil
          refine step_appF rfl (.tmp 23) (.tmp 28) rfl (w.heap.size + 2) (w.heap.size + 2) (Nat.le_refl _) (.slice ao6 (gridL f mb i k).length cap6) (gridL f mb i k) (by simp [Act.eval, Act.put]) (own_below (alloc_below w4 _) (own_below hb4 (own_below hbb HH.out.o))) hHeld.2 [x] ⟨w4.heap.size, 0, none⟩ 1 (by simp [Act.eval, Act.put]) (one_cells w4 x _) (by rw [Hlen.out]; simp; omega) (Nat.le_trans hsz2 hHeld.2.size) ?_
          intro v6 w6 hown6 hB6 hg6
          rw [← Hsn.out] at hown6
          obtain ⟨ao7, cap7, rfl⟩ := hown6.shape
          refine hK.out _ _ ?_ (fun hHeld => ?_)
          · exact ⟨(hB6.cell (p := ⟨w.heap.size + 1, 2, none⟩) (by show w.heap.size + 1 < w.heap.size + 2; omega)).trans c2, hB6⟩
          clear hK K
          (try simp only [Act.put, List.setIfInBounds_toArray, List.set_cons_zero, List.set_cons_succ])
          refine wpAnyH_tk (i := 8) (v := ?_) (some 30) rfl rfl (by kernel_rfl) (by decide +kernel) (by decide +kernel) (fun _ _ _ h => h) (by kernel_rfl) ?_ hHeld ?_
          rotate_left
          · (intro w hSw; (try dsimp only at hSw); go_simp <;> with_reducible rfl)
          (try simp only [Act.put, List.setIfInBounds_toArray, List.set_cons_zero, List.set_cons_succ])
          refine wpAnyH_done (by kernel_rfl) ?_ _
          show wpList _ _ _ _ _ _
          have hB6' : Below (w.heap.size + 2) wr w6 := hB6
          obtain ⟨c0', c1', c2', d0', d1', d2'⟩ := cell3 (blk_below hB6' (show w.heap.size + 1 < w.heap.size + 2 by omega) HH.out.c)
          have HN := Lib.hid (HH.out.next hB6' hown6)
          clear hHeld hown6 hB6 hg6 hb4 hbb hbb2 c0 c1 c2 d0 d1 d2
          go_wp2
          go_roundw
          case rel => exact ⟨k + 1, _, by go_num, by omega, HN.out⟩
          case measure => simp [intOf]; omega
        · obtain rfl : k = mb := by omega
          have HN := Lib.hid (show MdS 27 w wr a k _ (gridL f k (i + 1) 0) by rw [← grid_row]; exact HH.out)
          clear h
          go_wp2
          go_roundw
          case rel => exact ⟨i + 1, _, by go_num, by omega, HN.out⟩
          case measure => simp [intOf]; omega
    · obtain rfl : i = a := by omega
      have hja : gridL f mb i 0 = gridA f i mb := rfl
      rw [hja] at h
      obtain ⟨c0, c1, c2, d0, d1, d2⟩ := cell3 h.c
      have HH := Lib.hid h
      obtain ⟨ao6, cap6, rfl⟩ := h.o.shape
      have hg := asChannel_any i mb _ (gridA f i mb) wr HH.out.o.og.rg
      clear h
      rw [chan_of Hok.out] at hg
      simp only [cgN, cgV, Bool.false_eq_true, if_false, if_true] at hg
      go_wp2_with fail
      refine hg.mono ?_
      rintro e w9 ⟨rfl, hb9⟩
      obtain ⟨r0, r1, r2, q0, q1, q2⟩ := cell3 (blk_next hb9 HH.out.r)
      have hfB := below3 (bnext HH.out.hB hb9) w.heap.size (Nat.le_refl _) (.int .i64 i) (.int .i64 mb) (.slice ao6 (gridA f i mb).length cap6)
      have hfO := Lib.hid ((HH.out.o.og.below hb9).box3 w.heap.size (by omega) (.int .i64 i) (.int .i64 mb) (.slice ao6 (gridA f i mb).length cap6))
      clear c0 c1 c2 d0 d1 d2
      go_wp2
      exact bodyPost_ret (v := .tuple #[.agg #[.int .i64 i, .int .i64 mb, .slice ao6 (gridA f i mb).length cap6], .bool true]) (by simp [results, Try.results39, go_sem, r0, r1, r2]) rfl ⟨_, rfl, Og.mono (Nat.le_add_right _ 2) hfO.out, hfB⟩
set_option maxHeartbeats 4000000 in
theorem madeFlip_any (pa pb : Value) (a mb : Nat) (f : Nat → Nat → Nat) (w : World) (hok : ChanOk a mb (gridA f a mb))
    (hcl : ∀ W, Below w.heap.size w W → ∀ i k, i < a → k < mb → Calls Try.prog 40 #[.int .i64 i, .int .i64 k, pb, pa] W fun e w' => e = .returned (eF (f i k)) ∧ Below W.heap.size W w') :
    Calls Try.prog 39 #[.int .i64 a, .int .i64 mb, .func (.func 40) #[] #[pb, pa]] w fun e w' => ∃ v', e = .returned (.tuple #[.agg #[.int .i64 a, .int .i64 mb, v'], .bool true]) ∧ Og eF w.heap.size w' v' (gridA f a mb) ∧ Below w.heap.size w w' := by
  have a8 := hok.n8
  have b8 := hok.m8
  have hst : ∀ W', W' = (w.alloc (.cells #[.int .i64 0, .int .i64 0, .slice none 0 0] 27)).alloc (.cells #[.int .i64 a, .int .i64 mb, .slice none 0 0] 27) → MdS 27 w W' a mb (.slice none 0 0) (gridL f mb 0 0) := by
    intro W' e
    refine ⟨by rw [e]; go_grown, ?_, ?_, by rw [show gridL f mb 0 0 = [] from rfl]; exact ownF_nil _ _⟩
    · rw [e]; exact blk_alloc (heap_alloc_new w _)
    · have := heap_alloc_new (w.alloc (.cells #[.int .i64 0, .int .i64 0, .slice none 0 0] 27)) (.cells #[.int .i64 a, .int .i64 mb, .slice none 0 0] 27)
      rw [World.size_alloc] at this; rw [e]; exact this
  have Hst := Lib.hid hst
  have Hcl := Lib.hid hcl
  have Hok := Lib.hid hok
  clear hst hcl hok
  go_enter Try.func39, Try.ntmps39
  go_wp2
  go_loopw [15] (fun iv wr => ∃ (i : Nat) (out : Value), iv = .int .i64 i ∧ i ≤ a ∧ MdS 27 w wr a mb out (gridL f mb i 0)) (fun iv _ => a - (intOf iv).toNat)
  case atStart => exact ⟨0, .slice none 0 0, rfl, Nat.zero_le _, Hst.out _ rfl⟩
  case round =>
    clear Hst
    obtain ⟨i, out, rfl, hi, h⟩ := hrel
    by_cases hin : i < a
    · have H0 := Lib.hid h
      clear h
      go_wp2
      go_loopw [19] (fun kv wk => ∃ (k : Nat) (out : Value), kv = .int .i64 k ∧ k ≤ mb ∧ MdS 27 w wk a mb out (gridL f mb i k)) (fun kv _ => mb - (intOf kv).toNat)
      case atStart => exact ⟨0, out, rfl, Nat.zero_le _, H0.out⟩
      case round =>
        clear H0
        obtain ⟨k, out, rfl, hk, h⟩ := hrel
        have hsz2 : w.heap.size + 2 ≤ wr.heap.size := blk_lt h.c
        obtain ⟨c0, c1, c2, d0, d1, d2⟩ := cell3 h.c
        have HH := Lib.hid h
        have Hlen := Lib.hid (grid_len f mb i k)
        have hle : i * mb ≤ 64 := Nat.mul_le_mul (Nat.le_trans hi a8) b8
        obtain ⟨ao6, cap6, rfl⟩ := h.o.shape
        by_cases hkm : k < mb
        · have Hsn := Lib.hid (grid_snoc f mb i k)
          have hbb : Below wr.heap.size wr wr.drew := (Below.refl _ _).drew
          have hbb2 : Below (w.heap.size + 2) wr wr.drew := (Below.refl _ _).drew
          clear h
          have Hc := Lib.hid (fun W (hb : Below (w.heap.size + 2) wr W) => Hcl.out W (HH.out.hB.trans (hb.mono (by omega))) i k hin hkm)
          generalize f i k = x at Hsn Hc
          go_wp2
          refine wp_region_held_tail 9 (S := fun W' => W'.cell? ⟨w.heap.size + 1, 2, none⟩ = some (.slice ao6 (gridL f mb i k).length cap6) ∧ Below (w.heap.size + 2) wr W') (by kernel_rfl) (by decide +kernel) ?_ (fun hHeld => ?_)
          · (go_split_ands; refine ⟨?_, ?_⟩ <;> first | assumption | exact cnext (by assumption) (by assumption) | exact bup (by assumption) hsz2 (by assumption) | exact cnext (show Below _ _ (World.alloc _ _) by go_grown) (by assumption) | exact bup (by assumption) hsz2 (show Below _ _ (World.alloc _ _) by go_grown))
          simp only [List.take_succ_cons, List.take_zero, List.drop_succ_cons, List.drop_zero, List.length_cons, List.length_nil, Nat.reduceAdd]
          refine wpAnyH_tk (i := 0) (v := ?_) (some 22) rfl rfl (by kernel_rfl) (by decide +kernel) (by decide +kernel) (fun _ _ _ h => h) (by kernel_rfl) ?_ hHeld ?_
          rotate_left
          · (intro w hSw; (try dsimp only at hSw); go_simp <;> with_reducible rfl)
          (try simp only [Act.put, List.setIfInBounds_toArray, List.set_cons_zero, List.set_cons_succ])
          refine wpAnyH_tk (i := 1) (v := ?_) (some 23) rfl rfl (by kernel_rfl) (by decide +kernel) (by decide +kernel) (fun _ _ _ h => h) (by kernel_rfl) ?_ hHeld ?_
          rotate_left
          · (intro w hSw; (try dsimp only at hSw); go_simp <;> with_reducible rfl)
          (try simp only [Act.put, List.setIfInBounds_toArray, List.set_cons_zero, List.set_cons_succ])
          refine wpAnyH_tk (i := 2) (v := ?_) (some 24) rfl rfl (by kernel_rfl) (by decide +kernel) (by decide +kernel) (fun _ _ _ h => h) (by kernel_rfl) ?_ hHeld ?_
          rotate_left
          · (intro w hSw; (try dsimp only at hSw); go_simp <;> with_reducible rfl)
          (try simp only [Act.put, List.setIfInBounds_toArray, List.set_cons_zero, List.set_cons_succ])
          refine wpAnyH_tk (i := 3) (v := ?_) (some 25) rfl rfl (by kernel_rfl) (by decide +kernel) (by decide +kernel) (fun _ _ _ h => h) (by kernel_rfl) ?_ hHeld ?_
          rotate_left
          · (intro w hSw; (try dsimp only at hSw); go_simp <;> with_reducible rfl)
          (try simp only [Act.put, List.setIfInBounds_toArray, List.set_cons_zero, List.set_cons_succ])
          refine wpAnyH_tk (i := 4) (v := ?_) (some 26) rfl rfl (by kernel_rfl) (by decide +kernel) (by decide +kernel) (fun _ _ _ h => h) (by kernel_rfl) ?_ hHeld ?_
          rotate_left
          · (intro w hSw; (try dsimp only at hSw); go_simp <;> with_reducible rfl)
          (try simp only [Act.put, List.setIfInBounds_toArray, List.set_cons_zero, List.set_cons_succ])
          refine wpAnyH_ready (rs := [5]) (by kernel_rfl) (by simp) ?_
          refine AllReadyH.cons rfl (fun K hK => ?_) AllReadyH.nil
          go_simp
          with_reducible refine Calls.mono (Hc.out _ hHeld.2) ?_
          rintro e w4 ⟨rfl, hb4⟩
          try go_wp2_with fail
          refine hK.out _ _ ?_ (fun hHeld => ?_)
          · (go_split_ands; refine ⟨?_, ?_⟩ <;> first | assumption | exact cnext (by assumption) (by assumption) | exact bup (by assumption) hsz2 (by assumption) | exact cnext (show Below _ _ (World.alloc _ _) by go_grown) (by assumption) | exact bup (by assumption) hsz2 (show Below _ _ (World.alloc _ _) by go_grown))
          clear hK K
          (try simp only [Act.put, List.setIfInBounds_toArray, List.set_cons_zero, List.set_cons_succ])
          refine wpAnyH_ready (rs := [6]) (by kernel_rfl) (by simp) ?_
          refine AllReadyH.cons rfl (fun K hK => ?_) AllReadyH.nil
          go_simp
          refine hK.out _ _ ?_ (fun hHeld => ?_)
          · exact ⟨cnext (alloc_below w4 _) hHeld.1, bup hHeld.2 hsz2 (alloc_below w4 _)⟩
          clear hK K
          (try simp only [Act.put, List.setIfInBounds_toArray, List.set_cons_zero, List.set_cons_succ])
          refine wpAnyH_ready (rs := [7]) (by kernel_rfl) (by simp) ?_
          refine AllReadyH.cons rfl (fun K hK => ?_) AllReadyH.nil
          refine step_appF rfl (.tmp 23) (.tmp 28) rfl (w.heap.size + 2) (w.heap.size + 2) (Nat.le_refl _) (.slice ao6 (gridL f mb i k).length cap6) (gridL f mb i k) (by simp [Act.eval, Act.put]) (own_below (alloc_below w4 _) (own_below hb4 (own_below hbb HH.out.o))) hHeld.2 [x] ⟨w4.heap.size, 0, none⟩ 1 (by simp [Act.eval, Act.put]) (one_cells w4 x _) (by rw [Hlen.out]; simp; omega) (Nat.le_trans hsz2 hHeld.2.size) ?_
          intro v6 w6 hown6 hB6 hg6
          rw [← Hsn.out] at hown6
          obtain ⟨ao7, cap7, rfl⟩ := hown6.shape
          refine hK.out _ _ ?_ (fun hHeld => ?_)
          · exact ⟨(hB6.cell (p := ⟨w.heap.size + 1, 2, none⟩) (by show w.heap.size + 1 < w.heap.size + 2; omega)).trans c2, hB6⟩
          clear hK K
          (try simp only [Act.put, List.setIfInBounds_toArray, List.set_cons_zero, List.set_cons_succ])
          refine wpAnyH_tk (i := 8) (v := ?_) (some 30) rfl rfl (by kernel_rfl) (by decide +kernel) (by decide +kernel) (fun _ _ _ h => h) (by kernel_rfl) ?_ hHeld ?_
          rotate_left
          · (intro w hSw; (try dsimp only at hSw); go_simp <;> with_reducible rfl)
          (try simp only [Act.put, List.setIfInBounds_toArray, List.set_cons_zero, List.set_cons_succ])
          refine wpAnyH_done (by kernel_rfl) ?_ _
          show wpList _ _ _ _ _ _
          have hB6' : Below (w.heap.size + 2) wr w6 := hB6
          obtain ⟨c0', c1', c2', d0', d1', d2'⟩ := cell3 (blk_below hB6' (show w.heap.size + 1 < w.heap.size + 2 by omega) HH.out.c)
          have HN := Lib.hid (HH.out.next hB6' hown6)
          clear hHeld hown6 hB6 hg6 hb4 hbb hbb2 c0 c1 c2 d0 d1 d2
          go_wp2
          go_roundw
          case rel => exact ⟨k + 1, _, by go_num, by omega, HN.out⟩
          case measure => simp [intOf]; omega
        · obtain rfl : k = mb := by omega
          have HN := Lib.hid (show MdS 27 w wr a k _ (gridL f k (i + 1) 0) by rw [← grid_row]; exact HH.out)
          clear h
          go_wp2
          go_roundw
          case rel => exact ⟨i + 1, _, by go_num, by omega, HN.out⟩
          case measure => simp [intOf]; omega
    · obtain rfl : i = a := by omega
      have hja : gridL f mb i 0 = gridA f i mb := rfl
      rw [hja] at h
      obtain ⟨c0, c1, c2, d0, d1, d2⟩ := cell3 h.c
      have HH := Lib.hid h
      obtain ⟨ao6, cap6, rfl⟩ := h.o.shape
      have hg := asChannel_any i mb _ (gridA f i mb) wr HH.out.o.og.rg
      clear h
      rw [chan_of Hok.out] at hg
      simp only [cgN, cgV, Bool.false_eq_true, if_false, if_true] at hg
      go_wp2_with fail
      refine hg.mono ?_
      rintro e w9 ⟨rfl, hb9⟩
      obtain ⟨r0, r1, r2, q0, q1, q2⟩ := cell3 (blk_next hb9 HH.out.r)
      have hfB := below3 (bnext HH.out.hB hb9) w.heap.size (Nat.le_refl _) (.int .i64 i) (.int .i64 mb) (.slice ao6 (gridA f i mb).length cap6)
      have hfO := Lib.hid ((HH.out.o.og.below hb9).box3 w.heap.size (by omega) (.int .i64 i) (.int .i64 mb) (.slice ao6 (gridA f i mb).length cap6))
      clear c0 c1 c2 d0 d1 d2
      go_wp2
      exact bodyPost_ret (v := .tuple #[.agg #[.int .i64 i, .int .i64 mb, .slice ao6 (gridA f i mb).length cap6], .bool true]) (by simp [results, Try.results39, go_sem, r0, r1, r2]) rfl ⟨_, rfl, Og.mono (Nat.le_add_right _ 2) hfO.out, hfB⟩
set_option maxHeartbeats 4000000 in
theorem madeLose_any (pa pb : Value) (a mb : Nat) (f : Nat → Nat → Nat) (w : World) (hok : ChanOk a mb (gridA f a mb))
    (hcl : ∀ W, Below w.heap.size w W → ∀ i k, i < a → k < mb → Calls Try.prog 41 #[.int .i64 i, .int .i64 k, pb, pa] W fun e w' => e = .returned (eF (f i k)) ∧ Below W.heap.size W w') :
    Calls Try.prog 39 #[.int .i64 a, .int .i64 mb, .func (.func 41) #[] #[pb, pa]] w fun e w' => ∃ v', e = .returned (.tuple #[.agg #[.int .i64 a, .int .i64 mb, v'], .bool true]) ∧ Og eF w.heap.size w' v' (gridA f a mb) ∧ Below w.heap.size w w' := by
  have a8 := hok.n8
  have b8 := hok.m8
  have hst : ∀ W', W' = (w.alloc (.cells #[.int .i64 0, .int .i64 0, .slice none 0 0] 27)).alloc (.cells #[.int .i64 a, .int .i64 mb, .slice none 0 0] 27) → MdS 27 w W' a mb (.slice none 0 0) (gridL f mb 0 0) := by
    intro W' e
    refine ⟨by rw [e]; go_grown, ?_, ?_, by rw [show gridL f mb 0 0 = [] from rfl]; exact ownF_nil _ _⟩
    · rw [e]; exact blk_alloc (heap_alloc_new w _)
    · have := heap_alloc_new (w.alloc (.cells #[.int .i64 0, .int .i64 0, .slice none 0 0] 27)) (.cells #[.int .i64 a, .int .i64 mb, .slice none 0 0] 27)
      rw [World.size_alloc] at this; rw [e]; exact this
  have Hst := Lib.hid hst
  have Hcl := Lib.hid hcl
  have Hok := Lib.hid hok
  clear hst hcl hok
  go_enter Try.func39, Try.ntmps39
  go_wp2
  go_loopw [15] (fun iv wr => ∃ (i : Nat) (out : Value), iv = .int .i64 i ∧ i ≤ a ∧ MdS 27 w wr a mb out (gridL f mb i 0)) (fun iv _ => a - (intOf iv).toNat)
  case atStart => exact ⟨0, .slice none 0 0, rfl, Nat.zero_le _, Hst.out _ rfl⟩
  case round =>
    clear Hst
    obtain ⟨i, out, rfl, hi, h⟩ := hrel
    by_cases hin : i < a
    · have H0 := Lib.hid h
      clear h
      go_wp2
      go_loopw [19] (fun kv wk => ∃ (k : Nat) (out : Value), kv = .int .i64 k ∧ k ≤ mb ∧ MdS 27 w wk a mb out (gridL f mb i k)) (fun kv _ => mb - (intOf kv).toNat)
      case atStart => exact ⟨0, out, rfl, Nat.zero_le _, H0.out⟩
      case round =>
        clear H0
        obtain ⟨k, out, rfl, hk, h⟩ := hrel
        have hsz2 : w.heap.size + 2 ≤ wr.heap.size := blk_lt h.c
        obtain ⟨c0, c1, c2, d0, d1, d2⟩ := cell3 h.c
        have HH := Lib.hid h
        have Hlen := Lib.hid (grid_len f mb i k)
        have hle : i * mb ≤ 64 := Nat.mul_le_mul (Nat.le_trans hi a8) b8
        obtain ⟨ao6, cap6, rfl⟩ := h.o.shape
        by_cases hkm : k < mb
        · have Hsn := Lib.hid (grid_snoc f mb i k)
          have hbb : Below wr.heap.size wr wr.drew := (Below.refl _ _).drew
          have hbb2 : Below (w.heap.size + 2) wr wr.drew := (Below.refl _ _).drew
          clear h
          have Hc := Lib.hid (fun W (hb : Below (w.heap.size + 2) wr W) => Hcl.out W (HH.out.hB.trans (hb.mono (by omega))) i k hin hkm)
          generalize f i k = x at Hsn Hc
          go_wp2
          refine wp_region_held_tail 9 (S := fun W' => W'.cell? ⟨w.heap.size + 1, 2, none⟩ = some (.slice ao6 (gridL f mb i k).length cap6) ∧ Below (w.heap.size + 2) wr W') (by kernel_rfl) (by decide +kernel) ?_ (fun hHeld => ?_)
          · (go_split_ands; refine ⟨?_, ?_⟩ <;> first | assumption | exact cnext (by assumption) (by assumption) | exact bup (by assumption) hsz2 (by assumption) | exact cnext (show Below _ _ (World.alloc _ _) by go_grown) (by assumption) | exact bup (by assumption) hsz2 (show Below _ _ (World.alloc _ _) by go_grown))
          simp only [List.take_succ_cons, List.take_zero, List.drop_succ_cons, List.drop_zero, List.length_cons, List.length_nil, Nat.reduceAdd]
          refine wpAnyH_tk (i := 0) (v := ?_) (some 22) rfl rfl (by kernel_rfl) (by decide +kernel) (by decide +kernel) (fun _ _ _ h => h) (by kernel_rfl) ?_ hHeld ?_
          rotate_left
          · (intro w hSw; (try dsimp only at hSw); go_simp <;> with_reducible rfl)
          (try simp only [Act.put, List.setIfInBounds_toArray, List.set_cons_zero, List.set_cons_succ])
          refine wpAnyH_tk (i := 1) (v := ?_) (some 23) rfl rfl (by kernel_rfl) (by decide +kernel) (by decide +kernel) (fun _ _ _ h => h) (by kernel_rfl) ?_ hHeld ?_
          rotate_left
          · (intro w hSw; (try dsimp only at hSw); go_simp <;> with_reducible rfl)
          (try simp only [Act.put, List.setIfInBounds_toArray, List.set_cons_zero, List.set_cons_succ])
          refine wpAnyH_tk (i := 2) (v := ?_) (some 24) rfl rfl (by kernel_rfl) (by decide +kernel) (by decide +kernel) (fun _ _ _ h => h) (by kernel_rfl) ?_ hHeld ?_
          rotate_left
          · (intro w hSw; (try dsimp only at hSw); go_simp <;> with_reducible rfl)
          (try simp only [Act.put, List.setIfInBounds_toArray, List.set_cons_zero, List.set_cons_succ])
          refine wpAnyH_tk (i := 3) (v := ?_) (some 25) rfl rfl (by kernel_rfl) (by decide +kernel) (by decide +kernel) (fun _ _ _ h => h) (by kernel_rfl) ?_ hHeld ?_
          rotate_left
          · (intro w hSw; (try dsimp only at hSw); go_simp <;> with_reducible rfl)
          (try simp only [Act.put, List.setIfInBounds_toArray, List.set_cons_zero, List.set_cons_succ])
          refine wpAnyH_tk (i := 4) (v := ?_) (some 26) rfl rfl (by kernel_rfl) (by decide +kernel) (by decide +kernel) (fun _ _ _ h => h) (by kernel_rfl) ?_ hHeld ?_
          rotate_left
          · (intro w hSw; (try dsimp only at hSw); go_simp <;> with_reducible rfl)
          (try simp only [Act.put, List.setIfInBounds_toArray, List.set_cons_zero, List.set_cons_succ])
          refine wpAnyH_ready (rs := [5]) (by kernel_rfl) (by simp) ?_
          refine AllReadyH.cons rfl (fun K hK => ?_) AllReadyH.nil
          go_simp
          with_reducible refine Calls.mono (Hc.out _ hHeld.2) ?_
          rintro e w4 ⟨rfl, hb4⟩
          try go_wp2_with fail
          refine hK.out _ _ ?_ (fun hHeld => ?_)
          · (go_split_ands; refine ⟨?_, ?_⟩ <;> first | assumption | exact cnext (by assumption) (by assumption) | exact bup (by assumption) hsz2 (by assumption) | exact cnext (show Below _ _ (World.alloc _ _) by go_grown) (by assumption) | exact bup (by assumption) hsz2 (show Below _ _ (World.alloc _ _) by go_grown))
          clear hK K
          (try simp only [Act.put, List.setIfInBounds_toArray, List.set_cons_zero, List.set_cons_succ])
          refine wpAnyH_ready (rs := [6]) (by kernel_rfl) (by simp) ?_
          refine AllReadyH.cons rfl (fun K hK => ?_) AllReadyH.nil
          go_simp
          refine hK.out _ _ ?_ (fun hHeld => ?_)
          · exact ⟨cnext (alloc_below w4 _) hHeld.1, bup hHeld.2 hsz2 (alloc_below w4 _)⟩
          clear hK K
          (try simp only [Act.put, List.setIfInBounds_toArray, List.set_cons_zero, List.set_cons_succ])
          refine wpAnyH_ready (rs := [7]) (by kernel_rfl) (by simp) ?_
          refine AllReadyH.cons rfl (fun K hK => ?_) AllReadyH.nil
          refine step_appF rfl (.tmp 23) (.tmp 28) rfl (w.heap.size + 2) (w.heap.size + 2) (Nat.le_refl _) (.slice ao6 (gridL f mb i k).length cap6) (gridL f mb i k) (by simp [Act.eval, Act.put]) (own_below (alloc_below w4 _) (own_below hb4 (own_below hbb HH.out.o))) hHeld.2 [x] ⟨w4.heap.size, 0, none⟩ 1 (by simp [Act.eval, Act.put]) (one_cells w4 x _) (by rw [Hlen.out]; simp; omega) (Nat.le_trans hsz2 hHeld.2.size) ?_
          intro v6 w6 hown6 hB6 hg6
          rw [← Hsn.out] at hown6
          obtain ⟨ao7, cap7, rfl⟩ := hown6.shape
          refine hK.out _ _ ?_ (fun hHeld => ?_)
          · exact ⟨(hB6.cell (p := ⟨w.heap.size + 1, 2, none⟩) (by show w.heap.size + 1 < w.heap.size + 2; omega)).trans c2, hB6⟩
          clear hK K
          (try simp only [Act.put, List.setIfInBounds_toArray, List.set_cons_zero, List.set_cons_succ])
          refine wpAnyH_tk (i := 8) (v := ?_) (some 30) rfl rfl (by kernel_rfl) (by decide +kernel) (by decide +kernel) (fun _ _ _ h => h) (by kernel_rfl) ?_ hHeld ?_
          rotate_left
          · (intro w hSw; (try dsimp only at hSw); go_simp <;> with_reducible rfl)
          (try simp only [Act.put, List.setIfInBounds_toArray, List.set_cons_zero, List.set_cons_succ])
          refine wpAnyH_done (by kernel_rfl) ?_ _
          show wpList _ _ _ _ _ _
          have hB6' : Below (w.heap.size + 2) wr w6 := hB6
          obtain ⟨c0', c1', c2', d0', d1', d2'⟩ := cell3 (blk_below hB6' (show w.heap.size + 1 < w.heap.size + 2 by omega) HH.out.c)
          have HN := Lib.hid (HH.out.next hB6' hown6)
          clear hHeld hown6 hB6 hg6 hb4 hbb hbb2 c0 c1 c2 d0 d1 d2
          go_wp2
          go_roundw
          case rel => exact ⟨k + 1, _, by go_num, by omega, HN.out⟩
          case measure => simp [intOf]; omega
        · obtain rfl : k = mb := by omega
          have HN := Lib.hid (show MdS 27 w wr a k _ (gridL f k (i + 1) 0) by rw [← grid_row]; exact HH.out)
          clear h
          go_wp2
          go_roundw
          case rel => exact ⟨i + 1, _, by go_num, by omega, HN.out⟩
          case measure => simp [intOf]; omega
    · obtain rfl : i = a := by omega
      have hja : gridL f mb i 0 = gridA f i mb := rfl
      rw [hja] at h
      obtain ⟨c0, c1, c2, d0, d1, d2⟩ := cell3 h.c
      have HH := Lib.hid h
      obtain ⟨ao6, cap6, rfl⟩ := h.o.shape
      have hg := asChannel_any i mb _ (gridA f i mb) wr HH.out.o.og.rg
      clear h
      rw [chan_of Hok.out] at hg
      simp only [cgN, cgV, Bool.false_eq_true, if_false, if_true] at hg
      go_wp2_with fail
      refine hg.mono ?_
      rintro e w9 ⟨rfl, hb9⟩
      obtain ⟨r0, r1, r2, q0, q1, q2⟩ := cell3 (blk_next hb9 HH.out.r)
      have hfB := below3 (bnext HH.out.hB hb9) w.heap.size (Nat.le_refl _) (.int .i64 i) (.int .i64 mb) (.slice ao6 (gridA f i mb).length cap6)
      have hfO := Lib.hid ((HH.out.o.og.below hb9).box3 w.heap.size (by omega) (.int .i64 i) (.int .i64 mb) (.slice ao6 (gridA f i mb).length cap6))
      clear c0 c1 c2 d0 d1 d2
      go_wp2
      exact bodyPost_ret (v := .tuple #[.agg #[.int .i64 i, .int .i64 mb, .slice ao6 (gridA f i mb).length cap6], .bool true]) (by simp [results, Try.results39, go_sem, r0, r1, r2]) rfl ⟨_, rfl, Og.mono (Nat.le_add_right _ 2) hfO.out, hfB⟩
set_option maxHeartbeats 4000000 in
theorem madeNext_any (pa pb : Value) (a mb : Nat) (f : Nat → Nat → Nat) (w : World) (hok : ChanOk a mb (gridA f a mb))
    (hcl : ∀ W, Below w.heap.size w W → ∀ i k, i < a → k < mb → Calls Try.prog 42 #[.int .i64 i, .int .i64 k, pb, pa] W fun e w' => e = .returned (eF (f i k)) ∧ Below W.heap.size W w') :
    Calls Try.prog 39 #[.int .i64 a, .int .i64 mb, .func (.func 42) #[] #[pb, pa]] w fun e w' => ∃ v', e = .returned (.tuple #[.agg #[.int .i64 a, .int .i64 mb, v'], .bool true]) ∧ Og eF w.heap.size w' v' (gridA f a mb) ∧ Below w.heap.size w w' := by
  have a8 := hok.n8
  have b8 := hok.m8
  have hst : ∀ W', W' = (w.alloc (.cells #[.int .i64 0, .int .i64 0, .slice none 0 0] 27)).alloc (.cells #[.int .i64 a, .int .i64 mb, .slice none 0 0] 27) → MdS 27 w W' a mb (.slice none 0 0) (gridL f mb 0 0) := by
    intro W' e
    refine ⟨by rw [e]; go_grown, ?_, ?_, by rw [show gridL f mb 0 0 = [] from rfl]; exact ownF_nil _ _⟩
    · rw [e]; exact blk_alloc (heap_alloc_new w _)
    · have := heap_alloc_new (w.alloc (.cells #[.int .i64 0, .int .i64 0, .slice none 0 0] 27)) (.cells #[.int .i64 a, .int .i64 mb, .slice none 0 0] 27)
      rw [World.size_alloc] at this; rw [e]; exact this
  have Hst := Lib.hid hst
  have Hcl := Lib.hid hcl
  have Hok := Lib.hid hok
  clear hst hcl hok
  go_enter Try.func39, Try.ntmps39
  go_wp2
  go_loopw [15] (fun iv wr => ∃ (i : Nat) (out : Value), iv = .int .i64 i ∧ i ≤ a ∧ MdS 27 w wr a mb out (gridL f mb i 0)) (fun iv _ => a - (intOf iv).toNat)
  case atStart => exact ⟨0, .slice none 0 0, rfl, Nat.zero_le _, Hst.out _ rfl⟩
  case round =>
    clear Hst
    obtain ⟨i, out, rfl, hi, h⟩ := hrel
    by_cases hin : i < a
    · have H0 := Lib.hid h
      clear h
      go_wp2
      go_loopw [19] (fun kv wk => ∃ (k : Nat) (out : Value), kv = .int .i64 k ∧ k ≤ mb ∧ MdS 27 w wk a mb out (gridL f mb i k)) (fun kv _ => mb - (intOf kv).toNat)
      case atStart => exact ⟨0, out, rfl, Nat.zero_le _, H0.out⟩
      case round =>
        clear H0
        obtain ⟨k, out, rfl, hk, h⟩ := hrel
        have hsz2 : w.heap.size + 2 ≤ wr.heap.size := blk_lt h.c
        obtain ⟨c0, c1, c2, d0, d1, d2⟩ := cell3 h.c
        have HH := Lib.hid h
        have Hlen := Lib.hid (grid_len f mb i k)
        have hle : i * mb ≤ 64 := Nat.mul_le_mul (Nat.le_trans hi a8) b8
        obtain ⟨ao6, cap6, rfl⟩ := h.o.shape
        by_cases hkm : k < mb
        · have Hsn := Lib.hid (grid_snoc f mb i k)
          have hbb : Below wr.heap.size wr wr.drew := (Below.refl _ _).drew
          have hbb2 : Below (w.heap.size + 2) wr wr.drew := (Below.refl _ _).drew
          clear h
          have Hc := Lib.hid (fun W (hb : Below (w.heap.size + 2) wr W) => Hcl.out W (HH.out.hB.trans (hb.mono (by omega))) i k hin hkm)
          generalize f i k = x at Hsn Hc
          go_wp2
          refine wp_region_held_tail 9 (S := fun W' => W'.cell? ⟨w.heap.size + 1, 2, none⟩ = some (.slice ao6 (gridL f mb i k).length cap6) ∧ Below (w.heap.size + 2) wr W') (by kernel_rfl) (by decide +kernel) ?_ (fun hHeld => ?_)
          · (go_split_ands; refine ⟨?_, ?_⟩ <;> first | assumption | exact cnext (by assumption) (by assumption) | exact bup (by assumption) hsz2 (by assumption) | exact cnext (show Below _ _ (World.alloc _ _) by go_grown) (by assumption) | exact bup (by assumption) hsz2 (show Below _ _ (World.alloc _ _) by go_grown))
          simp only [List.take_succ_cons, List.take_zero, List.drop_succ_cons, List.drop_zero, List.length_cons, List.length_nil, Nat.reduceAdd]
          refine wpAnyH_tk (i := 0) (v := ?_) (some 22) rfl rfl (by kernel_rfl) (by decide +kernel) (by decide +kernel) (fun _ _ _ h => h) (by kernel_rfl) ?_ hHeld ?_
          rotate_left
          · (intro w hSw; (try dsimp only at hSw); go_simp <;> with_reducible rfl)
          (try simp only [Act.put, List.setIfInBounds_toArray, List.set_cons_zero, List.set_cons_succ])
          refine wpAnyH_tk (i := 1) (v := ?_) (some 23) rfl rfl (by kernel_rfl) (by decide +kernel) (by decide +kernel) (fun _ _ _ h => h) (by kernel_rfl) ?_ hHeld ?_
          rotate_left
          · (intro w hSw; (try dsimp only at hSw); go_simp <;> with_reducible rfl)
          (try simp only [Act.put, List.setIfInBounds_toArray, List.set_cons_zero, List.set_cons_succ])
          refine wpAnyH_tk (i := 2) (v := ?_) (some 24) rfl rfl (by kernel_rfl) (by decide +kernel) (by decide +kernel) (fun _ _ _ h => h) (by kernel_rfl) ?_ hHeld ?_
          rotate_left
          · (intro w hSw; (try dsimp only at hSw); go_simp <;> with_reducible rfl)
          (try simp only [Act.put, List.setIfInBounds_toArray, List.set_cons_zero, List.set_cons_succ])
          refine wpAnyH_tk (i := 3) (v := ?_) (some 25) rfl rfl (by kernel_rfl) (by decide +kernel) (by decide +kernel) (fun _ _ _ h => h) (by kernel_rfl) ?_ hHeld ?_
          rotate_left
          · (intro w hSw; (try dsimp only at hSw); go_simp <;> with_reducible rfl)
          (try simp only [Act.put, List.setIfInBounds_toArray, List.set_cons_zero, List.set_cons_succ])
          refine wpAnyH_tk (i := 4) (v := ?_) (some 26) rfl rfl (by kernel_rfl) (by decide +kernel) (by decide +kernel) (fun _ _ _ h => h) (by kernel_rfl) ?_ hHeld ?_
          rotate_left
          · (intro w hSw; (try dsimp only at hSw); go_simp <;> with_reducible rfl)
          (try simp only [Act.put, List.setIfInBounds_toArray, List.set_cons_zero, List.set_cons_succ])
          refine wpAnyH_ready (rs := [5]) (by kernel_rfl) (by simp) ?_
          refine AllReadyH.cons rfl (fun K hK => ?_) AllReadyH.nil
          go_simp
          with_reducible refine Calls.mono (Hc.out _ hHeld.2) ?_
          rintro e w4 ⟨rfl, hb4⟩
          try go_wp2_with fail
          refine hK.out _ _ ?_ (fun hHeld => ?_)
          · (go_split_ands; refine ⟨?_, ?_⟩ <;> first | assumption | exact cnext (by assumption) (by assumption) | exact bup (by assumption) hsz2 (by assumption) | exact cnext (show Below _ _ (World.alloc _ _) by go_grown) (by assumption) | exact bup (by assumption) hsz2 (show Below _ _ (World.alloc _ _) by go_grown))
          clear hK K
          (try simp only [Act.put, List.setIfInBounds_toArray, List.set_cons_zero, List.set_cons_succ])
          refine wpAnyH_ready (rs := [6]) (by kernel_rfl) (by simp) ?_
          refine AllReadyH.cons rfl (fun K hK => ?_) AllReadyH.nil
          go_simp
          refine hK.out _ _ ?_ (fun hHeld => ?_)
          · exact ⟨cnext (alloc_below w4 _) hHeld.1, bup hHeld.2 hsz2 (alloc_below w4 _)⟩
          clear hK K
          (try simp only [Act.put, List.setIfInBounds_toArray, List.set_cons_zero, List.set_cons_succ])
          refine wpAnyH_ready (rs := [7]) (by kernel_rfl) (by simp) ?_
          refine AllReadyH.cons rfl (fun K hK => ?_) AllReadyH.nil
          refine step_appF rfl (.tmp 23) (.tmp 28) rfl (w.heap.size + 2) (w.heap.size + 2) (Nat.le_refl _) (.slice ao6 (gridL f mb i k).length cap6) (gridL f mb i k) (by simp [Act.eval, Act.put]) (own_below (alloc_below w4 _) (own_below hb4 (own_below hbb HH.out.o))) hHeld.2 [x] ⟨w4.heap.size, 0, none⟩ 1 (by simp [Act.eval, Act.put]) (one_cells w4 x _) (by rw [Hlen.out]; simp; omega) (Nat.le_trans hsz2 hHeld.2.size) ?_
          intro v6 w6 hown6 hB6 hg6
          rw [← Hsn.out] at hown6
          obtain ⟨ao7, cap7, rfl⟩ := hown6.shape
          refine hK.out _ _ ?_ (fun hHeld => ?_)
          · exact ⟨(hB6.cell (p := ⟨w.heap.size + 1, 2, none⟩) (by show w.heap.size + 1 < w.heap.size + 2; omega)).trans c2, hB6⟩
          clear hK K
          (try simp only [Act.put, List.setIfInBounds_toArray, List.set_cons_zero, List.set_cons_succ])
          refine wpAnyH_tk (i := 8) (v := ?_) (some 30) rfl rfl (by kernel_rfl) (by decide +kernel) (by decide +kernel) (fun _ _ _ h => h) (by kernel_rfl) ?_ hHeld ?_
          rotate_left
          · (intro w hSw; (try dsimp only at hSw); go_simp <;> with_reducible rfl)
          (try simp only [Act.put, List.setIfInBounds_toArray, List.set_cons_zero, List.set_cons_succ])
          refine wpAnyH_done (by kernel_rfl) ?_ _
          show wpList _ _ _ _ _ _
          have hB6' : Below (w.heap.size + 2) wr w6 := hB6
          obtain ⟨c0', c1', c2', d0', d1', d2'⟩ := cell3 (blk_below hB6' (show w.heap.size + 1 < w.heap.size + 2 by omega) HH.out.c)
          have HN := Lib.hid (HH.out.next hB6' hown6)
          clear hHeld hown6 hB6 hg6 hb4 hbb hbb2 c0 c1 c2 d0 d1 d2
          go_wp2
          go_roundw
          case rel => exact ⟨k + 1, _, by go_num, by omega, HN.out⟩
          case measure => simp [intOf]; omega
        · obtain rfl : k = mb := by omega
          have HN := Lib.hid (show MdS 27 w wr a k _ (gridL f k (i + 1) 0) by rw [← grid_row]; exact HH.out)
          clear h
          go_wp2
          go_roundw
          case rel => exact ⟨i + 1, _, by go_num, by omega, HN.out⟩
          case measure => simp [intOf]; omega
    · obtain rfl : i = a := by omega
      have hja : gridL f mb i 0 = gridA f i mb := rfl
      rw [hja] at h
      obtain ⟨c0, c1, c2, d0, d1, d2⟩ := cell3 h.c
      have HH := Lib.hid h
      obtain ⟨ao6, cap6, rfl⟩ := h.o.shape
      have hg := asChannel_any i mb _ (gridA f i mb) wr HH.out.o.og.rg
      clear h
      rw [chan_of Hok.out] at hg
      simp only [cgN, cgV, Bool.false_eq_true, if_false, if_true] at hg
      go_wp2_with fail
      refine hg.mono ?_
      rintro e w9 ⟨rfl, hb9⟩
      obtain ⟨r0, r1, r2, q0, q1, q2⟩ := cell3 (blk_next hb9 HH.out.r)
      have hfB := below3 (bnext HH.out.hB hb9) w.heap.size (Nat.le_refl _) (.int .i64 i) (.int .i64 mb) (.slice ao6 (gridA f i mb).length cap6)
      have hfO := Lib.hid ((HH.out.o.og.below hb9).box3 w.heap.size (by omega) (.int .i64 i) (.int .i64 mb) (.slice ao6 (gridA f i mb).length cap6))
      clear c0 c1 c2 d0 d1 d2
      go_wp2
      exact bodyPost_ret (v := .tuple #[.agg #[.int .i64 i, .int .i64 mb, .slice ao6 (gridA f i mb).length cap6], .bool true]) (by simp [results, Try.results39, go_sem, r0, r1, r2]) rfl ⟨_, rfl, Og.mono (Nat.le_add_right _ 2) hfO.out, hfB⟩
end Go.Proofs.Ytiejljlmbpgbiaa
