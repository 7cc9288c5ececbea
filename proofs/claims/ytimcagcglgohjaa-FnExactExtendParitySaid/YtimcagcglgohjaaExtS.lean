/- ExtendParity: what the reference returns. No conditions but that the slices read. -/
import Derived.Test.YtimcagcglgohjaaExt
import Derived.Deep.RegionHeld3
import Derived.Deep.DrawnRows
namespace Go.Proofs.Ytimcagcglgohjaa
open Go.RowKit
set_option maxRecDepth 100000
set_option linter.unusedVariables false
set_option linter.unusedSimpArgs false

attribute [local go_sem ↓] Go.wp_at_zero Go.wp_at_succ
theorem cell_app {wr w1 : World} {o : Obj} {row : Option Nat} {a : Addr} {v : Value} (h : wr.cell? a = some v) (hg : ((wr.alloc o).drew).grownBy w1 row) (hne : some a.block ≠ row) : w1.cell? a = some v :=
  hg.cell (show ((wr.alloc o).drew).cell? a = some v from cnext (((Below.refl _ _).alloc (Nat.le_refl _) _).drew) h) hne
theorem or0_i64 (o : Nat) (h : o < 65536) : bits .or .i64 (o : Int) 0 = (o : Int) := by
  have := or_i64_nat o 0 (by omega) (by decide)
  simpa using this
set_option maxHeartbeats 12000000 in
theorem specExt_any (n : Int) (v : Value) (zs : List Int) (w : World) (h : RI w v zs) :
    Calls Try.prog 5 #[.agg #[.int .i64 n, v]] w fun e w' => ∃ v', e = .returned (.tuple #[.agg #[.int .i64 (apN (exOk n zs) (n + 1)), v'], .bool (exOk n zs)]) ∧ OI w.heap.size w' v' (apZ (exOk n zs) (exZ n zs)) ∧ Below w.heap.size w w' := by
  obtain ⟨ao, cap, rfl⟩ := h.shape
  have hb : ∀ o o', Below w.heap.size w ((w.alloc o).alloc o') := fun o o' => by go_grown
  have g := h.below (hb (.cells #[.int .i64 n, .slice ao zs.length cap] 26) (.cells #[.int .i64 0, .slice none 0 0] 26))
  by_cases hc : prv n zs = true
  · obtain ⟨m, rfl, hm1, hm2, hl1, hl8, hzs, hlt, hk⟩ := prv_parts hc
    have HOK := Lib.hid (show exOk m zs = prv ((m : Int) + 1) (exZ m zs) by simp [exOk, hc])
    have Hlt := Lib.hid hlt
    have Ht := Lib.hid (toN_len zs)
    have hm65 : 2 ^ m ≤ 65536 := Nat.le_trans (Nat.pow_le_pow_right (by decide) hm2) (by decide)
    have gN := Lib.hid (h.2.toN (nn_of2 hzs))
    clear hzs hlt hk
    go_enter Try.func5, Try.ntmps5
    go_wp2_with fail
    refine (l06Is_any m _ zs w.heap.size _ g (by simp [go_sem]) (by simp [go_sem])).mono ?_
    rw [hc]
    rintro e w1 ⟨rfl, hb1⟩
    have hr := blk_next hb1 (box_second w _ _ _ _)
    have hp := blk_next hb1 (blk_alloc (heap_alloc_new w (.cells #[.int .i64 m, .slice ao zs.length cap] 26)) (o' := .cells #[.int .i64 0, .slice none 0 0] 26))
    have hB : Below w.heap.size w w1 := bnext (hb _ _) hb1
    have hlt0 : w.heap.size + 1 < w1.heap.size := blk_lt hr
    have hlt00 : w.heap.size < w1.heap.size := by omega
    clear hc hb1 g
    obtain ⟨k0, k1, -, -⟩ := blk2 hp
    go_wp2_with fail
    go_loopw [5] (fun iv wr => ∃ (i : Nat) (v : Value), iv = .int .i64 i ∧ i ≤ zs.length ∧ OwnI (w1.heap.size + 1) wr v (ofN (((toN zs).map (ext m)).take i)) ∧ wr.heap[w1.heap.size]? = some (.cells #[.int .i64 ((m : Int) + 1), v] 26 (0, 0)) ∧ Below w1.heap.size w1 wr) (fun iv _ => zs.length - (intOf iv).toNat)
    case atStart => exact ⟨0, .slice none 0 0, rfl, Nat.zero_le _, own_nil _ _, heap_alloc_new w1 _, by go_grown⟩
    case round =>
      obtain ⟨i, v, rfl, hi, hown, hbx, hB1⟩ := hrel
      obtain ⟨ao1, cap1, rfl⟩ := hown.shape
      have k0 := cnext hB1 k0
      have k1 := cnext hB1 k1
      have hs1 := blk_lt hbx
      obtain ⟨x0, x1, y0, y1⟩ := blk2 hbx
      have Hol := Lib.hid (show (ofN (((toN zs).map (ext m)).take i)).length ≤ zs.length by rw [ofN_len, List.length_take, List.length_map, Ht.out]; omega)
      by_cases hil : i < zs.length
      · obtain ⟨b0, o0, rfl, -, hcs⟩ := (gN.out.below (bnext hB hB1)).cells (by rw [Ht.out]; omega)
        obtain ⟨b0', o0', e0, -, hcs0⟩ := (gN.out).cells (by rw [Ht.out]; omega)
        simp only [Option.some.injEq, Addr.mk.injEq, and_true] at e0
        obtain ⟨rfl, rfl⟩ := e0
        have hit : i < (toN zs).length := by rw [Ht.out]; exact hil
        have hb0 : b0 < w.heap.size := World.block_lt_of_cell? w _ (hcs0 i hit)
        have ci := hcs i hit
        have hx := Hlt.out.at i hit
        have hst := map_take_succ (ext m) (toN zs) i hit
        have hx65 := Nat.lt_of_lt_of_le hx hm65
        have eo := or_i64_pow (toN zs)[i] m hx65 hm2
        have ez := or0_i64 (toN zs)[i] hx65
        have hoe := odd_eq (toN zs)[i]
        have hwl := wt_le (toN zs)[i]
        generalize (toN zs)[i] = x at *
        have Hst := Lib.hid hst
        clear hst hcs hx hcs0
        obtain ⟨hq1, hq2⟩ := pow16 m hm2
        have hi0 : (0 : Int) ≤ (i : Int) := by omega
        have hin : (i : Int) < (zs.length : Int) := by omega
        by_cases hd : odd x = true
        · have he : ext m x = x ||| 2 ^ m := by unfold ext; rw [if_pos hd]
          have e3 : ((wt x : Nat) : Int).tmod 2 = 1 := by
            rw [hd] at hoe
            have h1 : ((wt x : Nat) : Int) % 2 = 1 := by simpa using hoe
            rw [Int.tmod_eq_emod_of_nonneg (by omega)]; exact h1
          have e4 : IntKind.u64.wrap (m : Int) = m := by rw [IntKind.wrap_u64]; omega
          have e5 : IntKind.i64.wrap (2 ^ m) = 2 ^ m := IntWalk.i64_in _ (by omega)
          have hst := Hst.out
          rw [he] at hst
          have Hst2 := Lib.hid hst
          clear hoe ez hst
          go_wp2_with fail
          have HstX := Hst2
          refine wp_region_held_drew (S := fun W' => W'.cell? ⟨w.heap.size, 0, none⟩ = some (.int .i64 m) ∧ W'.cell? ⟨w.heap.size, 1, none⟩ = some (.slice (some ⟨b0, o0, none⟩) zs.length cap) ∧ W'.cell? ⟨b0, o0 + i, none⟩ = some (.int .i64 x)) (by kernel_rfl) ?_ (fun hHeld => ?_)
          · go_keep
          refine wpAnyH_take (i := 0) (v := ?_) rfl (by kernel_rfl) (by decide +kernel) (by decide +kernel) (fun _ _ _ h => h) (Or.inl ⟨by rfl, ?_⟩) hHeld ?_
          rotate_left
          · (intro w hSw; (try dsimp only at hSw); go_simp <;> with_reducible rfl)
          (try simp only [Act.put, List.setIfInBounds_toArray, List.set_cons_zero, List.set_cons_succ])
          refine wpAnyH_take (i := 2) (v := ?_) rfl (by kernel_rfl) (by decide +kernel) (by decide +kernel) (fun _ _ _ h => h) (Or.inl ⟨by rfl, ?_⟩) hHeld ?_
          rotate_left
          · (intro w hSw; (try dsimp only at hSw); go_simp <;> with_reducible rfl)
          (try simp only [Act.put, List.setIfInBounds_toArray, List.set_cons_zero, List.set_cons_succ])
          refine wpAnyH_take (i := 3) (v := ?_) rfl (by kernel_rfl) (by decide +kernel) (by decide +kernel) (fun _ _ _ h => h) (Or.inl ⟨by rfl, ?_⟩) hHeld ?_
          rotate_left
          · (intro w hSw; (try dsimp only at hSw); go_simp <;> with_reducible rfl)
          (try simp only [Act.put, List.setIfInBounds_toArray, List.set_cons_zero, List.set_cons_succ])
          refine wpAnyH_take (i := 4) (v := ?_) rfl (by kernel_rfl) (by decide +kernel) (by decide +kernel) (fun _ _ _ h => h) (Or.inl ⟨by rfl, ?_⟩) hHeld ?_
          rotate_left
          · (intro w hSw; (try dsimp only at hSw); go_simp <;> with_reducible rfl)
          (try simp only [Act.put, List.setIfInBounds_toArray, List.set_cons_zero, List.set_cons_succ])
          refine wpAnyH_take (i := 5) (v := ?_) rfl (by kernel_rfl) (by decide +kernel) (by decide +kernel) (fun _ _ _ h => h) (Or.inl ⟨by rfl, ?_⟩) hHeld ?_
          rotate_left
          · (intro w hSw; (try dsimp only at hSw); go_simp <;> with_reducible rfl)
          (try simp only [Act.put, List.setIfInBounds_toArray, List.set_cons_zero, List.set_cons_succ])
          refine wpAnyH_take (i := 6) (v := ?_) rfl (by kernel_rfl) (by decide +kernel) (by decide +kernel) (fun _ _ _ h => h) (Or.inl ⟨by rfl, ?_⟩) hHeld ?_
          rotate_left
          · (intro w hSw; (try dsimp only at hSw); go_simp <;> with_reducible rfl)
          (try simp only [Act.put, List.setIfInBounds_toArray, List.set_cons_zero, List.set_cons_succ])
          refine wpAnyH_take (i := 7) (v := ?_) rfl (by kernel_rfl) (by decide +kernel) (by decide +kernel) (fun _ _ _ h => h) (Or.inl ⟨by rfl, ?_⟩) hHeld ?_
          rotate_left
          · (intro w hSw; (try dsimp only at hSw); go_simp <;> with_reducible rfl)
          (try simp only [Act.put, List.setIfInBounds_toArray, List.set_cons_zero, List.set_cons_succ])
          refine wpAnyH_take (i := 8) (v := ?_) rfl (by kernel_rfl) (by decide +kernel) (by decide +kernel) (fun _ _ _ h => h) (Or.inl ⟨by rfl, ?_⟩) hHeld ?_
          rotate_left
          · (intro w hSw; (try dsimp only at hSw); go_simp <;> with_reducible rfl)
          (try simp only [Act.put, List.setIfInBounds_toArray, List.set_cons_zero, List.set_cons_succ])
          refine wpAnyH_take (i := 9) (v := ?_) rfl (by kernel_rfl) (by decide +kernel) (by decide +kernel) (fun _ _ _ h => h) (Or.inl ⟨by rfl, ?_⟩) hHeld ?_
          rotate_left
          · (intro w hSw; (try dsimp only at hSw); go_simp <;> with_reducible rfl)
          (try simp only [Act.put, List.setIfInBounds_toArray, List.set_cons_zero, List.set_cons_succ])
          refine wpAnyH_take (i := 10) (v := ?_) rfl (by kernel_rfl) (by decide +kernel) (by decide +kernel) (fun _ _ _ h => h) (Or.inl ⟨by rfl, ?_⟩) hHeld ?_
          rotate_left
          · (intro w hSw; (try dsimp only at hSw); go_simp <;> with_reducible rfl)
          (try simp only [Act.put, List.setIfInBounds_toArray, List.set_cons_zero, List.set_cons_succ])
          refine wpAnyH_take (i := 11) (v := ?_) rfl (by kernel_rfl) (by decide +kernel) (by decide +kernel) (fun _ _ _ h => h) (Or.inl ⟨by rfl, ?_⟩) hHeld ?_
          rotate_left
          · (intro w hSw; (try dsimp only at hSw); go_simp <;> with_reducible rfl)
          (try simp only [Act.put, List.setIfInBounds_toArray, List.set_cons_zero, List.set_cons_succ])
          refine wpAnyH_take (i := 14) (v := ?_) rfl (by kernel_rfl) (by decide +kernel) (by decide +kernel) (fun _ _ _ h => h) (Or.inl ⟨by rfl, ?_⟩) hHeld ?_
          rotate_left
          · (intro w hSw; (try dsimp only at hSw); go_simp <;> with_reducible rfl)
          (try simp only [Act.put, List.setIfInBounds_toArray, List.set_cons_zero, List.set_cons_succ])
          refine wpAnyH_take (i := 15) (v := ?_) rfl (by kernel_rfl) (by decide +kernel) (by decide +kernel) (fun _ _ _ h => h) (Or.inl ⟨by rfl, ?_⟩) hHeld ?_
          rotate_left
          · (intro w hSw; (try dsimp only at hSw); go_simp <;> with_reducible rfl)
          (try simp only [Act.put, List.setIfInBounds_toArray, List.set_cons_zero, List.set_cons_succ])
          refine wpAnyH_take (i := 16) (v := ?_) rfl (by kernel_rfl) (by decide +kernel) (by decide +kernel) (fun _ _ _ h => h) (Or.inl ⟨by rfl, ?_⟩) hHeld ?_
          rotate_left
          · (intro w hSw; (try dsimp only at hSw); go_simp <;> with_reducible rfl)
          (try simp only [Act.put, List.setIfInBounds_toArray, List.set_cons_zero, List.set_cons_succ])
          refine wpAnyH_ready (rs := [1, 12]) (by kernel_rfl) (by simp) ?_
          refine AllReadyH.cons rfl (fun K hK => ?_) ?_
          · go_simp
            refine hK.out _ _ ?_ (fun hHeld => ?_)
            · go_keep
            clear hK K
            (try simp only [Act.put, List.setIfInBounds_toArray, List.set_cons_zero, List.set_cons_succ])
            refine wpAnyH_ready (rs := [12]) (by kernel_rfl) (by simp) ?_
            refine AllReadyH.cons rfl (fun K hK => ?_) ?_
            · go_simp
              with_reducible refine Calls.mono (l06Weight_any x hx65 _) ?_
              rintro e w' ⟨rfl, rfl⟩
              try go_wp2_with fail
              refine hK.out _ _ ?_ (fun hHeld => ?_)
              · go_keep
              clear hK K
              (try simp only [Act.put, List.setIfInBounds_toArray, List.set_cons_zero, List.set_cons_succ])
              refine wpAnyH_take (i := 13) (v := ?_) rfl (by kernel_rfl) (by decide +kernel) (by decide +kernel) (fun _ _ _ h => h) (Or.inl ⟨by rfl, ?_⟩) hHeld ?_
              rotate_left
              · (intro w hSw; (try dsimp only at hSw); go_simp <;> with_reducible rfl)
              (try simp only [Act.put, List.setIfInBounds_toArray, List.set_cons_zero, List.set_cons_succ])
              refine wpAnyH_take (i := 17) (v := ?_) rfl (by kernel_rfl) (by decide +kernel) (by decide +kernel) (fun _ _ _ h => h) (Or.inl ⟨by rfl, ?_⟩) hHeld ?_
              rotate_left
              · (intro w hSw; (try dsimp only at hSw); go_simp <;> with_reducible rfl)
              (try simp only [Act.put, List.setIfInBounds_toArray, List.set_cons_zero, List.set_cons_succ])
              refine wpAnyH_take (i := 18) (v := ?_) rfl (by kernel_rfl) (by decide +kernel) (by decide +kernel) (fun _ _ _ h => h) (Or.inl ⟨by rfl, ?_⟩) hHeld ?_
              rotate_left
              · (intro w hSw; (try dsimp only at hSw); go_simp <;> with_reducible rfl)
              (try simp only [Act.put, List.setIfInBounds_toArray, List.set_cons_zero, List.set_cons_succ])
              refine wpAnyH_ready (rs := [19]) (by kernel_rfl) (by simp) ?_
              refine AllReadyH.cons rfl (fun K hK => ?_) ?_
              · go_simp
                refine hK.out _ _ ?_ (fun hHeld => ?_)
                · go_keep
                clear hK K
                (try simp only [Act.put, List.setIfInBounds_toArray, List.set_cons_zero, List.set_cons_succ])
                refine wpAnyH_ready (rs := [20]) (by kernel_rfl) (by simp) ?_
                refine AllReadyH.cons rfl (fun K hK => ?_) ?_
                · refine step_app rfl (.tmp 21) (.tmp 39) rfl (w1.heap.size + 1) w1.heap.size (by omega) (.slice ao1 (ofN (((toN zs).map (ext m)).take i)).length cap1) (ofN (((toN zs).map (ext m)).take i)) (by simp [Act.eval, Act.put]) (show OwnI _ ((wr.alloc (.cells #[.int .i64 ((x ||| 2 ^ m : Nat) : Int)] 2)).drew) _ _ from hown.alloc _) (show Below _ w1 ((wr.alloc (.cells #[.int .i64 ((x ||| 2 ^ m : Nat) : Int)] 2)).drew) from (hB1.alloc (by omega) _).drew) [((x ||| 2 ^ m : Nat) : Int)] ⟨wr.heap.size, 0, none⟩ 1 (by simp [Act.eval, Act.put]) (by intro q hq; match q, hq with | 0, _ => simp [Addr.add, go_sem]) (by have := Hol.out; simp only [List.length_cons, List.length_nil]; omega) (by simp; omega) ?_
                  intro v2 w2 hown2 hB2 hg1
                  have hbx2 := blk_grown hg1 (fun e => by have := (hown.lt _ e.symm).1; omega) (show ((wr.alloc (.cells #[.int .i64 ((x ||| 2 ^ m : Nat) : Int)] 2)).drew).heap[w1.heap.size]? = _ from blk_alloc hbx)
                  obtain ⟨x0', x1', y0', y1'⟩ := blk2 hbx2
                  rw [ofN_snoc, HstX.out] at hown2
                  obtain ⟨ao2, cap2, rfl⟩ := hown2.shape
                  refine hK.out _ _ ?_ (fun hHeld => ?_)
                  · go_split_ands
                    refine ⟨cell_app k0 hg1 ?_, cell_app k1 hg1 ?_, cell_app ci hg1 ?_⟩ <;> (intro e; have := (hown.lt _ e.symm).1; simp at this; omega)
                  clear hK K
                  (try simp only [Act.put, List.setIfInBounds_toArray, List.set_cons_zero, List.set_cons_succ])
                  refine wpAnyH_take (i := 21) (v := ?_) rfl (by kernel_rfl) (by decide +kernel) (by decide +kernel) (fun _ _ _ h => h) (Or.inl ⟨by rfl, ?_⟩) hHeld ?_
                  rotate_left
                  · (intro w hSw; (try dsimp only at hSw); go_simp <;> with_reducible rfl)
                  (try simp only [Act.put, List.setIfInBounds_toArray, List.set_cons_zero, List.set_cons_succ])
                  refine wpAnyH_ready (rs := [22]) (by kernel_rfl) (by simp) ?_
                  refine AllReadyH.cons rfl (fun K hK => ?_) ?_
                  · go_simp
                    refine hK.out _ _ ?_ (fun hHeld => ?_)
                    · go_split_ands
                      refine ⟨?_, ?_, ?_⟩ <;> (rw [World.cell?_setCell_far _ _ _ _ (by simp; omega)]; assumption)
                    clear hK K
                    (try simp only [Act.put, List.setIfInBounds_toArray, List.set_cons_zero, List.set_cons_succ])
                    refine wpAnyH_done (by kernel_rfl) ?_ _
                    have hown3 := hown2.set ⟨w1.heap.size, 1, none⟩ (.slice ao2 (ofN (((toN zs).map (ext m)).take (i + 1))).length cap2) (by simp)
                    have hbx3 := blk_set1 (u := .slice ao2 (ofN (((toN zs).map (ext m)).take (i + 1))).length cap2) hbx2
                    have hB3 := hB2.setCell (p := ⟨w1.heap.size, 1, none⟩) (Nat.le_refl _) (.slice ao2 (ofN (((toN zs).map (ext m)).take (i + 1))).length cap2)
                    clear hg1 hown hB1 eo hown2 hbx2 hB2 x0' x1' y0' y1'
                    go_wp2
                    go_roundw
                    case rel => exact ⟨i + 1, _, by go_num, by omega, hown3, hbx3, hB3⟩
                    case measure => simp [intOf] <;> omega
                  exact AllReadyH.nil
                exact AllReadyH.nil
              exact AllReadyH.nil
            exact AllReadyH.nil
          refine AllReadyH.cons rfl (fun K hK => ?_) ?_
          · go_simp
            with_reducible refine Calls.mono (l06Weight_any x hx65 _) ?_
            rintro e w' ⟨rfl, rfl⟩
            try go_wp2_with fail
            refine hK.out _ _ ?_ (fun hHeld => ?_)
            · go_keep
            clear hK K
            (try simp only [Act.put, List.setIfInBounds_toArray, List.set_cons_zero, List.set_cons_succ])
            refine wpAnyH_take (i := 13) (v := ?_) rfl (by kernel_rfl) (by decide +kernel) (by decide +kernel) (fun _ _ _ h => h) (Or.inl ⟨by rfl, ?_⟩) hHeld ?_
            rotate_left
            · (intro w hSw; (try dsimp only at hSw); go_simp <;> with_reducible rfl)
            (try simp only [Act.put, List.setIfInBounds_toArray, List.set_cons_zero, List.set_cons_succ])
            refine wpAnyH_take (i := 17) (v := ?_) rfl (by kernel_rfl) (by decide +kernel) (by decide +kernel) (fun _ _ _ h => h) (Or.inl ⟨by rfl, ?_⟩) hHeld ?_
            rotate_left
            · (intro w hSw; (try dsimp only at hSw); go_simp <;> with_reducible rfl)
            (try simp only [Act.put, List.setIfInBounds_toArray, List.set_cons_zero, List.set_cons_succ])
            refine wpAnyH_take (i := 18) (v := ?_) rfl (by kernel_rfl) (by decide +kernel) (by decide +kernel) (fun _ _ _ h => h) (Or.inl ⟨by rfl, ?_⟩) hHeld ?_
            rotate_left
            · (intro w hSw; (try dsimp only at hSw); go_simp <;> with_reducible rfl)
            (try simp only [Act.put, List.setIfInBounds_toArray, List.set_cons_zero, List.set_cons_succ])
            refine wpAnyH_ready (rs := [1, 19]) (by kernel_rfl) (by simp) ?_
            refine AllReadyH.cons rfl (fun K hK => ?_) ?_
            · go_simp
              refine hK.out _ _ ?_ (fun hHeld => ?_)
              · go_keep
              clear hK K
              (try simp only [Act.put, List.setIfInBounds_toArray, List.set_cons_zero, List.set_cons_succ])
              refine wpAnyH_ready (rs := [19]) (by kernel_rfl) (by simp) ?_
              refine AllReadyH.cons rfl (fun K hK => ?_) ?_
              · go_simp
                refine hK.out _ _ ?_ (fun hHeld => ?_)
                · go_keep
                clear hK K
                (try simp only [Act.put, List.setIfInBounds_toArray, List.set_cons_zero, List.set_cons_succ])
                refine wpAnyH_ready (rs := [20]) (by kernel_rfl) (by simp) ?_
                refine AllReadyH.cons rfl (fun K hK => ?_) ?_
                · refine step_app rfl (.tmp 21) (.tmp 39) rfl (w1.heap.size + 1) w1.heap.size (by omega) (.slice ao1 (ofN (((toN zs).map (ext m)).take i)).length cap1) (ofN (((toN zs).map (ext m)).take i)) (by simp [Act.eval, Act.put]) (show OwnI _ ((wr.alloc (.cells #[.int .i64 ((x ||| 2 ^ m : Nat) : Int)] 2)).drew) _ _ from hown.alloc _) (show Below _ w1 ((wr.alloc (.cells #[.int .i64 ((x ||| 2 ^ m : Nat) : Int)] 2)).drew) from (hB1.alloc (by omega) _).drew) [((x ||| 2 ^ m : Nat) : Int)] ⟨wr.heap.size, 0, none⟩ 1 (by simp [Act.eval, Act.put]) (by intro q hq; match q, hq with | 0, _ => simp [Addr.add, go_sem]) (by have := Hol.out; simp only [List.length_cons, List.length_nil]; omega) (by simp; omega) ?_
                  intro v2 w2 hown2 hB2 hg1
                  have hbx2 := blk_grown hg1 (fun e => by have := (hown.lt _ e.symm).1; omega) (show ((wr.alloc (.cells #[.int .i64 ((x ||| 2 ^ m : Nat) : Int)] 2)).drew).heap[w1.heap.size]? = _ from blk_alloc hbx)
                  obtain ⟨x0', x1', y0', y1'⟩ := blk2 hbx2
                  rw [ofN_snoc, HstX.out] at hown2
                  obtain ⟨ao2, cap2, rfl⟩ := hown2.shape
                  refine hK.out _ _ ?_ (fun hHeld => ?_)
                  · go_split_ands
                    refine ⟨cell_app k0 hg1 ?_, cell_app k1 hg1 ?_, cell_app ci hg1 ?_⟩ <;> (intro e; have := (hown.lt _ e.symm).1; simp at this; omega)
                  clear hK K
                  (try simp only [Act.put, List.setIfInBounds_toArray, List.set_cons_zero, List.set_cons_succ])
                  refine wpAnyH_take (i := 21) (v := ?_) rfl (by kernel_rfl) (by decide +kernel) (by decide +kernel) (fun _ _ _ h => h) (Or.inl ⟨by rfl, ?_⟩) hHeld ?_
                  rotate_left
                  · (intro w hSw; (try dsimp only at hSw); go_simp <;> with_reducible rfl)
                  (try simp only [Act.put, List.setIfInBounds_toArray, List.set_cons_zero, List.set_cons_succ])
                  refine wpAnyH_ready (rs := [22]) (by kernel_rfl) (by simp) ?_
                  refine AllReadyH.cons rfl (fun K hK => ?_) ?_
                  · go_simp
                    refine hK.out _ _ ?_ (fun hHeld => ?_)
                    · go_split_ands
                      refine ⟨?_, ?_, ?_⟩ <;> (rw [World.cell?_setCell_far _ _ _ _ (by simp; omega)]; assumption)
                    clear hK K
                    (try simp only [Act.put, List.setIfInBounds_toArray, List.set_cons_zero, List.set_cons_succ])
                    refine wpAnyH_done (by kernel_rfl) ?_ _
                    have hown3 := hown2.set ⟨w1.heap.size, 1, none⟩ (.slice ao2 (ofN (((toN zs).map (ext m)).take (i + 1))).length cap2) (by simp)
                    have hbx3 := blk_set1 (u := .slice ao2 (ofN (((toN zs).map (ext m)).take (i + 1))).length cap2) hbx2
                    have hB3 := hB2.setCell (p := ⟨w1.heap.size, 1, none⟩) (Nat.le_refl _) (.slice ao2 (ofN (((toN zs).map (ext m)).take (i + 1))).length cap2)
                    clear hg1 hown hB1 eo hown2 hbx2 hB2 x0' x1' y0' y1'
                    go_wp2
                    go_roundw
                    case rel => exact ⟨i + 1, _, by go_num, by omega, hown3, hbx3, hB3⟩
                    case measure => simp [intOf] <;> omega
                  exact AllReadyH.nil
                exact AllReadyH.nil
              exact AllReadyH.nil
            refine AllReadyH.cons rfl (fun K hK => ?_) ?_
            · go_simp
              refine hK.out _ _ ?_ (fun hHeld => ?_)
              · go_keep
              clear hK K
              (try simp only [Act.put, List.setIfInBounds_toArray, List.set_cons_zero, List.set_cons_succ])
              refine wpAnyH_ready (rs := [1]) (by kernel_rfl) (by simp) ?_
              refine AllReadyH.cons rfl (fun K hK => ?_) ?_
              · go_simp
                refine hK.out _ _ ?_ (fun hHeld => ?_)
                · go_keep
                clear hK K
                (try simp only [Act.put, List.setIfInBounds_toArray, List.set_cons_zero, List.set_cons_succ])
                refine wpAnyH_ready (rs := [20]) (by kernel_rfl) (by simp) ?_
                refine AllReadyH.cons rfl (fun K hK => ?_) ?_
                · refine step_app rfl (.tmp 21) (.tmp 39) rfl (w1.heap.size + 1) w1.heap.size (by omega) (.slice ao1 (ofN (((toN zs).map (ext m)).take i)).length cap1) (ofN (((toN zs).map (ext m)).take i)) (by simp [Act.eval, Act.put]) (show OwnI _ ((wr.alloc (.cells #[.int .i64 ((x ||| 2 ^ m : Nat) : Int)] 2)).drew) _ _ from hown.alloc _) (show Below _ w1 ((wr.alloc (.cells #[.int .i64 ((x ||| 2 ^ m : Nat) : Int)] 2)).drew) from (hB1.alloc (by omega) _).drew) [((x ||| 2 ^ m : Nat) : Int)] ⟨wr.heap.size, 0, none⟩ 1 (by simp [Act.eval, Act.put]) (by intro q hq; match q, hq with | 0, _ => simp [Addr.add, go_sem]) (by have := Hol.out; simp only [List.length_cons, List.length_nil]; omega) (by simp; omega) ?_
                  intro v2 w2 hown2 hB2 hg1
                  have hbx2 := blk_grown hg1 (fun e => by have := (hown.lt _ e.symm).1; omega) (show ((wr.alloc (.cells #[.int .i64 ((x ||| 2 ^ m : Nat) : Int)] 2)).drew).heap[w1.heap.size]? = _ from blk_alloc hbx)
                  obtain ⟨x0', x1', y0', y1'⟩ := blk2 hbx2
                  rw [ofN_snoc, HstX.out] at hown2
                  obtain ⟨ao2, cap2, rfl⟩ := hown2.shape
                  refine hK.out _ _ ?_ (fun hHeld => ?_)
                  · go_split_ands
                    refine ⟨cell_app k0 hg1 ?_, cell_app k1 hg1 ?_, cell_app ci hg1 ?_⟩ <;> (intro e; have := (hown.lt _ e.symm).1; simp at this; omega)
                  clear hK K
                  (try simp only [Act.put, List.setIfInBounds_toArray, List.set_cons_zero, List.set_cons_succ])
                  refine wpAnyH_take (i := 21) (v := ?_) rfl (by kernel_rfl) (by decide +kernel) (by decide +kernel) (fun _ _ _ h => h) (Or.inl ⟨by rfl, ?_⟩) hHeld ?_
                  rotate_left
                  · (intro w hSw; (try dsimp only at hSw); go_simp <;> with_reducible rfl)
                  (try simp only [Act.put, List.setIfInBounds_toArray, List.set_cons_zero, List.set_cons_succ])
                  refine wpAnyH_ready (rs := [22]) (by kernel_rfl) (by simp) ?_
                  refine AllReadyH.cons rfl (fun K hK => ?_) ?_
                  · go_simp
                    refine hK.out _ _ ?_ (fun hHeld => ?_)
                    · go_split_ands
                      refine ⟨?_, ?_, ?_⟩ <;> (rw [World.cell?_setCell_far _ _ _ _ (by simp; omega)]; assumption)
                    clear hK K
                    (try simp only [Act.put, List.setIfInBounds_toArray, List.set_cons_zero, List.set_cons_succ])
                    refine wpAnyH_done (by kernel_rfl) ?_ _
                    have hown3 := hown2.set ⟨w1.heap.size, 1, none⟩ (.slice ao2 (ofN (((toN zs).map (ext m)).take (i + 1))).length cap2) (by simp)
                    have hbx3 := blk_set1 (u := .slice ao2 (ofN (((toN zs).map (ext m)).take (i + 1))).length cap2) hbx2
                    have hB3 := hB2.setCell (p := ⟨w1.heap.size, 1, none⟩) (Nat.le_refl _) (.slice ao2 (ofN (((toN zs).map (ext m)).take (i + 1))).length cap2)
                    clear hg1 hown hB1 eo hown2 hbx2 hB2 x0' x1' y0' y1'
                    go_wp2
                    go_roundw
                    case rel => exact ⟨i + 1, _, by go_num, by omega, hown3, hbx3, hB3⟩
                    case measure => simp [intOf] <;> omega
                  exact AllReadyH.nil
                exact AllReadyH.nil
              exact AllReadyH.nil
            exact AllReadyH.nil
          exact AllReadyH.nil
        · have hd : odd x = false := by simpa using hd
          have he : ext m x = x := by unfold ext; rw [hd]; rfl
          have e3 : ((wt x : Nat) : Int).tmod 2 = 0 := by
            rw [hd] at hoe
            have h1 : ((wt x : Nat) : Int) % 2 = 0 := by
              have h2 : ¬ ((wt x : Nat) : Int) % 2 = 1 := by simpa using hoe
              omega
            rw [Int.tmod_eq_emod_of_nonneg (by omega)]; exact h1
          have e4 : IntKind.u64.wrap (m : Int) = m := by rw [IntKind.wrap_u64]; omega
          have e6 : IntKind.i64.wrap 0 = 0 := by decide
          have hst := Hst.out
          rw [he] at hst
          have Hst2 := Lib.hid hst
          have HstX := Hst2
          clear hoe eo hst
          go_wp2_with fail
          refine wp_region_held_drew (S := fun W' => W'.cell? ⟨w.heap.size, 0, none⟩ = some (.int .i64 m) ∧ W'.cell? ⟨w.heap.size, 1, none⟩ = some (.slice (some ⟨b0, o0, none⟩) zs.length cap) ∧ W'.cell? ⟨b0, o0 + i, none⟩ = some (.int .i64 x)) (by kernel_rfl) ?_ (fun hHeld => ?_)
          · go_keep
          refine wpAnyH_take (i := 0) (v := ?_) rfl (by kernel_rfl) (by decide +kernel) (by decide +kernel) (fun _ _ _ h => h) (Or.inl ⟨by rfl, ?_⟩) hHeld ?_
          rotate_left
          · (intro w hSw; (try dsimp only at hSw); go_simp <;> with_reducible rfl)
          (try simp only [Act.put, List.setIfInBounds_toArray, List.set_cons_zero, List.set_cons_succ])
          refine wpAnyH_take (i := 2) (v := ?_) rfl (by kernel_rfl) (by decide +kernel) (by decide +kernel) (fun _ _ _ h => h) (Or.inl ⟨by rfl, ?_⟩) hHeld ?_
          rotate_left
          · (intro w hSw; (try dsimp only at hSw); go_simp <;> with_reducible rfl)
          (try simp only [Act.put, List.setIfInBounds_toArray, List.set_cons_zero, List.set_cons_succ])
          refine wpAnyH_take (i := 3) (v := ?_) rfl (by kernel_rfl) (by decide +kernel) (by decide +kernel) (fun _ _ _ h => h) (Or.inl ⟨by rfl, ?_⟩) hHeld ?_
          rotate_left
          · (intro w hSw; (try dsimp only at hSw); go_simp <;> with_reducible rfl)
          (try simp only [Act.put, List.setIfInBounds_toArray, List.set_cons_zero, List.set_cons_succ])
          refine wpAnyH_take (i := 4) (v := ?_) rfl (by kernel_rfl) (by decide +kernel) (by decide +kernel) (fun _ _ _ h => h) (Or.inl ⟨by rfl, ?_⟩) hHeld ?_
          rotate_left
          · (intro w hSw; (try dsimp only at hSw); go_simp <;> with_reducible rfl)
          (try simp only [Act.put, List.setIfInBounds_toArray, List.set_cons_zero, List.set_cons_succ])
          refine wpAnyH_take (i := 5) (v := ?_) rfl (by kernel_rfl) (by decide +kernel) (by decide +kernel) (fun _ _ _ h => h) (Or.inl ⟨by rfl, ?_⟩) hHeld ?_
          rotate_left
          · (intro w hSw; (try dsimp only at hSw); go_simp <;> with_reducible rfl)
          (try simp only [Act.put, List.setIfInBounds_toArray, List.set_cons_zero, List.set_cons_succ])
          refine wpAnyH_take (i := 6) (v := ?_) rfl (by kernel_rfl) (by decide +kernel) (by decide +kernel) (fun _ _ _ h => h) (Or.inl ⟨by rfl, ?_⟩) hHeld ?_
          rotate_left
          · (intro w hSw; (try dsimp only at hSw); go_simp <;> with_reducible rfl)
          (try simp only [Act.put, List.setIfInBounds_toArray, List.set_cons_zero, List.set_cons_succ])
          refine wpAnyH_take (i := 7) (v := ?_) rfl (by kernel_rfl) (by decide +kernel) (by decide +kernel) (fun _ _ _ h => h) (Or.inl ⟨by rfl, ?_⟩) hHeld ?_
          rotate_left
          · (intro w hSw; (try dsimp only at hSw); go_simp <;> with_reducible rfl)
          (try simp only [Act.put, List.setIfInBounds_toArray, List.set_cons_zero, List.set_cons_succ])
          refine wpAnyH_take (i := 8) (v := ?_) rfl (by kernel_rfl) (by decide +kernel) (by decide +kernel) (fun _ _ _ h => h) (Or.inl ⟨by rfl, ?_⟩) hHeld ?_
          rotate_left
          · (intro w hSw; (try dsimp only at hSw); go_simp <;> with_reducible rfl)
          (try simp only [Act.put, List.setIfInBounds_toArray, List.set_cons_zero, List.set_cons_succ])
          refine wpAnyH_take (i := 9) (v := ?_) rfl (by kernel_rfl) (by decide +kernel) (by decide +kernel) (fun _ _ _ h => h) (Or.inl ⟨by rfl, ?_⟩) hHeld ?_
          rotate_left
          · (intro w hSw; (try dsimp only at hSw); go_simp <;> with_reducible rfl)
          (try simp only [Act.put, List.setIfInBounds_toArray, List.set_cons_zero, List.set_cons_succ])
          refine wpAnyH_take (i := 10) (v := ?_) rfl (by kernel_rfl) (by decide +kernel) (by decide +kernel) (fun _ _ _ h => h) (Or.inl ⟨by rfl, ?_⟩) hHeld ?_
          rotate_left
          · (intro w hSw; (try dsimp only at hSw); go_simp <;> with_reducible rfl)
          (try simp only [Act.put, List.setIfInBounds_toArray, List.set_cons_zero, List.set_cons_succ])
          refine wpAnyH_take (i := 11) (v := ?_) rfl (by kernel_rfl) (by decide +kernel) (by decide +kernel) (fun _ _ _ h => h) (Or.inl ⟨by rfl, ?_⟩) hHeld ?_
          rotate_left
          · (intro w hSw; (try dsimp only at hSw); go_simp <;> with_reducible rfl)
          (try simp only [Act.put, List.setIfInBounds_toArray, List.set_cons_zero, List.set_cons_succ])
          refine wpAnyH_take (i := 14) (v := ?_) rfl (by kernel_rfl) (by decide +kernel) (by decide +kernel) (fun _ _ _ h => h) (Or.inl ⟨by rfl, ?_⟩) hHeld ?_
          rotate_left
          · (intro w hSw; (try dsimp only at hSw); go_simp <;> with_reducible rfl)
          (try simp only [Act.put, List.setIfInBounds_toArray, List.set_cons_zero, List.set_cons_succ])
          refine wpAnyH_take (i := 15) (v := ?_) rfl (by kernel_rfl) (by decide +kernel) (by decide +kernel) (fun _ _ _ h => h) (Or.inl ⟨by rfl, ?_⟩) hHeld ?_
          rotate_left
          · (intro w hSw; (try dsimp only at hSw); go_simp <;> with_reducible rfl)
          (try simp only [Act.put, List.setIfInBounds_toArray, List.set_cons_zero, List.set_cons_succ])
          refine wpAnyH_take (i := 16) (v := ?_) rfl (by kernel_rfl) (by decide +kernel) (by decide +kernel) (fun _ _ _ h => h) (Or.inl ⟨by rfl, ?_⟩) hHeld ?_
          rotate_left
          · (intro w hSw; (try dsimp only at hSw); go_simp <;> with_reducible rfl)
          (try simp only [Act.put, List.setIfInBounds_toArray, List.set_cons_zero, List.set_cons_succ])
          refine wpAnyH_ready (rs := [1, 12]) (by kernel_rfl) (by simp) ?_
          refine AllReadyH.cons rfl (fun K hK => ?_) ?_
          · go_simp
            refine hK.out _ _ ?_ (fun hHeld => ?_)
            · go_keep
            clear hK K
            (try simp only [Act.put, List.setIfInBounds_toArray, List.set_cons_zero, List.set_cons_succ])
            refine wpAnyH_ready (rs := [12]) (by kernel_rfl) (by simp) ?_
            refine AllReadyH.cons rfl (fun K hK => ?_) ?_
            · go_simp
              with_reducible refine Calls.mono (l06Weight_any x hx65 _) ?_
              rintro e w' ⟨rfl, rfl⟩
              try go_wp2_with fail
              refine hK.out _ _ ?_ (fun hHeld => ?_)
              · go_keep
              clear hK K
              (try simp only [Act.put, List.setIfInBounds_toArray, List.set_cons_zero, List.set_cons_succ])
              refine wpAnyH_take (i := 13) (v := ?_) rfl (by kernel_rfl) (by decide +kernel) (by decide +kernel) (fun _ _ _ h => h) (Or.inl ⟨by rfl, ?_⟩) hHeld ?_
              rotate_left
              · (intro w hSw; (try dsimp only at hSw); go_simp <;> with_reducible rfl)
              (try simp only [Act.put, List.setIfInBounds_toArray, List.set_cons_zero, List.set_cons_succ])
              refine wpAnyH_take (i := 17) (v := ?_) rfl (by kernel_rfl) (by decide +kernel) (by decide +kernel) (fun _ _ _ h => h) (Or.inl ⟨by rfl, ?_⟩) hHeld ?_
              rotate_left
              · (intro w hSw; (try dsimp only at hSw); go_simp <;> with_reducible rfl)
              (try simp only [Act.put, List.setIfInBounds_toArray, List.set_cons_zero, List.set_cons_succ])
              refine wpAnyH_take (i := 18) (v := ?_) rfl (by kernel_rfl) (by decide +kernel) (by decide +kernel) (fun _ _ _ h => h) (Or.inl ⟨by rfl, ?_⟩) hHeld ?_
              rotate_left
              · (intro w hSw; (try dsimp only at hSw); go_simp <;> with_reducible rfl)
              (try simp only [Act.put, List.setIfInBounds_toArray, List.set_cons_zero, List.set_cons_succ])
              refine wpAnyH_ready (rs := [19]) (by kernel_rfl) (by simp) ?_
              refine AllReadyH.cons rfl (fun K hK => ?_) ?_
              · go_simp
                refine hK.out _ _ ?_ (fun hHeld => ?_)
                · go_keep
                clear hK K
                (try simp only [Act.put, List.setIfInBounds_toArray, List.set_cons_zero, List.set_cons_succ])
                refine wpAnyH_ready (rs := [20]) (by kernel_rfl) (by simp) ?_
                refine AllReadyH.cons rfl (fun K hK => ?_) ?_
                · refine step_app rfl (.tmp 21) (.tmp 39) rfl (w1.heap.size + 1) w1.heap.size (by omega) (.slice ao1 (ofN (((toN zs).map (ext m)).take i)).length cap1) (ofN (((toN zs).map (ext m)).take i)) (by simp [Act.eval, Act.put]) (show OwnI _ ((wr.alloc (.cells #[.int .i64 (x : Int)] 2)).drew) _ _ from hown.alloc _) (show Below _ w1 ((wr.alloc (.cells #[.int .i64 (x : Int)] 2)).drew) from (hB1.alloc (by omega) _).drew) [(x : Int)] ⟨wr.heap.size, 0, none⟩ 1 (by simp [Act.eval, Act.put]) (by intro q hq; match q, hq with | 0, _ => simp [Addr.add, go_sem]) (by have := Hol.out; simp only [List.length_cons, List.length_nil]; omega) (by simp; omega) ?_
                  intro v2 w2 hown2 hB2 hg1
                  have hbx2 := blk_grown hg1 (fun e => by have := (hown.lt _ e.symm).1; omega) (show ((wr.alloc (.cells #[.int .i64 (x : Int)] 2)).drew).heap[w1.heap.size]? = _ from blk_alloc hbx)
                  obtain ⟨x0', x1', y0', y1'⟩ := blk2 hbx2
                  rw [ofN_snoc, HstX.out] at hown2
                  obtain ⟨ao2, cap2, rfl⟩ := hown2.shape
                  refine hK.out _ _ ?_ (fun hHeld => ?_)
                  · go_split_ands
                    refine ⟨cell_app k0 hg1 ?_, cell_app k1 hg1 ?_, cell_app ci hg1 ?_⟩ <;> (intro e; have := (hown.lt _ e.symm).1; simp at this; omega)
                  clear hK K
                  (try simp only [Act.put, List.setIfInBounds_toArray, List.set_cons_zero, List.set_cons_succ])
                  refine wpAnyH_take (i := 21) (v := ?_) rfl (by kernel_rfl) (by decide +kernel) (by decide +kernel) (fun _ _ _ h => h) (Or.inl ⟨by rfl, ?_⟩) hHeld ?_
                  rotate_left
                  · (intro w hSw; (try dsimp only at hSw); go_simp <;> with_reducible rfl)
                  (try simp only [Act.put, List.setIfInBounds_toArray, List.set_cons_zero, List.set_cons_succ])
                  refine wpAnyH_ready (rs := [22]) (by kernel_rfl) (by simp) ?_
                  refine AllReadyH.cons rfl (fun K hK => ?_) ?_
                  · go_simp
                    refine hK.out _ _ ?_ (fun hHeld => ?_)
                    · go_split_ands
                      refine ⟨?_, ?_, ?_⟩ <;> (rw [World.cell?_setCell_far _ _ _ _ (by simp; omega)]; assumption)
                    clear hK K
                    (try simp only [Act.put, List.setIfInBounds_toArray, List.set_cons_zero, List.set_cons_succ])
                    refine wpAnyH_done (by kernel_rfl) ?_ _
                    have hown3 := hown2.set ⟨w1.heap.size, 1, none⟩ (.slice ao2 (ofN (((toN zs).map (ext m)).take (i + 1))).length cap2) (by simp)
                    have hbx3 := blk_set1 (u := .slice ao2 (ofN (((toN zs).map (ext m)).take (i + 1))).length cap2) hbx2
                    have hB3 := hB2.setCell (p := ⟨w1.heap.size, 1, none⟩) (Nat.le_refl _) (.slice ao2 (ofN (((toN zs).map (ext m)).take (i + 1))).length cap2)
                    clear hg1 hown hB1 ez hown2 hbx2 hB2 x0' x1' y0' y1'
                    go_wp2
                    go_roundw
                    case rel => exact ⟨i + 1, _, by go_num, by omega, hown3, hbx3, hB3⟩
                    case measure => simp [intOf] <;> omega
                  exact AllReadyH.nil
                exact AllReadyH.nil
              exact AllReadyH.nil
            exact AllReadyH.nil
          refine AllReadyH.cons rfl (fun K hK => ?_) ?_
          · go_simp
            with_reducible refine Calls.mono (l06Weight_any x hx65 _) ?_
            rintro e w' ⟨rfl, rfl⟩
            try go_wp2_with fail
            refine hK.out _ _ ?_ (fun hHeld => ?_)
            · go_keep
            clear hK K
            (try simp only [Act.put, List.setIfInBounds_toArray, List.set_cons_zero, List.set_cons_succ])
            refine wpAnyH_take (i := 13) (v := ?_) rfl (by kernel_rfl) (by decide +kernel) (by decide +kernel) (fun _ _ _ h => h) (Or.inl ⟨by rfl, ?_⟩) hHeld ?_
            rotate_left
            · (intro w hSw; (try dsimp only at hSw); go_simp <;> with_reducible rfl)
            (try simp only [Act.put, List.setIfInBounds_toArray, List.set_cons_zero, List.set_cons_succ])
            refine wpAnyH_take (i := 17) (v := ?_) rfl (by kernel_rfl) (by decide +kernel) (by decide +kernel) (fun _ _ _ h => h) (Or.inl ⟨by rfl, ?_⟩) hHeld ?_
            rotate_left
            · (intro w hSw; (try dsimp only at hSw); go_simp <;> with_reducible rfl)
            (try simp only [Act.put, List.setIfInBounds_toArray, List.set_cons_zero, List.set_cons_succ])
            refine wpAnyH_take (i := 18) (v := ?_) rfl (by kernel_rfl) (by decide +kernel) (by decide +kernel) (fun _ _ _ h => h) (Or.inl ⟨by rfl, ?_⟩) hHeld ?_
            rotate_left
            · (intro w hSw; (try dsimp only at hSw); go_simp <;> with_reducible rfl)
            (try simp only [Act.put, List.setIfInBounds_toArray, List.set_cons_zero, List.set_cons_succ])
            refine wpAnyH_ready (rs := [1, 19]) (by kernel_rfl) (by simp) ?_
            refine AllReadyH.cons rfl (fun K hK => ?_) ?_
            · go_simp
              refine hK.out _ _ ?_ (fun hHeld => ?_)
              · go_keep
              clear hK K
              (try simp only [Act.put, List.setIfInBounds_toArray, List.set_cons_zero, List.set_cons_succ])
              refine wpAnyH_ready (rs := [19]) (by kernel_rfl) (by simp) ?_
              refine AllReadyH.cons rfl (fun K hK => ?_) ?_
              · go_simp
                refine hK.out _ _ ?_ (fun hHeld => ?_)
                · go_keep
                clear hK K
                (try simp only [Act.put, List.setIfInBounds_toArray, List.set_cons_zero, List.set_cons_succ])
                refine wpAnyH_ready (rs := [20]) (by kernel_rfl) (by simp) ?_
                refine AllReadyH.cons rfl (fun K hK => ?_) ?_
                · refine step_app rfl (.tmp 21) (.tmp 39) rfl (w1.heap.size + 1) w1.heap.size (by omega) (.slice ao1 (ofN (((toN zs).map (ext m)).take i)).length cap1) (ofN (((toN zs).map (ext m)).take i)) (by simp [Act.eval, Act.put]) (show OwnI _ ((wr.alloc (.cells #[.int .i64 (x : Int)] 2)).drew) _ _ from hown.alloc _) (show Below _ w1 ((wr.alloc (.cells #[.int .i64 (x : Int)] 2)).drew) from (hB1.alloc (by omega) _).drew) [(x : Int)] ⟨wr.heap.size, 0, none⟩ 1 (by simp [Act.eval, Act.put]) (by intro q hq; match q, hq with | 0, _ => simp [Addr.add, go_sem]) (by have := Hol.out; simp only [List.length_cons, List.length_nil]; omega) (by simp; omega) ?_
                  intro v2 w2 hown2 hB2 hg1
                  have hbx2 := blk_grown hg1 (fun e => by have := (hown.lt _ e.symm).1; omega) (show ((wr.alloc (.cells #[.int .i64 (x : Int)] 2)).drew).heap[w1.heap.size]? = _ from blk_alloc hbx)
                  obtain ⟨x0', x1', y0', y1'⟩ := blk2 hbx2
                  rw [ofN_snoc, HstX.out] at hown2
                  obtain ⟨ao2, cap2, rfl⟩ := hown2.shape
                  refine hK.out _ _ ?_ (fun hHeld => ?_)
                  · go_split_ands
                    refine ⟨cell_app k0 hg1 ?_, cell_app k1 hg1 ?_, cell_app ci hg1 ?_⟩ <;> (intro e; have := (hown.lt _ e.symm).1; simp at this; omega)
                  clear hK K
                  (try simp only [Act.put, List.setIfInBounds_toArray, List.set_cons_zero, List.set_cons_succ])
                  refine wpAnyH_take (i := 21) (v := ?_) rfl (by kernel_rfl) (by decide +kernel) (by decide +kernel) (fun _ _ _ h => h) (Or.inl ⟨by rfl, ?_⟩) hHeld ?_
                  rotate_left
                  · (intro w hSw; (try dsimp only at hSw); go_simp <;> with_reducible rfl)
                  (try simp only [Act.put, List.setIfInBounds_toArray, List.set_cons_zero, List.set_cons_succ])
                  refine wpAnyH_ready (rs := [22]) (by kernel_rfl) (by simp) ?_
                  refine AllReadyH.cons rfl (fun K hK => ?_) ?_
                  · go_simp
                    refine hK.out _ _ ?_ (fun hHeld => ?_)
                    · go_split_ands
                      refine ⟨?_, ?_, ?_⟩ <;> (rw [World.cell?_setCell_far _ _ _ _ (by simp; omega)]; assumption)
                    clear hK K
                    (try simp only [Act.put, List.setIfInBounds_toArray, List.set_cons_zero, List.set_cons_succ])
                    refine wpAnyH_done (by kernel_rfl) ?_ _
                    have hown3 := hown2.set ⟨w1.heap.size, 1, none⟩ (.slice ao2 (ofN (((toN zs).map (ext m)).take (i + 1))).length cap2) (by simp)
                    have hbx3 := blk_set1 (u := .slice ao2 (ofN (((toN zs).map (ext m)).take (i + 1))).length cap2) hbx2
                    have hB3 := hB2.setCell (p := ⟨w1.heap.size, 1, none⟩) (Nat.le_refl _) (.slice ao2 (ofN (((toN zs).map (ext m)).take (i + 1))).length cap2)
                    clear hg1 hown hB1 ez hown2 hbx2 hB2 x0' x1' y0' y1'
                    go_wp2
                    go_roundw
                    case rel => exact ⟨i + 1, _, by go_num, by omega, hown3, hbx3, hB3⟩
                    case measure => simp [intOf] <;> omega
                  exact AllReadyH.nil
                exact AllReadyH.nil
              exact AllReadyH.nil
            refine AllReadyH.cons rfl (fun K hK => ?_) ?_
            · go_simp
              refine hK.out _ _ ?_ (fun hHeld => ?_)
              · go_keep
              clear hK K
              (try simp only [Act.put, List.setIfInBounds_toArray, List.set_cons_zero, List.set_cons_succ])
              refine wpAnyH_ready (rs := [1]) (by kernel_rfl) (by simp) ?_
              refine AllReadyH.cons rfl (fun K hK => ?_) ?_
              · go_simp
                refine hK.out _ _ ?_ (fun hHeld => ?_)
                · go_keep
                clear hK K
                (try simp only [Act.put, List.setIfInBounds_toArray, List.set_cons_zero, List.set_cons_succ])
                refine wpAnyH_ready (rs := [20]) (by kernel_rfl) (by simp) ?_
                refine AllReadyH.cons rfl (fun K hK => ?_) ?_
                · refine step_app rfl (.tmp 21) (.tmp 39) rfl (w1.heap.size + 1) w1.heap.size (by omega) (.slice ao1 (ofN (((toN zs).map (ext m)).take i)).length cap1) (ofN (((toN zs).map (ext m)).take i)) (by simp [Act.eval, Act.put]) (show OwnI _ ((wr.alloc (.cells #[.int .i64 (x : Int)] 2)).drew) _ _ from hown.alloc _) (show Below _ w1 ((wr.alloc (.cells #[.int .i64 (x : Int)] 2)).drew) from (hB1.alloc (by omega) _).drew) [(x : Int)] ⟨wr.heap.size, 0, none⟩ 1 (by simp [Act.eval, Act.put]) (by intro q hq; match q, hq with | 0, _ => simp [Addr.add, go_sem]) (by have := Hol.out; simp only [List.length_cons, List.length_nil]; omega) (by simp; omega) ?_
                  intro v2 w2 hown2 hB2 hg1
                  have hbx2 := blk_grown hg1 (fun e => by have := (hown.lt _ e.symm).1; omega) (show ((wr.alloc (.cells #[.int .i64 (x : Int)] 2)).drew).heap[w1.heap.size]? = _ from blk_alloc hbx)
                  obtain ⟨x0', x1', y0', y1'⟩ := blk2 hbx2
                  rw [ofN_snoc, HstX.out] at hown2
                  obtain ⟨ao2, cap2, rfl⟩ := hown2.shape
                  refine hK.out _ _ ?_ (fun hHeld => ?_)
                  · go_split_ands
                    refine ⟨cell_app k0 hg1 ?_, cell_app k1 hg1 ?_, cell_app ci hg1 ?_⟩ <;> (intro e; have := (hown.lt _ e.symm).1; simp at this; omega)
                  clear hK K
                  (try simp only [Act.put, List.setIfInBounds_toArray, List.set_cons_zero, List.set_cons_succ])
                  refine wpAnyH_take (i := 21) (v := ?_) rfl (by kernel_rfl) (by decide +kernel) (by decide +kernel) (fun _ _ _ h => h) (Or.inl ⟨by rfl, ?_⟩) hHeld ?_
                  rotate_left
                  · (intro w hSw; (try dsimp only at hSw); go_simp <;> with_reducible rfl)
                  (try simp only [Act.put, List.setIfInBounds_toArray, List.set_cons_zero, List.set_cons_succ])
                  refine wpAnyH_ready (rs := [22]) (by kernel_rfl) (by simp) ?_
                  refine AllReadyH.cons rfl (fun K hK => ?_) ?_
                  · go_simp
                    refine hK.out _ _ ?_ (fun hHeld => ?_)
                    · go_split_ands
                      refine ⟨?_, ?_, ?_⟩ <;> (rw [World.cell?_setCell_far _ _ _ _ (by simp; omega)]; assumption)
                    clear hK K
                    (try simp only [Act.put, List.setIfInBounds_toArray, List.set_cons_zero, List.set_cons_succ])
                    refine wpAnyH_done (by kernel_rfl) ?_ _
                    have hown3 := hown2.set ⟨w1.heap.size, 1, none⟩ (.slice ao2 (ofN (((toN zs).map (ext m)).take (i + 1))).length cap2) (by simp)
                    have hbx3 := blk_set1 (u := .slice ao2 (ofN (((toN zs).map (ext m)).take (i + 1))).length cap2) hbx2
                    have hB3 := hB2.setCell (p := ⟨w1.heap.size, 1, none⟩) (Nat.le_refl _) (.slice ao2 (ofN (((toN zs).map (ext m)).take (i + 1))).length cap2)
                    clear hg1 hown hB1 ez hown2 hbx2 hB2 x0' x1' y0' y1'
                    go_wp2
                    go_roundw
                    case rel => exact ⟨i + 1, _, by go_num, by omega, hown3, hbx3, hB3⟩
                    case measure => simp [intOf] <;> omega
                  exact AllReadyH.nil
                exact AllReadyH.nil
              exact AllReadyH.nil
            exact AllReadyH.nil
          exact AllReadyH.nil
      · have hz : exZ m zs = ofN (((toN zs).map (ext m)).take i) := by rw [exZ, Int.toNat_natCast, List.take_of_length_le (by rw [List.length_map, Ht.out]; omega)]
        have hi64 : AllI64 (ofN (((toN zs).map (ext m)).take i)) := ofN_i64 (M := 131072) (fun y hy => by
          obtain ⟨x, hx, rfl⟩ := List.mem_map.1 (List.mem_of_mem_take hy)
          exact ext_lt hm2 (Hlt.out x hx)) (by decide)
        have ho : OI (w1.heap.size + 1) wr (.slice ao1 (ofN (((toN zs).map (ext m)).take i)).length cap1) (exZ m zs) := by rw [hz]; exact hown.oi hi64
        have hr2 := blk_next hB1 hr
        have hB2 := bnext hB hB1
        clear hz hi64 hown
        go_wp2_with fail
        by_cases hpv : prv ((m : Int) + 1) (exZ m zs) = true
        · (with_reducible refine Calls.mono (l06Give_any ((m : Int) + 1) _ (exZ m zs) _ ho.ri) ?_)
          rw [hpv, apN_t, apV_t]
          rintro e w3 ⟨rfl, hb3⟩
          obtain ⟨r0, r1, q0, q1⟩ := blk2 (blk_next hb3 hr2)
          have hBf := bnext hB2 hb3
          have hok3 := OI.below hb3 ho
          have hfin := OI.box hok3 (w.heap.size + 1) (by omega) (.int .i64 ((m : Int) + 1)) (.slice ao1 (ofN (((toN zs).map (ext m)).take i)).length cap1)
          have hfB := below_box hBf (w.heap.size + 1) (by omega) (.int .i64 ((m : Int) + 1)) (.slice ao1 (ofN (((toN zs).map (ext m)).take i)).length cap1)
          have Hf := Lib.hid hfin
          have HP := Lib.hid hpv
          clear hok3 hfin hpv
          go_wp2
          exact bodyPost_ret (v := .tuple #[.agg #[.int .i64 ((m : Int) + 1), (.slice ao1 (ofN (((toN zs).map (ext m)).take i)).length cap1)], .bool true]) (by simp [results, Try.results5, go_sem, r0, r1]) rfl ⟨(.slice ao1 (ofN (((toN zs).map (ext m)).take i)).length cap1), by rw [HOK.out, HP.out]; rfl, by rw [HOK.out, HP.out]; exact OI.mono (by omega) Hf.out, hfB⟩
        · have hpv : prv ((m : Int) + 1) (exZ m zs) = false := by simpa using hpv
          (with_reducible refine Calls.mono (l06Give_any ((m : Int) + 1) _ (exZ m zs) _ ho.ri) ?_)
          rw [hpv, apN_f, apV_f]
          rintro e w3 ⟨rfl, hb3⟩
          obtain ⟨r0, r1, q0, q1⟩ := blk2 (blk_next hb3 hr2)
          have hBf := bnext hB2 hb3
          have hfB := below_box hBf (w.heap.size + 1) (by omega) (.int .i64 0) (.slice none 0 0)
          have HP := Lib.hid hpv
          clear hpv
          go_wp2
          exact bodyPost_ret (v := .tuple #[.agg #[.int .i64 0, .slice none 0 0], .bool false]) (by simp [results, Try.results5, go_sem, r0, r1]) rfl ⟨.slice none 0 0, by rw [HOK.out, HP.out]; rfl, by rw [HOK.out, HP.out]; exact OI.nil _ _, hfB⟩
  · have hc : prv n zs = false := by simpa using hc
    have HOK := Lib.hid (show exOk n zs = false by simp [exOk, hc])
    go_enter Try.func5, Try.ntmps5
    go_wp2_with fail
    refine (l06Is_any n _ zs w.heap.size _ g (by simp [go_sem]) (by simp [go_sem])).mono ?_
    rw [hc]
    rintro e w1 ⟨rfl, hb1⟩
    obtain ⟨r0, r1, q0, q1⟩ := blk2 (blk_next hb1 (box_second w _ _ _ _))
    have hB : Below w.heap.size w w1 := bnext (hb _ _) hb1
    have hfB := below_box hB (w.heap.size + 1) (by omega) (.int .i64 0) (.slice none 0 0)
    go_wp2
    exact bodyPost_ret (v := .tuple #[.agg #[.int .i64 0, .slice none 0 0], .bool false]) (by simp [results, Try.results5, go_sem, r0, r1]) rfl ⟨.slice none 0 0, by rw [HOK.out]; rfl, by rw [HOK.out]; exact OI.nil _ _, hfB⟩
end Go.Proofs.Ytimcagcglgohjaa
