/- HalveCounts and PutCount of the reference: what they return. No conditions but that the slices read. -/
import Derived.Test.YtgkgfpljblnpnaaPut
import Derived.Deep.RegionLaw
import Derived.Deep.RegionHeld3
import Derived.Deep.DrawnRows
namespace Go.Proofs.Ytgkgfpljblnpnaa
open Go.RowKit
set_option maxRecDepth 100000
set_option linter.unusedVariables false
set_option linter.unusedSimpArgs false

theorem blk_set0 {W : World} {b : Nat} {x y u : Value} {t : TypeId} (h : W.heap[b]? = some (.cells #[x, y] t (0, 0))) : (W.setCell ⟨b, 0, none⟩ u).heap[b]? = some (.cells #[u, y] t (0, 0)) :=
  heap_setCell_same W b 0 #[x, y] t u h
theorem OwnI.at {B : Nat} {w : World} {v : Value} {zs : List Int} (h : OwnI B w v zs) (j : Nat) (hj : j < zs.length) : ∃ g cap, v = .slice (some ⟨g, 0, none⟩) zs.length cap ∧ B ≤ g ∧ g < w.heap.size ∧ (∃ cur, w.heap[g]? = some (.cells cur 2 (0, 0))) ∧ w.cell? ⟨g, j, none⟩ = some (.int .i64 zs[j]) ∧ w.frozen? ⟨g, j, none⟩ = false := by
  rcases h.2 with ⟨_, h0⟩ | ⟨g, cap, cur, rfl, hb, hg, hn, hm, hs, ht⟩
  · omega
  · refine ⟨g, cap, rfl, hb, blk_lt hg, ⟨cur, hg⟩, ?_, frozen_of_row _ _ _ _ _ hg⟩
    rw [cell_of_row _ _ _ _ _ _ hg]
    have e : (zs.map (Value.int .i64))[j]? = some (.int .i64 zs[j]) := by simp [hj]
    rw [← ht, List.getElem?_take_of_lt (by omega)] at e
    simpa using e
set_option maxHeartbeats 1000000 in
theorem l05Give_yes (n : Int) (v : Value) (zs : List Int) (w : World) (h : RI w v zs) (hc : cts n zs = true) :
    Calls Try.prog 76 #[.agg #[.int .i64 n, v]] w fun e w' => e = .returned (.tuple #[.agg #[.int .i64 n, v], .bool true]) ∧ Below w.heap.size w w' := by
  obtain ⟨ao, cap, rfl⟩ := h.shape
  have hb : ∀ o o', Below w.heap.size w ((w.alloc o).alloc o') := fun o o' => by go_grown
  have g := h.below (hb (.cells #[.int .i64 n, .slice ao zs.length cap] 34) (.cells #[.int .i64 0, .slice none 0 0] 34))
  go_enter Try.func76, Try.ntmps76
  go_wp2_with fail
  refine (l05Counts_any n _ zs w.heap.size _ g (by simp [go_sem]) (by simp [go_sem])).mono ?_
  rw [hc]
  rintro e w' ⟨rfl, m, rfl⟩
  have hB := bnext (hb (.cells #[.int .i64 n, .slice ao zs.length cap] 34) (.cells #[.int .i64 0, .slice none 0 0] 34)) (below_drewN _ m)
  have hfB := below_box hB (w.heap.size + 1) (by omega) (.int .i64 n) (.slice ao zs.length cap)
  go_wp2
  refine bodyPost_ret (v := .tuple #[.agg #[.int .i64 n, .slice ao zs.length cap], .bool true]) (by simp [results, Try.results76, go_sem]) rfl ⟨rfl, ?_⟩
  first | exact hfB | exact hB | go_grown
set_option maxHeartbeats 1000000 in
theorem l05Give_no (n : Int) (v : Value) (zs : List Int) (w : World) (h : RI w v zs) (hc : cts n zs = false) :
    Calls Try.prog 76 #[.agg #[.int .i64 n, v]] w fun e w' => e = .returned (.tuple #[.agg #[.int .i64 0, .slice none 0 0], .bool false]) ∧ Below w.heap.size w w' := by
  obtain ⟨ao, cap, rfl⟩ := h.shape
  have hb : ∀ o o', Below w.heap.size w ((w.alloc o).alloc o') := fun o o' => by go_grown
  have g := h.below (hb (.cells #[.int .i64 n, .slice ao zs.length cap] 34) (.cells #[.int .i64 0, .slice none 0 0] 34))
  go_enter Try.func76, Try.ntmps76
  go_wp2_with fail
  refine (l05Counts_any n _ zs w.heap.size _ g (by simp [go_sem]) (by simp [go_sem])).mono ?_
  rw [hc]
  rintro e w' ⟨rfl, m, rfl⟩
  have hB := bnext (hb (.cells #[.int .i64 n, .slice ao zs.length cap] 34) (.cells #[.int .i64 0, .slice none 0 0] 34)) (below_drewN _ m)
  have hfB := below_box hB (w.heap.size + 1) (by omega) (.int .i64 0) (.slice none 0 0)
  go_wp2
  refine bodyPost_ret (v := .tuple #[.agg #[.int .i64 0, .slice none 0 0], .bool false]) (by simp [results, Try.results76, go_sem]) rfl ⟨rfl, ?_⟩
  first | exact hfB | exact hB | go_grown
set_option maxHeartbeats 1000000 in
theorem specPut_any (n : Int) (v : Value) (zs : List Int) (l b : Int) (w : World) (h : RI w v zs) :
    Calls Try.prog 42 #[.agg #[.int .i64 n, v], .int .i64 l, .int .i64 b] w fun e w' => ∃ v', e = .returned (.tuple #[.agg #[.int .i64 (puN n zs l b), v'], .bool (puOk n zs l b)]) ∧ OI w.heap.size w' v' (puZ n zs l b) ∧ Below w.heap.size w w' := by
  obtain ⟨ao, cap, rfl⟩ := h.shape
  have hlen := h.len
  have hb : ∀ o o', Below w.heap.size w ((w.alloc o).alloc o') := fun o o' => by go_grown
  have g := h.below (hb (.cells #[.int .i64 n, .slice ao zs.length cap] 34) (.cells #[.int .i64 0, .slice none 0 0] 34))
  by_cases hc : cts n zs = true
  · obtain ⟨hn1, hn2, hln, hz, hs⟩ := cts_parts hc
    by_cases hl : inB l 0 (n - 1) = true
    · have hl' := inB_eq hl
      simp only [if_true] at hl'
      obtain ⟨hl0, hl1⟩ := hl'
      obtain ⟨j, rfl⟩ := Int.eq_ofNat_of_zero_le hl0
      by_cases hby : inB b 0 16384 = true
      · have hb' := inB_eq hby
        simp only [if_true] at hb'
        obtain ⟨hb0, hb1'⟩ := hb'
        have hj : j < zs.length := by omega
        have hl16 : zs.length ≤ 16 := by omega
        have Hc := Lib.hid hc
        have Hl := Lib.hid hl
        have Hby := Lib.hid hby
        have Hln := Lib.hid hln
        have Hz := Lib.hid hz
        clear hc hl hby hln hz hs
        obtain ⟨_, ao_, cap_, e_, _, _, h3⟩ := id h
        simp only [Value.slice.injEq, true_and] at e_
        obtain ⟨rfl, rfl⟩ := e_
        obtain ⟨b1, off1, rfl, _⟩ := h3 0 (by omega)
        have hcs : ∀ q (_ : q < zs.length), w.cell? ⟨b1, off1 + q, none⟩ = some (.int .i64 zs[q]) := fun q hq => by
          obtain ⟨b', off', e', hcq⟩ := h3 q hq
          simp only [Option.some.injEq, Addr.mk.injEq, and_true] at e'
          obtain ⟨rfl, rfl⟩ := e'
          exact hcq
        clear h3
        have Hcs := Lib.hid hcs
        clear hcs
        go_enter Try.func42, Try.ntmps42
        go_wp2_with fail
        refine (l05Counts_any n _ zs w.heap.size _ g (by simp [go_sem]) (by simp [go_sem])).mono ?_
        rw [Hc.out]
        rintro e w' ⟨rfl, m, rfl⟩
        go_wp2_with (go_at_call 55; refine (l00In_any _ _ _ _).mono ?_; (first | rw [Hl.out] | rw [Hby.out]); rintro e w' ⟨rfl, rfl⟩)
        have hB := bnext (hb (.cells #[.int .i64 n, .slice (some ⟨b1, off1, none⟩) zs.length cap] 34) (.cells #[.int .i64 0, .slice none 0 0] 34)) (below_drewN _ m)
        have hcx : ((((w.alloc (.cells #[.int .i64 n, .slice (some ⟨b1, off1, none⟩) zs.length cap] 34)).alloc (.cells #[.int .i64 0, .slice none 0 0] 34)).drewN m).heap[w.heap.size]? : Option Obj) = some (.cells #[.int .i64 n, .slice (some ⟨b1, off1, none⟩) zs.length cap] 34 (0, 0)) := blk_alloc (heap_alloc_new w _)
        have hr : ((((w.alloc (.cells #[.int .i64 n, .slice (some ⟨b1, off1, none⟩) zs.length cap] 34)).alloc (.cells #[.int .i64 0, .slice none 0 0] 34)).drewN m).heap[w.heap.size + 1]? : Option Obj) = some (.cells #[.int .i64 0, .slice none 0 0] 34 (0, 0)) := box_second w _ _ _ _
        generalize ((w.alloc (.cells #[.int .i64 n, .slice (some ⟨b1, off1, none⟩) zs.length cap] 34)).alloc (.cells #[.int .i64 0, .slice none 0 0] 34)).drewN m = W at *
        obtain ⟨x0, x1, y0, y1⟩ := blk2 hcx
        obtain ⟨r0, r1, q0, q1⟩ := blk2 hr
        have hsz := blk_lt hr
        have hlt0 : w.heap.size < W.heap.size := by omega
        have Hcx := Lib.hid hcx
        have Hr := Lib.hid hr
        clear hcx hr
        have hemp := own_empty W W.heap.size (Nat.le_refl _)
        have hemp3 : OwnI W.heap.size ((W.alloc (.cells #[.int .i64 0, .slice none 0 0] 34)).alloc (.cells #[] 2)) (.slice (some ⟨W.heap.size + 1, 0, none⟩) 0 0) [] := by have := own_empty (W.alloc (.cells #[.int .i64 0, .slice none 0 0] 34)) W.heap.size (by simp); rwa [World.size_alloc] at this
        go_region_held3 (fun W' => W'.cell? ⟨w.heap.size, 0, none⟩ = some (.int .i64 n) ∧ W'.cell? ⟨w.heap.size, 1, none⟩ = some (.slice (some ⟨b1, off1, none⟩) zs.length cap))
          (first | (go_split_ands; exact ⟨x0', x1'⟩) | (go_split_ands; refine ⟨?_, ?_⟩ <;> (rw [World.cell?_setCell_far _ _ _ _ (by simp; omega), World.cell?_setCell_far _ _ _ _ (by simp; omega)]; assumption)) | go_keep)
          ((first
          | (refine step_app rfl (.tmp 27) (.tmp 29) rfl W.heap.size w.heap.size hB.size (.slice (some ⟨W.heap.size + 1, 0, none⟩) 0 0) [] (by simp [Act.eval, Act.put]) (show OwnI _ (((W.alloc (.cells #[.int .i64 0, .slice none 0 0] 34)).alloc (.cells #[] 2)).drew) _ _ from hemp3) (show Below _ w (((W.alloc (.cells #[.int .i64 0, .slice none 0 0] 34)).alloc (.cells #[] 2)).drew) from ((hB.alloc hB.size _).alloc (hB.alloc hB.size _).size _).drew) zs ⟨b1, off1, none⟩ cap (by simp [Act.eval, Act.put]) (fun q hq => by rw [Addr.add_lit]; exact cnext (((hB.alloc hB.size _).alloc (hB.alloc hB.size _).size _).drew) (Hcs.out q hq)) (by simp; omega) (by show W.heap.size ≤ ((W.alloc (.cells #[.int .i64 0, .slice none 0 0] 34)).alloc (.cells #[] 2)).heap.size; simp only [World.size_alloc]; omega) ?_; intro v2 w2 hown2 hB2 hg2; have hsh := hown2.at j (by rw [List.nil_append]; exact hj); obtain ⟨g3, cap3, rfl, hg3a, hg3b, ⟨cur3, hg3c⟩, hcj, hfj⟩ := hsh; have ho1 := blk_grown hg2 (b := W.heap.size) (by simp [Value.ownBlock]) (show (((W.alloc (.cells #[.int .i64 0, .slice none 0 0] 34)).alloc (.cells #[] 2)).drew).heap[W.heap.size]? = _ from blk_alloc (heap_alloc_new W _)); have ho2 := blk2 ho1; obtain ⟨o0, o1, p0, p1⟩ := ho2; have hRx2 := blk_grown hg2 (b := w.heap.size + 1) (by simp [Value.ownBlock]; omega) (show (((W.alloc (.cells #[.int .i64 0, .slice none 0 0] 34)).alloc (.cells #[] 2)).drew).heap[w.heap.size + 1]? = _ from blk_alloc (blk_alloc Hr.out)); have hcx2 := blk_grown hg2 (b := w.heap.size) (by simp [Value.ownBlock]; omega) (show (((W.alloc (.cells #[.int .i64 0, .slice none 0 0] 34)).alloc (.cells #[] 2)).drew).heap[w.heap.size]? = _ from blk_alloc (blk_alloc Hcx.out)); have hlt2 := blk_lt hcx2; have hcx3 := blk2 hcx2; obtain ⟨x0', x1', y0', y1'⟩ := hcx3)
          | (refine step_app rfl (.tmp 27) (.tmp 29) rfl W.heap.size w.heap.size hB.size (.slice (some ⟨W.heap.size, 0, none⟩) 0 0) [] (by simp [Act.eval, Act.put]) (show OwnI _ (((W.alloc (.cells #[] 2)).alloc (.cells #[.int .i64 0, .slice none 0 0] 34)).drew) _ _ from (hemp.alloc _)) (show Below _ w (((W.alloc (.cells #[] 2)).alloc (.cells #[.int .i64 0, .slice none 0 0] 34)).drew) from ((hB.alloc hB.size _).alloc (hB.alloc hB.size _).size _).drew) zs ⟨b1, off1, none⟩ cap (by simp [Act.eval, Act.put]) (fun q hq => by rw [Addr.add_lit]; exact cnext (((hB.alloc hB.size _).alloc (hB.alloc hB.size _).size _).drew) (Hcs.out q hq)) (by simp; omega) (by show W.heap.size ≤ ((W.alloc (.cells #[] 2)).alloc (.cells #[.int .i64 0, .slice none 0 0] 34)).heap.size; simp only [World.size_alloc]; omega) ?_; intro v2 w2 hown2 hB2 hg2; have hsh := hown2.at j (by rw [List.nil_append]; exact hj); obtain ⟨g3, cap3, rfl, hg3a, hg3b, ⟨cur3, hg3c⟩, hcj, hfj⟩ := hsh; have ho1 := blk_grown hg2 (b := W.heap.size + 1) (by simp [Value.ownBlock]) (show (((W.alloc (.cells #[] 2)).alloc (.cells #[.int .i64 0, .slice none 0 0] 34)).drew).heap[W.heap.size + 1]? = _ from box_second W _ _ _ _); have ho2 := blk2 ho1; obtain ⟨o0, o1, p0, p1⟩ := ho2; have hRx2 := blk_grown hg2 (b := w.heap.size + 1) (by simp [Value.ownBlock]; omega) (show (((W.alloc (.cells #[] 2)).alloc (.cells #[.int .i64 0, .slice none 0 0] 34)).drew).heap[w.heap.size + 1]? = _ from blk_alloc (blk_alloc Hr.out)); have hcx2 := blk_grown hg2 (b := w.heap.size) (by simp [Value.ownBlock]; omega) (show (((W.alloc (.cells #[] 2)).alloc (.cells #[.int .i64 0, .slice none 0 0] 34)).drew).heap[w.heap.size]? = _ from blk_alloc (blk_alloc Hcx.out)); have hlt2 := blk_lt hcx2; have hcx3 := blk2 hcx2; obtain ⟨x0', x1', y0', y1'⟩ := hcx3)
          | (refine step_app rfl (.tmp 27) (.tmp 29) rfl W.heap.size w.heap.size hB.size (.slice (some ⟨W.heap.size, 0, none⟩) 0 0) [] (by simp [Act.eval, Act.put]) (show OwnI _ ((W.alloc (.cells #[] 2)).drew) _ _ from hemp) (show Below _ w ((W.alloc (.cells #[] 2)).drew) from (hB.alloc hB.size _).drew) zs ⟨b1, off1, none⟩ cap (by simp [Act.eval, Act.put]) (fun q hq => by rw [Addr.add_lit]; exact cnext ((hB.alloc hB.size _).drew) (Hcs.out q hq)) (by simp; omega) (by show W.heap.size ≤ (W.alloc (.cells #[] 2)).heap.size; simp only [World.size_alloc]; omega) ?_; intro v2 w2 hown2 hB2 hg2; have hsh := hown2.at j (by rw [List.nil_append]; exact hj); obtain ⟨g3, cap3, rfl, hg3a, hg3b, ⟨cur3, hg3c⟩, hcj, hfj⟩ := hsh); have hRx2 := blk_grown hg2 (b := w.heap.size + 1) (by simp [Value.ownBlock]; omega) (show ((W.alloc (.cells #[] 2)).drew).heap[w.heap.size + 1]? = _ from blk_alloc Hr.out); have hcx2 := blk_grown hg2 (b := w.heap.size) (by simp [Value.ownBlock]; omega) (show ((W.alloc (.cells #[] 2)).drew).heap[w.heap.size]? = _ from blk_alloc Hcx.out); have hlt2 := blk_lt hcx2; have hcx3 := blk2 hcx2; obtain ⟨x0', x1', y0', y1'⟩ := hcx3))
        all_goals simp only [List.nil_append] at hown2 hcj hfj hg3a hg3b hg3c
        all_goals (first
          | (have ho1' : w2.heap[W.heap.size + 1]? = some (.cells #[.int .i64 0, .slice none 0 0] 34 (0, 0)) := ho1
             have hne : g3 ≠ W.heap.size + 1 := by
               intro e; rw [e, ho1'] at hg3c; simp at hg3c
             have hZ : (((w2.setCell ⟨W.heap.size + 1, 0, none⟩ (.int .i64 n)).setCell ⟨W.heap.size + 1, 1, none⟩ (.slice (some ⟨g3, 0, none⟩) zs.length cap3)).heap[W.heap.size + 1]? : Option Obj) = some (.cells #[.int .i64 n, (.slice (some ⟨g3, 0, none⟩) zs.length cap3)] 34 (0, 0)) := blk_set1 (blk_set0 ho1')
             have hZo : OwnI W.heap.size ((w2.setCell ⟨W.heap.size + 1, 0, none⟩ (.int .i64 n)).setCell ⟨W.heap.size + 1, 1, none⟩ (.slice (some ⟨g3, 0, none⟩) zs.length cap3)) (.slice (some ⟨g3, 0, none⟩) zs.length cap3) zs := (hown2.kept (grown_setCell w2 ⟨W.heap.size + 1, 0, none⟩ _) (.inr (by simp [Value.ownBlock]; omega))).kept (grown_setCell _ ⟨W.heap.size + 1, 1, none⟩ _) (.inr (by simp [Value.ownBlock]; omega))
             have hZB : Below w.heap.size w ((w2.setCell ⟨W.heap.size + 1, 0, none⟩ (.int .i64 n)).setCell ⟨W.heap.size + 1, 1, none⟩ (.slice (some ⟨g3, 0, none⟩) zs.length cap3)) := below_box hB2 (W.heap.size + 1) (by omega) _ _
             have hbx : w.heap.size + 1 < W.heap.size + 1 := by omega
             have hZR : (((w2.setCell ⟨W.heap.size + 1, 0, none⟩ (.int .i64 n)).setCell ⟨W.heap.size + 1, 1, none⟩ (.slice (some ⟨g3, 0, none⟩) zs.length cap3)).heap[w.heap.size + 1]? : Option Obj) = some (.cells #[.int .i64 0, .slice none 0 0] 34 (0, 0)) := blk_other (by simp; omega) (blk_other (by simp; omega) hRx2)
             clear ho1' ho1
             generalize ((w2.setCell ⟨W.heap.size + 1, 0, none⟩ (.int .i64 n)).setCell ⟨W.heap.size + 1, 1, none⟩ (.slice (some ⟨g3, 0, none⟩) zs.length cap3)) = Z at hZ hZo hZB hZR ⊢
             generalize hBx : W.heap.size + 1 = Bx at hZ hne hbx ⊢)
          | (have ho1' : w2.heap[W.heap.size]? = some (.cells #[.int .i64 0, .slice none 0 0] 34 (0, 0)) := ho1
             have hne : g3 ≠ W.heap.size := by
               intro e; rw [e, ho1'] at hg3c; simp at hg3c
             have hZ : (((w2.setCell ⟨W.heap.size, 0, none⟩ (.int .i64 n)).setCell ⟨W.heap.size, 1, none⟩ (.slice (some ⟨g3, 0, none⟩) zs.length cap3)).heap[W.heap.size]? : Option Obj) = some (.cells #[.int .i64 n, (.slice (some ⟨g3, 0, none⟩) zs.length cap3)] 34 (0, 0)) := blk_set1 (blk_set0 ho1')
             have hZo : OwnI W.heap.size ((w2.setCell ⟨W.heap.size, 0, none⟩ (.int .i64 n)).setCell ⟨W.heap.size, 1, none⟩ (.slice (some ⟨g3, 0, none⟩) zs.length cap3)) (.slice (some ⟨g3, 0, none⟩) zs.length cap3) zs := (hown2.kept (grown_setCell w2 ⟨W.heap.size, 0, none⟩ _) (.inr (by simp [Value.ownBlock]; omega))).kept (grown_setCell _ ⟨W.heap.size, 1, none⟩ _) (.inr (by simp [Value.ownBlock]; omega))
             have hZB : Below w.heap.size w ((w2.setCell ⟨W.heap.size, 0, none⟩ (.int .i64 n)).setCell ⟨W.heap.size, 1, none⟩ (.slice (some ⟨g3, 0, none⟩) zs.length cap3)) := below_box hB2 (W.heap.size) (by omega) _ _
             have hbx : w.heap.size + 1 < W.heap.size := by omega
             have hZR : (((w2.setCell ⟨W.heap.size, 0, none⟩ (.int .i64 n)).setCell ⟨W.heap.size, 1, none⟩ (.slice (some ⟨g3, 0, none⟩) zs.length cap3)).heap[w.heap.size + 1]? : Option Obj) = some (.cells #[.int .i64 0, .slice none 0 0] 34 (0, 0)) := blk_other (by simp; omega) (blk_other (by simp; omega) hRx2)
             clear ho1' ho1
             generalize ((w2.setCell ⟨W.heap.size, 0, none⟩ (.int .i64 n)).setCell ⟨W.heap.size, 1, none⟩ (.slice (some ⟨g3, 0, none⟩) zs.length cap3)) = Z at hZ hZo hZB hZR ⊢
             generalize hBx : W.heap.size = Bx at hZ hne hbx ⊢)
          | (have hne : g3 ≠ w2.heap.size := by omega
             have hZ : ((w2.alloc (.cells #[.int .i64 n, (.slice (some ⟨g3, 0, none⟩) zs.length cap3)] 34)).heap[w2.heap.size]? : Option Obj) = some (.cells #[.int .i64 n, (.slice (some ⟨g3, 0, none⟩) zs.length cap3)] 34 (0, 0)) := heap_alloc_new w2 _
             have hZo : OwnI W.heap.size (w2.alloc (.cells #[.int .i64 n, (.slice (some ⟨g3, 0, none⟩) zs.length cap3)] 34)) (.slice (some ⟨g3, 0, none⟩) zs.length cap3) zs := hown2.alloc _
             have hZB : Below w.heap.size w (w2.alloc (.cells #[.int .i64 n, (.slice (some ⟨g3, 0, none⟩) zs.length cap3)] 34)) := hB2.alloc hB2.size _
             have hbx : w.heap.size + 1 < w2.heap.size := by omega
             have hZR : ((w2.alloc (.cells #[.int .i64 n, (.slice (some ⟨g3, 0, none⟩) zs.length cap3)] 34)).heap[w.heap.size + 1]? : Option Obj) = some (.cells #[.int .i64 0, .slice none 0 0] 34 (0, 0)) := blk_alloc hRx2
             generalize (w2.alloc (.cells #[.int .i64 n, (.slice (some ⟨g3, 0, none⟩) zs.length cap3)] 34)) = Z at hZ hZo hZB hZR ⊢
             generalize hBx : w2.heap.size = Bx at hZ hne hbx ⊢))
        all_goals clear hRx2
        all_goals clear hown2 hcj hfj hg3b hg3c hB2 hg2 hcx2 hlt2 x0' x1' y0' y1' hemp hemp3 g h x0 x1 y0 y1 r0 r1 q0 q1
        all_goals (
          obtain ⟨z0, z1, u0, u1⟩ := blk2 hZ
          have hzt := hZo.at j hj
          obtain ⟨g4, cap4, e4, _, hg3b, _, hcj, hfj⟩ := hzt
          simp only [Value.slice.injEq, Option.some.injEq, Addr.mk.injEq, and_true, true_and] at e4
          obtain ⟨rfl, rfl⟩ := e4
          have hi := hZo.oi (fun z hz => by have := Hz.out z hz; constructor <;> omega)
          have hst := hi.2.stored j hj g3 0 cap3 _ rfl (zs[j] + b)
          rw [Nat.zero_add] at hst
          have hbl := bump_len zs j b
          have hbump : zs.set j (zs[j] + b) = bump zs j b := by simp [bump, hj]
          have hzj := Hz.out zs[j] (List.getElem_mem hj)
          have hbi : AllI64 (bump zs j b) := by
            intro z hz'; rw [← hbump] at hz'
            rcases List.mem_or_eq_of_mem_set hz' with hz' | rfl
            · have := Hz.out z hz'; constructor <;> omega
            · constructor <;> omega
          have hob : OI W.heap.size (Z.setCell ⟨g3, j, none⟩ (.int .i64 (zs[j] + b))) (.slice (some ⟨g3, 0, none⟩) (bump zs j b).length cap3) (bump zs j b) := by
            rw [hbl]; refine ⟨hbi, ?_⟩; rw [← hbump]; exact hst.1
          rw [hbl] at hob
          have hB4 : Below w.heap.size w (Z.setCell ⟨g3, j, none⟩ (.int .i64 (zs[j] + b))) := hZB.setCell (p := ⟨g3, j, none⟩) (by simp; omega) _
          have hjl : (j : Int) < (zs.length : Int) := by omega
          have hRZ := Lib.hid (show ((Z.setCell ⟨g3, j, none⟩ (.int .i64 (zs[j] + b))).heap[w.heap.size + 1]? : Option Obj) = some (.cells #[.int .i64 0, .slice none 0 0] 34 (0, 0)) from blk_other (by simp; omega) hZR)
          clear hZR
          have Hob := Lib.hid hob
          have HB4 := Lib.hid hB4
          have Hbl := Lib.hid hbl
          clear hob hB4 hbl hst hbi hbump hi hZo hZB hZ
          generalize hx : zs[j] = x at *
          have Hx := Lib.hid hx
          clear hx
          go_wp2_with fail)
        all_goals (
          have e1 : (Value.slice (some ⟨g3, 0, none⟩) zs.length cap3) = .slice (some ⟨g3, 0, none⟩) (bump zs j b).length cap3 := by rw [Hbl.out]
          have hri := Hob.out.ri
          by_cases hcb : cts n (bump zs j b) = true
          · have Hpo := Lib.hid (show puOk n zs j b = true by simp [puOk, Hc.out, Hl.out, Hby.out, hcb])
            have HN := Lib.hid (show puN n zs j b = n by simp [puN, Hpo.out])
            have HZ := Lib.hid (show puZ n zs j b = bump zs j b by simp [puZ, Hpo.out])
            refine (l05Give_yes n _ (bump zs j b) _ hri hcb).mono ?_
            rintro e w3 ⟨rfl, hb3⟩
            have hfin : OI w.heap.size w3 (.slice (some ⟨g3, 0, none⟩) zs.length cap3) (bump zs j b) := OI.mono (by omega) (Hob.out.below hb3)
            have hBf : Below w.heap.size w w3 := bnext HB4.out hb3
            obtain ⟨r0, r1, q0, q1⟩ := blk2 (blk_next hb3 hRZ.out)
            have Hf := Lib.hid (OI.box (OI.below hb3 Hob.out) (w.heap.size + 1) (by omega) (.int .i64 n) (.slice (some ⟨g3, 0, none⟩) zs.length cap3))
            have hfB := below_box hBf (w.heap.size + 1) (by omega) (.int .i64 n) (.slice (some ⟨g3, 0, none⟩) zs.length cap3)
            clear hfin hri hb3 hcb e1
            go_wp2
            exact bodyPost_ret (v := .tuple #[.agg #[.int .i64 n, .slice (some ⟨g3, 0, none⟩) zs.length cap3], .bool true]) (by simp [results, Try.results42, go_sem, r0, r1]) rfl ⟨.slice (some ⟨g3, 0, none⟩) zs.length cap3, by rw [HN.out, Hpo.out], by rw [HZ.out]; exact OI.mono (by omega) Hf.out, hfB⟩
          · have hcb : cts n (bump zs j b) = false := by simpa using hcb
            have Hpo := Lib.hid (show puOk n zs j b = false by simp [puOk, hcb])
            have HN := Lib.hid (show puN n zs j b = 0 by simp [puN, Hpo.out])
            have HZ := Lib.hid (show puZ n zs j b = [] by simp [puZ, Hpo.out])
            refine (l05Give_no n _ (bump zs j b) _ hri hcb).mono ?_
            rintro e w3 ⟨rfl, hb3⟩
            have hBf : Below w.heap.size w w3 := bnext HB4.out hb3
            obtain ⟨r0, r1, q0, q1⟩ := blk2 (blk_next hb3 hRZ.out)
            have hfB := below_box hBf (w.heap.size + 1) (by omega) (.int .i64 0) (.slice none 0 0)
            clear hri hb3 hcb e1
            go_wp2
            exact bodyPost_ret (v := .tuple #[.agg #[.int .i64 0, .slice none 0 0], .bool false]) (by simp [results, Try.results42, go_sem, r0, r1]) rfl ⟨.slice none 0 0, by rw [HN.out, Hpo.out], by rw [HZ.out]; exact OI.nil _ _, hfB⟩)
      · have hby : inB b 0 16384 = false := by simpa using hby
        have Hpo := Lib.hid (show puOk n zs j b = false by simp [puOk, hby])
        have HN := Lib.hid (show puN n zs j b = 0 by simp [puN, Hpo.out])
        have HZ := Lib.hid (show puZ n zs j b = [] by simp [puZ, Hpo.out])
        have Hc := Lib.hid hc
        have Hl := Lib.hid hl
        have Hby := Lib.hid hby
        clear hc hl hby hz hln
        go_enter Try.func42, Try.ntmps42
        go_wp2_with fail
        refine (l05Counts_any n _ zs w.heap.size _ g (by simp [go_sem]) (by simp [go_sem])).mono ?_
        rw [Hc.out]
        rintro e w1 ⟨rfl, m, rfl⟩
        have hb1 := below_drewN ((w.alloc (.cells #[.int .i64 n, .slice ao zs.length cap] 34)).alloc (.cells #[.int .i64 0, .slice none 0 0] 34)) m
        generalize (((w.alloc (.cells #[.int .i64 n, .slice ao zs.length cap] 34)).alloc (.cells #[.int .i64 0, .slice none 0 0] 34)).drewN m) = w1 at *
        obtain ⟨r0, r1, q0, q1⟩ := blk2 (blk_next hb1 (box_second w _ _ _ _))
        have k0 : w1.cell? ⟨w.heap.size, 0, none⟩ = some (.int .i64 n) := cnext hb1 (by simp [go_sem])
        have hB : Below w.heap.size w w1 := bnext (hb _ _) hb1
        have hfB := below_box hB (w.heap.size + 1) (by omega) (.int .i64 0) (.slice none 0 0)
        clear hb1 g h
        go_wp2_with (go_at_call 55; refine (l00In_any _ _ _ _).mono ?_; (first | rw [Hl.out] | rw [Hby.out]); rintro e w' ⟨rfl, rfl⟩)
        refine bodyPost_ret (v := .tuple #[.agg #[.int .i64 0, .slice none 0 0], .bool false]) (by simp [results, Try.results42, go_sem, r0, r1]) rfl ⟨_, by rw [Hpo.out, HN.out], by rw [HZ.out]; exact OI.nil _ _, hfB⟩
    · have hl : inB l 0 (n - 1) = false := by simpa using hl
      have Hpo := Lib.hid (show puOk n zs l b = false by simp [puOk, hl])
      have HN := Lib.hid (show puN n zs l b = 0 by simp [puN, Hpo.out])
      have HZ := Lib.hid (show puZ n zs l b = [] by simp [puZ, Hpo.out])
      have Hc := Lib.hid hc
      have Hl := Lib.hid hl
      clear hc hl hz hln
      go_enter Try.func42, Try.ntmps42
      go_wp2_with fail
      refine (l05Counts_any n _ zs w.heap.size _ g (by simp [go_sem]) (by simp [go_sem])).mono ?_
      rw [Hc.out]
      rintro e w1 ⟨rfl, m, rfl⟩
      have hb1 := below_drewN ((w.alloc (.cells #[.int .i64 n, .slice ao zs.length cap] 34)).alloc (.cells #[.int .i64 0, .slice none 0 0] 34)) m
      generalize (((w.alloc (.cells #[.int .i64 n, .slice ao zs.length cap] 34)).alloc (.cells #[.int .i64 0, .slice none 0 0] 34)).drewN m) = w1 at *
      obtain ⟨r0, r1, q0, q1⟩ := blk2 (blk_next hb1 (box_second w _ _ _ _))
      have k0 : w1.cell? ⟨w.heap.size, 0, none⟩ = some (.int .i64 n) := cnext hb1 (by simp [go_sem])
      have hB : Below w.heap.size w w1 := bnext (hb _ _) hb1
      have hfB := below_box hB (w.heap.size + 1) (by omega) (.int .i64 0) (.slice none 0 0)
      clear hb1 g h
      go_wp2_with (go_at_call 55; refine (l00In_any _ _ _ _).mono ?_; rw [Hl.out]; rintro e w' ⟨rfl, rfl⟩)
      refine bodyPost_ret (v := .tuple #[.agg #[.int .i64 0, .slice none 0 0], .bool false]) (by simp [results, Try.results42, go_sem, r0, r1]) rfl ⟨_, by rw [Hpo.out, HN.out], by rw [HZ.out]; exact OI.nil _ _, hfB⟩
  · have hc : cts n zs = false := by simpa using hc
    have Hpo := Lib.hid (show puOk n zs l b = false by simp [puOk, hc])
    have HN := Lib.hid (show puN n zs l b = 0 by simp [puN, Hpo.out])
    have HZ := Lib.hid (show puZ n zs l b = [] by simp [puZ, Hpo.out])
    have Hc := Lib.hid hc
    clear hc
    go_enter Try.func42, Try.ntmps42
    go_wp2_with fail
    refine (l05Counts_any n _ zs w.heap.size _ g (by simp [go_sem]) (by simp [go_sem])).mono ?_
    rw [Hc.out]
    rintro e w1 ⟨rfl, m, rfl⟩
    have hb1 := below_drewN ((w.alloc (.cells #[.int .i64 n, .slice ao zs.length cap] 34)).alloc (.cells #[.int .i64 0, .slice none 0 0] 34)) m
    generalize (((w.alloc (.cells #[.int .i64 n, .slice ao zs.length cap] 34)).alloc (.cells #[.int .i64 0, .slice none 0 0] 34)).drewN m) = w1 at *
    obtain ⟨r0, r1, q0, q1⟩ := blk2 (blk_next hb1 (box_second w _ _ _ _))
    have hB : Below w.heap.size w w1 := bnext (hb _ _) hb1
    have hfB := below_box hB (w.heap.size + 1) (by omega) (.int .i64 0) (.slice none 0 0)
    clear hb1 g h
    go_wp2
    refine bodyPost_ret (v := .tuple #[.agg #[.int .i64 0, .slice none 0 0], .bool false]) (by simp [results, Try.results42, go_sem, r0, r1]) rfl ⟨_, by rw [Hpo.out, HN.out], by rw [HZ.out]; exact OI.nil _ _, hfB⟩
end Go.Proofs.Ytgkgfpljblnpnaa
