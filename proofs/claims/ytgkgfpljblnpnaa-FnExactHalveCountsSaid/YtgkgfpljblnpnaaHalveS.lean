/- HalveCounts and PutCount of the reference: what they return. No conditions but that the slices read. -/
import Derived.Test.YtgkgfpljblnpnaaPut
import Derived.Deep.RegionLaw
namespace Go.Proofs.Ytgkgfpljblnpnaa
open Go.RowKit
set_option maxRecDepth 100000
set_option linter.unusedVariables false
set_option linter.unusedSimpArgs false

set_option maxHeartbeats 1000000 in
theorem specHalve_any (n : Int) (v : Value) (zs : List Int) (w : World) (h : RI w v zs) :
    Calls Try.prog 33 #[.agg #[.int .i64 n, v]] w fun e w' => ∃ v', e = .returned (.tuple #[.agg #[.int .i64 (haN n zs), v'], .bool (cts n zs)]) ∧ OI w.heap.size w' v' (haZ n zs) ∧ Below w.heap.size w w' := by
  obtain ⟨ao, cap, rfl⟩ := h.shape
  have hlen := h.len
  have hb : ∀ o o', Below w.heap.size w ((w.alloc o).alloc o') := fun o o' => by go_grown
  have g := h.below (hb (.cells #[.int .i64 n, .slice ao zs.length cap] 34) (.cells #[.int .i64 0, .slice none 0 0] 34))
  by_cases hc : cts n zs = true
  · have hN := Lib.hid (show haN n zs = n by simp [haN, hc])
    have hZ := Lib.hid (show haZ n zs = halve zs by simp [haZ, hc])
    obtain ⟨hn1, hn2, hln, hz, hs⟩ := cts_parts hc
    have hl16 : zs.length ≤ 16 := by omega
    rw [hN.out, hZ.out]
    have Hc := Lib.hid hc
    have Hln := Lib.hid hln
    clear hN hZ hc hln
    go_enter Try.func33, Try.ntmps33
    go_wp2_with fail
    refine (l05Counts_any n _ zs w.heap.size _ g (by simp [go_sem]) (by simp [go_sem])).mono ?_
    rw [Hc.out]
    rintro e w' ⟨rfl, m, rfl⟩
    have g1 : RI ((w.alloc (.cells #[.int .i64 n, .slice ao zs.length cap] 34)).alloc (.cells #[.int .i64 0, .slice none 0 0] 34)) (.slice ao zs.length cap) zs := g
    obtain ⟨_, ao_, cap_, e_, _, _, h3⟩ := id h
    simp only [Value.slice.injEq, true_and] at e_
    obtain ⟨rfl, rfl⟩ := e_
    clear g g1
    go_wp2
    go_loopw [15] (fun i wr => ∃ (k : Nat) (lv : Value), k ≤ zs.length ∧ i = .int .i64 k ∧ wr.heap[w.heap.size]? = some (.cells #[.int .i64 n, .slice ao zs.length cap] 34 (0, 0)) ∧ wr.heap[w.heap.size + 1]? = some (.cells #[.int .i64 0, .slice none 0 0] 34 (0, 0)) ∧
        wr.heap[w.heap.size + 1 + 1]? = some (.cells #[.int .i64 n, lv] 34 (0, 0)) ∧ OwnI (w.heap.size + 1 + 1 + 1) wr lv (halve (zs.take k)) ∧ Below w.heap.size w wr) (fun i _ => zs.length - (intOf i).toNat)
    case atStart =>
      refine ⟨0, .slice none 0 0, Nat.zero_le _, rfl, ?_, ?_, ?_, own_nil _ _, (bnext (hb _ _) (below_drewN _ m)).alloc (bnext (hb _ _) (below_drewN _ m)).size _⟩
      · exact blk_alloc (blk_alloc (heap_alloc_new w _))
      · exact blk_alloc (box_second w _ _ _ _)
      · have hh := heap_alloc_new (((w.alloc (.cells #[.int .i64 n, .slice ao zs.length cap] 34)).alloc (.cells #[.int .i64 0, .slice none 0 0] 34)).drewN m) (.cells #[.int .i64 n, .slice none 0 0] 34)
        have e : (((w.alloc (.cells #[.int .i64 n, .slice ao zs.length cap] 34)).alloc (.cells #[.int .i64 0, .slice none 0 0] 34)).drewN m).heap.size = w.heap.size + 1 + 1 := by
          show ((w.alloc _).alloc _).heap.size = _
          rw [World.size_alloc, World.size_alloc]
        rw [e] at hh; exact hh
    case round =>
      obtain ⟨k, lv, hk, rfl, hcx, hr, ho, hown, hB⟩ := hrel
      obtain ⟨ao2, cap2, rfl⟩ := hown.shape
      obtain ⟨x0, x1, y0, y1⟩ := blk2 hcx
      obtain ⟨r0, r1, q0, q1⟩ := blk2 hr
      obtain ⟨o0, o1, p0, p1⟩ := blk2 ho
      have hlt := blk_lt ho
      by_cases hkl : k < zs.length
      · obtain ⟨b, off, rfl, hcell⟩ := h3 k hkl
        have hcell' : wr.cell? ⟨b, off + k, none⟩ = some (.int .i64 zs[k]) := (hB.cell (p := ⟨b, off + k, none⟩) (World.block_lt_of_cell? w _ hcell)).trans hcell
        have Ht := Lib.hid (halve_take hkl)
        have hzk := hz zs[k] (List.getElem_mem hkl)
        have hlk : (halve (zs.take k)).length ≤ 16 := by simp [halve]; omega
        clear hcell h3 hz h
        generalize zs[k] = z at hcell' Ht hzk
        obtain ⟨hz0, hz1⟩ := hzk
        have w1 : IntKind.i64.wrap (z + 1) = z + 1 := IntWalk.i64_in _ (by omega)
        have w2 : (z + 1).tdiv 2 = (z + 1) / 2 := Int.tdiv_eq_ediv_of_nonneg (by omega)
        have w3 : IntKind.i64.wrap ((z + 1) / 2) = (z + 1) / 2 := IntWalk.i64_in _ (by omega)
        have hk0 : (0 : Int) ≤ (k : Int) := by omega
        have hkl' : (k : Int) < (zs.length : Int) := by omega
        have Hcx := Lib.hid hcx
        have Hr := Lib.hid hr
        have Ho := Lib.hid ho
        have Hlk := Lib.hid hlk
        clear hcx hr ho hlk
        go_wp2_with fail
        go_region_law ((refine step_app rfl (.tmp 19) (.tmp 27) rfl (w.heap.size + 1 + 1 + 1) w.heap.size (by omega) (.slice ao2 (halve (zs.take k)).length cap2) (halve (zs.take k)) (by simp [Act.eval, Act.put]) (show OwnI _ ((wr.alloc (.cells #[.int .i64 ((z + 1) / 2)] 2)).drew) _ _ from hown.alloc _) (show Below _ w ((wr.alloc (.cells #[.int .i64 ((z + 1) / 2)] 2)).drew) from (hB.alloc (by omega) _).drew) [(z + 1) / 2] ⟨wr.heap.size, 0, none⟩ 1 (by simp [Act.eval, Act.put]) (by intro j hj; simp at hj; subst hj; simp [Addr.add, go_sem]) (by have := Hlk.out; simp; omega) (by simp; omega) ?_; intro v1 w1 hown1 hB1 hg1; have hsh := hown1.shape; obtain ⟨ao3, cap3, rfl⟩ := hsh; have ho1 := blk2 (blk_grown hg1 (fun e => by have := (hown.lt _ e.symm).1; omega) (show ((wr.alloc (.cells #[.int .i64 ((z + 1) / 2)] 2)).drew).heap[_]? = _ from blk_alloc Ho.out)); obtain ⟨o0', o1', p0', p1'⟩ := ho1))
        all_goals
          have hlv : (halve (zs.take k) ++ [(z + 1) / 2]).length = (halve (zs.take k)).length + 1 := by simp
          rw [hlv, Ht.out] at hown1
          have hne : ∀ q, q < w.heap.size + 1 + 1 + 1 → some q ≠ (Value.slice ao2 (halve (zs.take k)).length cap2).ownBlock := fun q hq e => by have := (hown.lt _ e.symm).1; omega
          have hcx1 := blk_grown hg1 (hne w.heap.size (by omega)) (show ((wr.alloc (.cells #[.int .i64 ((z + 1) / 2)] 2)).drew).heap[_]? = _ from blk_alloc Hcx.out)
          have hr1 := blk_grown hg1 (hne (w.heap.size + 1) (by omega)) (show ((wr.alloc (.cells #[.int .i64 ((z + 1) / 2)] 2)).drew).heap[_]? = _ from blk_alloc Hr.out)
          have ho1 := blk_grown hg1 (hne (w.heap.size + 1 + 1) (by omega)) (show ((wr.alloc (.cells #[.int .i64 ((z + 1) / 2)] 2)).drew).heap[_]? = _ from blk_alloc Ho.out)
          have hown2 := hown1.set ⟨w.heap.size + 1 + 1, 1, none⟩ (.slice ao3 ((halve (zs.take k)).length + 1) cap3) (Nat.lt_succ_self _)
          have hB2 := hB1.setCell (p := ⟨w.heap.size + 1 + 1, 1, none⟩) (Nat.le_trans (Nat.le_succ _) (Nat.le_succ _)) (.slice ao3 ((halve (zs.take k)).length + 1) cap3)
          have hcx2 := blk_other (p := ⟨w.heap.size + 1 + 1, 1, none⟩) (u := .slice ao3 ((halve (zs.take k)).length + 1) cap3) (by simp; omega) hcx1
          have hr2 := blk_other (p := ⟨w.heap.size + 1 + 1, 1, none⟩) (u := .slice ao3 ((halve (zs.take k)).length + 1) cap3) (by simp) hr1
          have ho2 := blk_set1 (u := .slice ao3 ((halve (zs.take k)).length + 1) cap3) ho1
          clear hcx1 hr1 ho1 hne hlv hown1 hB1 hg1 hown hB
          go_wp2
          go_roundw
          case rel => exact ⟨k + 1, _, by omega, by go_num, hcx2, hr2, ho2, hown2, hB2⟩
          case measure => simp [intOf]; omega
      · have hok := hown.oi (by rw [List.take_of_length_le (by omega)]; exact halve_i64 hz)
        rw [List.take_of_length_le (by omega)] at hok
        have hhl : (halve zs).length = zs.length := by simp [halve]
        have hfin := OI.box hok (w.heap.size + 1) (by omega) (.int .i64 n) (.slice ao2 (halve zs).length cap2)
        have hfB := below_box hB (w.heap.size + 1) (by omega) (.int .i64 n) (.slice ao2 (halve zs).length cap2)
        have Hf := Lib.hid hfin
        rw [List.take_of_length_le (by omega)] at o1
        clear hok hfin h3 hown hhl hB ho
        go_wp2
        refine bodyPost_ret (v := .tuple #[.agg #[.int .i64 n, .slice ao2 (halve zs).length cap2], .bool true]) (by simp [results, Try.results33, go_sem, r0, r1]) rfl ⟨_, by rw [Hc.out], OI.mono (by omega) Hf.out, hfB⟩
  · have hc : cts n zs = false := by simpa using hc
    have hN := Lib.hid (show haN n zs = 0 by simp [haN, hc])
    have hZ := Lib.hid (show haZ n zs = [] by simp [haZ, hc])
    rw [hN.out, hZ.out, hc]
    clear hN hZ
    go_enter Try.func33, Try.ntmps33
    go_wp2_with fail
    refine (l05Counts_any n _ zs w.heap.size _ g (by simp [go_sem]) (by simp [go_sem])).mono ?_
    rw [hc]
    rintro e w' ⟨rfl, m, rfl⟩
    have hB := bnext (hb (.cells #[.int .i64 n, .slice ao zs.length cap] 34) (.cells #[.int .i64 0, .slice none 0 0] 34)) (below_drewN _ m)
    have hfB := below_box hB (w.heap.size + 1) (by omega) (.int .i64 0) (.slice none 0 0)
    go_wp2
    refine bodyPost_ret (v := .tuple #[.agg #[.int .i64 0, .slice none 0 0], .bool false]) (by simp [results, Try.results33, go_sem]) rfl ⟨_, rfl, OI.nil _ _, ?_⟩
    first | exact hfB | exact hB | go_grown
end Go.Proofs.Ytgkgfpljblnpnaa
