/- StateBits: the program. No conditions but that the slices read. -/
import Derived.Test.YtnhcoggjnbldiaaSbS
import Derived.Test.YtnhcoggjnbldiaaBack
import Derived.Test.YtnhcoggjnbldiaaPop
import Derived.Test.YtnhcoggjnbldiaaPopI
import Derived.Deep.DrawnRows
import Derived.Sort.QuietIn
import Derived.Maps.AppendAt
import Derived.Sort.LoopGhostIn
namespace Go.Proofs.Ytnhcoggjnbldiaa
open Go.RowKit Go.Shelf
set_option maxRecDepth 100000
set_option linter.unusedVariables false
set_option linter.unusedSimpArgs false
attribute [local go_sem] Oper.semAt_some
attribute [local go_sem ↓] Go.wp_at_zero Go.wp_at_succ

theorem keepsOf_below {W W' : World} (hb : Below W.heap.size W W') : KeepsOthers W W' :=
  ⟨hb.size, fun k o hk _ => (hb.block k (blk_lt hk)).trans hk⟩
set_option maxHeartbeats 4000000 in
theorem implSb_in (p : Int) (v : Value) (zs : List Int) (vt : Value) (ts : List Int) (w : World) (h : RI w v zs) (ht : RI w vt ts) (hs : shs p zs = true) (hx : txt ts (zs.length : Int) = true) :
    CallsIn Fence.wide 3 Try.prog 13 #[.agg #[.int .i64 p, v], vt] w fun e w' => ∃ v', e = .returned (.tuple #[v', .int .i64 (sbS p zs ts), .bool (sbOk p zs ts)]) ∧ Og Value.bool w.heap.size w' v' (sbZ p zs ts) ∧ Below w.heap.size w w' := by
  have h1 : 1 ≤ 3 := by omega
  have hlen := h.len
  have hlt := ht.len
  obtain ⟨ao, cap, rfl⟩ := h.shape
  obtain ⟨aot, capt, rfl⟩ := ht.shape
  have hb : ∀ o, Below w.heap.size w (w.alloc o) := fun o => by go_grown
  have g := h.below (hb (.cells #[.int .i64 p, .slice ao zs.length cap] 30))
  have gt := ht.below (hb (.cells #[.int .i64 p, .slice ao zs.length cap] 30))
  obtain ⟨m, rfl, hm1, hm8, hl2, hl16, hz, hsum⟩ := shs_parts hs
  have hok : sbOk (m : Int) zs ts = true := by rw [sbOk, hs, hx]; rfl
  have hN256 : 2 ^ m ≤ 256 := Nat.le_trans (Nat.pow_le_pow_right (by decide) hm8) (by decide)
  have hN1 : 0 < 2 ^ m := Nat.two_pow_pos m
  have hLi : (2 : Int) ^ m = ((2 ^ m : Nat) : Int) := by simp
  have Hspr := Lib.hid (spr_len m zs)
  have Hz := Lib.hid (show ∀ z ∈ zs, 1 ≤ z ∧ z ≤ (2 ^ m : Nat) by
    intro z hzm
    have h1 := (sum_ge (zs := zs) fun z hz' => by have := hz z hz'; omega).2 z hzm
    rw [hsum, hLi] at h1
    exact ⟨(hz z hzm).1, h1⟩)
  have hxx := hx
  simp only [txt, Bool.and_eq_true, decide_eq_true_eq] at hxx
  have Hts := Lib.hid (show ∀ z ∈ ts, 0 ≤ z ∧ z < (zs.length : Int) from fun z hz => by have := (allIn_iff _ _ _).1 hxx.2 z hz; omega)
  have ht64 : ts.length ≤ 64 := hxx.1.2
  obtain ⟨R, hR⟩ : ∃ R, sbR (m : Int) zs ts = R := ⟨_, rfl⟩
  have hR2 : sbF (2 ^ m) (spr m zs) zs ts.reverse = R := by rw [← hR, sbR, if_pos hok, Int.toNat_natCast]
  have HR := Lib.hid hR
  have hsprw := fun v w h => spread_any (m : Int) v zs w hs h
  have hsz := fun v w => size_any (m : Int) v w (by omega) (by omega)
  simp only [Int.toNat_natCast, hLi] at hsprw hsz
  generalize spr m zs = tb at *
  generalize 2 ^ m = N at *
  have HR2 := Lib.hid hR2
  have HOk := Lib.hid hok
  clear hz hsum hxx hR hR2 hok
  obtain ⟨b0, o0, e0, -, hZc⟩ := h.2.cells (by omega)
  obtain rfl := e0
  have HZc := Lib.hid hZc
  have HT := Lib.hid ht
  have HRI := Lib.hid h
  have Hg := Lib.hid g
  have Hgt := Lib.hid gt
  clear hZc ht g gt h
  refine callsIn_of_wp_marks Try.func13 rfl trivial ?_ rfl
  simp only [Try.ntmps13, List.size_toArray, List.length_cons, List.length_nil, Nat.reduceAdd, Nat.reduceSub, Array.replicate_succ, Array.replicate_zero, List.push_toArray, List.append_toArray, List.nil_append, List.cons_append]
  gi_wp2_with fail
  have hA : (w.alloc (.cells #[.int .i64 m, .slice (some ⟨b0, o0, none⟩) zs.length cap] 30)).heap[w.heap.size]? = some (.cells #[.int .i64 m, .slice (some ⟨b0, o0, none⟩) zs.length cap] 30 (0, 0)) := heap_alloc_new w _
  have hB0 := hb (.cells #[.int .i64 m, .slice (some ⟨b0, o0, none⟩) zs.length cap] 30)
  generalize w.alloc (.cells #[.int .i64 m, .slice (some ⟨b0, o0, none⟩) zs.length cap] 30) = W0 at *
  obtain ⟨a0, a1, -, -⟩ := blk2 hA
  refine ⟨trivial, ?_⟩
  gi_at_call 11
  refine (callsIn_wide.2 (implShares_any (m : Int) _ zs _ Hg.out)).mono ?_
  rw [hs]
  rintro e w1 ⟨rfl, hb1⟩
  have hA1 := blk_next hb1 hA
  have hB1 := bnext hB0 hb1
  clear a0 a1 hb1 hA hB0
  obtain ⟨a0, a1, -, -⟩ := blk2 hA1
  gi_wp2_with (refine ⟨trivial, ?_⟩; gi_at_call 37; refine (callsIn_wide.2 (isText_any _ ts _ _ (HT.out.below hB1))).mono ?_; rw [hx]; rintro e w' ⟨rfl, rfl⟩)
  refine ⟨trivial, ?_⟩
  gi_at_call 32
  refine (callsIn_wide.2 (hsprw _ _ (HRI.out.below hB1))).mono ?_
  rintro e w2 ⟨v2, rfl, ho, hb2⟩
  have hA2 := blk_next hb2 hA1
  have hB2 := bnext hB1 hb2
  obtain ⟨ao2, cap2, rfl⟩ := ho.shape
  have HTB := Lib.hid ho
  clear a0 a1 hb2 hA1 ho
  obtain ⟨a0, a1, -, -⟩ := blk2 hA2
  have hwA2 : w.heap.size < w2.heap.size := blk_lt hA2
  have hwA3 : w.heap.size < w2.heap.size + 1 := by omega
  have hwA4 : w.heap.size < w2.heap.size + 1 + 1 := by omega
  have hwA5 : w.heap.size < w2.heap.size + 1 + 1 + 1 := by omega
  gi_wp2_with fail
  have hA3 : (((w2.alloc (.cells #[.slice ao2 tb.length cap2] 25)).alloc (.cells #[] 4)).alloc (.cells #[.slice (some ⟨w2.heap.size + 1, 0, none⟩) 0 0] 37)).heap[w.heap.size]? = _ := blk_alloc (blk_alloc (blk_alloc hA2))
  have bT := ((Boxed.new w2 25 (.slice ao2 tb.length cap2)).alloc (.cells #[] 4)).alloc (.cells #[.slice (some ⟨w2.heap.size + 1, 0, none⟩) 0 0] 37)
  have bB := Boxed.new ((w2.alloc (.cells #[.slice ao2 tb.length cap2] 25)).alloc (.cells #[] 4)) 37 (.slice (some ⟨w2.heap.size + 1, 0, none⟩) 0 0)
  have oB := (ownB_empty (w2.alloc (.cells #[.slice ao2 tb.length cap2] 25)) (w2.heap.size + 1) (by simp))
  rw [World.size_alloc] at oB
  have oB := World.ownsRow.alloc oB (.cells #[.slice (some ⟨w2.heap.size + 1, 0, none⟩) 0 0] 37)
  simp only [World.size_alloc] at bT bB
  have hBa : Below w2.heap.size w2 (((w2.alloc (.cells #[.slice ao2 tb.length cap2] 25)).alloc (.cells #[] 4)).alloc (.cells #[.slice (some ⟨w2.heap.size + 1, 0, none⟩) 0 0] 37)) := by go_grown
  have hs3 : (((w2.alloc (.cells #[.slice ao2 tb.length cap2] 25)).alloc (.cells #[] 4)).alloc (.cells #[.slice (some ⟨w2.heap.size + 1, 0, none⟩) 0 0] 37)).heap.size = w2.heap.size + 3 := by simp
  generalize ((w2.alloc (.cells #[.slice ao2 tb.length cap2] 25)).alloc (.cells #[] 4)).alloc (.cells #[.slice (some ⟨w2.heap.size + 1, 0, none⟩) 0 0] 37) = W3 at *
  refine ⟨trivial, ?_⟩
  refine (callsIn_wide.2 (hsz _ _)).mono ?_
  rintro e w4 ⟨rfl, hb4⟩
  have hA4 := blk_next hb4 hA3
  have bT : Boxed w4 _ _ _ := blk_next hb4 bT
  have bB : Boxed w4 _ _ _ := blk_next hb4 bB
  have oB := own_below hb4 oB
  have hB4 := bnext hBa hb4
  have hs4 := hb4.size
  clear hA3 hb4 hBa a0 a1 hA2 hwA3 hwA4 hwA5
  gi_wp2_with (refine ⟨trivial, ?_⟩; gi_at_call 38; refine (backward_in Fence.wide (3 - 1) trivial rfl _ _ _ _).mono ?_; rintro e w' ⟨rfl, rfl⟩)
  --MARK
  have hs5 : ((w4.alloc (.cells #[.int .i64 N] 2)).alloc (.cells #[.slice aot ts.length capt] 25)).heap.size = w4.heap.size + 2 := by simp
  have bS := (Boxed.new w4 2 (.int .i64 N)).alloc (.cells #[.slice aot ts.length capt] 25)
  have bK := Boxed.new (w4.alloc (.cells #[.int .i64 N] 2)) 25 (.slice aot ts.length capt)
  rw [World.size_alloc] at bK
  have bT := (bT.alloc (.cells #[.int .i64 N] 2)).alloc (.cells #[.slice aot ts.length capt] 25)
  have bB := (bB.alloc (.cells #[.int .i64 N] 2)).alloc (.cells #[.slice aot ts.length capt] 25)
  have oB := World.ownsRow.alloc (World.ownsRow.alloc oB (.cells #[.int .i64 N] 2)) (.cells #[.slice aot ts.length capt] 25)
  have hA5 : ((w4.alloc (.cells #[.int .i64 N] 2)).alloc (.cells #[.slice aot ts.length capt] 25)).heap[w.heap.size]? = _ := blk_alloc (blk_alloc hA4)
  have hB5 : Below w2.heap.size w2 ((w4.alloc (.cells #[.int .i64 N] 2)).alloc (.cells #[.slice aot ts.length capt] 25)) := bnext hB4 (by go_grown)
  clear hA4 hB4
  generalize (w4.alloc (.cells #[.int .i64 N] 2)).alloc (.cells #[.slice aot ts.length capt] 25) = W5 at *
  have hcW : ∀ i (_ : i < ts.length), ∃ b off, aot = some ⟨b, off, none⟩ ∧ b < w2.heap.size + 1 ∧ W5.cell? ⟨b, off + i, none⟩ = some (.int .i64 ts[i]) := fun i hi => by
    obtain ⟨_, ao', cap', e0, _, _, hcs⟩ := HT.out
    simp only [Value.slice.injEq, true_and] at e0
    obtain ⟨rfl, rfl⟩ := e0
    obtain ⟨b, off, e, hc⟩ := hcs i hi
    have hb := World.block_lt_of_cell? w _ hc
    exact ⟨b, off, e, by have := hB2.size; simp at hb; omega, cnext hB5 (cnext hB2 hc)⟩
  have hcapt : ts.length ≤ capt := by
    obtain ⟨_, ao', cap', e0, hcap, _⟩ := HT.out
    simp only [Value.slice.injEq, true_and] at e0
    obtain ⟨rfl, rfl⟩ := e0
    exact hcap
  have htab : RI W5 (.slice ao2 tb.length cap2) tb := HTB.out.ri.below hB5
  have Htab := Lib.hid htab
  have HA5 := Lib.hid hA5
  have HZ5 := Lib.hid (show ∀ i (_ : i < zs.length), b0 < w.heap.size ∧ W5.cell? ⟨b0, o0 + i, none⟩ = some (.int .i64 zs[i]) from fun i hi => ⟨World.block_lt_of_cell? w _ (HZc.out i hi), cnext hB5 (cnext hB2 (HZc.out i hi))⟩)
  clear htab hA5
  refine wpIn_rangeFunc_ownF rfl h1 (gf := 47) (lb := #[.pointer (some ⟨w4.heap.size + 1, 0, none⟩)]) rfl trivial (enters_of Try.func47 (by kernel_rfl) rfl)
    (backward_stops Fence.wide (3 - 1) trivial rfl (by omega) (w4.heap.size + 1) (w2.heap.size + 1) aot capt (fun z => 0 ≤ z ∧ z < (zs.length : Int)) ts Hts.out W5 (by omega) (by omega) bK.cell hcapt hlt hcW) (fun h k => KpB.trans h k) (KpB.put (w := W5) (by omega) (by omega)) (Below.refl _ _) (fun _ => rfl)
    (fun pre W => ((∃ bv, Boxed W (w2.heap.size + 1 + 1) 37 bv ∧ W.ownsRow (w2.heap.size + 1) 4 1 bv (sbF N tb zs (elV pre)).2.length ((sbF N tb zs (elV pre)).2.map Value.bool) ∧ True) ∧ Boxed W w4.heap.size 2 (.int .i64 ((sbF N tb zs (elV pre)).1 : Int)) ∧ Boxed W (w4.heap.size + 1) 25 (.slice aot ts.length capt)) ∧ Below (w2.heap.size + 1) W5 W)
    (fun _ _ _ => False)
    (OwnFrom.and (OwnFrom.and (Own.from (holdsRow_own (w2.heap.size + 1) (w2.heap.size + 1 + 1) 37 4 1 (fun pre => (sbF N tb zs (elV pre)).2.length) (fun pre => (sbF N tb zs (elV pre)).2.map Value.bool) (fun _ _ => True)) _) (OwnFrom.and (Own.from (boxed_own w4.heap.size 2 (fun pre => .int .i64 ((sbF N tb zs (elV pre)).1 : Int))) _) (Own.from (boxed_own (w4.heap.size + 1) 25 (fun _ => .slice aot ts.length capt)) _))) (ownFrom_below (by omega) (by omega)))
    (fun _ _ _ _ _ hs _ _ => hs)
    ⟨⟨⟨_, bB, oB, trivial⟩, bS, bK⟩, Below.refl _ _⟩
    (fun q => { tmps := #[.agg #[.int .i64 m, .slice (some ⟨b0, o0, none⟩) zs.length cap], .slice aot ts.length capt, .pointer (some ⟨w.heap.size, 0, none⟩), undef, .slice none 0 0, .int .i64 0, .bool false, .pointer (some ⟨w2.heap.size, 0, none⟩), .pointer (some ⟨w2.heap.size + 1 + 1, 0, none⟩), .pointer (some ⟨w4.heap.size, 0, none⟩), undef, .int .i64 q.1.2, undef, .agg #[.int .i64 m, .slice (some ⟨b0, o0, none⟩) zs.length cap], .bool true, .bool false, .bool false, .slice aot ts.length capt, .pointer (some ⟨w.heap.size, 1, none⟩), .slice (some ⟨b0, o0, none⟩) zs.length cap, .int .i64 zs.length, .bool true, .bool false, .bool false, .agg #[.int .i64 m, .slice (some ⟨b0, o0, none⟩) zs.length cap], .slice ao2 tb.length cap2, .slice (some ⟨w2.heap.size + 1, 0, none⟩) 0 0, .agg #[.int .i64 m, .slice (some ⟨b0, o0, none⟩) zs.length cap], .int .i64 N, .slice aot ts.length capt, .func (.func 47) #[] #[.pointer (some ⟨w4.heap.size + 1, 0, none⟩)], .int .i64 q.1.1, .int .i64 q.1.2, undef, undef, undef, undef, undef, undef, undef, undef, undef, undef, undef, undef, undef, undef, undef, undef, undef, undef, undef, undef, undef, undef, undef, undef, undef, undef, undef, undef], defers := [] }) ?assign ?body ?done ?stop
  case assign =>
    intro l q W K hK
    gi_wp2
    exact hK
  case body =>
    rintro l pre ⟨⟨i, z⟩, hz0, hz1⟩ W ⟨⟨⟨bv, hbv, hrow, -⟩, hst, hbk⟩, hB⟩ hpl
    dsimp only at hz0 hz1
    have Hsn := Lib.hid (show sbF N tb zs (elV (pre ++ [(⟨(i, z), hz0, hz1⟩ : El fun z => 0 ≤ z ∧ z < (zs.length : Int))])) = sbStep N tb zs (sbF N tb zs (elV pre)) z by rw [elV_snoc, sbF_snoc])
    have hbd := sb_ok N hN1 hN256 tb zs Hspr.out Hz.out (elV pre) (fun L hL => by
      obtain ⟨q, -, rfl⟩ := List.mem_map.1 hL
      exact q.2)
    rw [elV_len] at hbd
    generalize sbF N tb zs (elV pre) = q0 at *
    obtain ⟨s, b⟩ := q0
    dsimp only at hbd hrow hst Hsn
    obtain ⟨hsN, hs2, hbl⟩ := hbd
    obtain ⟨L, rfl⟩ := Int.eq_ofNat_of_zero_le hz0
    have hLl : L < zs.length := by omega
    have hz := Hz.out zs[L] (List.getElem_mem hLl)
    obtain ⟨f, hf⟩ : ∃ f : Nat, zs[L] = f := ⟨zs[L].toNat, by omega⟩
    have hZL := (hB.cell (p := ⟨b0, o0 + L, none⟩) (by have := (HZ5.out L hLl).1; show b0 < _; omega)).trans (HZ5.out L hLl).2
    have hAW := blk_below hB (show w.heap.size < w2.heap.size + 1 by omega) HA5.out
    have hTW : Boxed W w2.heap.size _ _ := blk_below hB (show w2.heap.size < w2.heap.size + 1 by omega) bT
    obtain ⟨c0, c1, -, -⟩ := blk2 hAW
    rw [hf] at hZL hz
    have Hst := Lib.hid (fun (s' : Nat) (b' : List Bool) (hh : hvF f 9 s b = (s', b')) => sbStep_eq N tb zs s b (L : Int) L f s' b' rfl hLl hf hh)
    have hLz : (L : Int) < (zs.length : Int) := by omega
    clear hf
    gi_wp2_with fail
    gi_loopg [] 9 (fun u wr => ∃ (s' : Nat) (b' : List Bool) (bv' : Value), f ≤ s' ∧ s' < 2 * N ∧ s' < 2 ^ u ∧ b'.length + u ≤ b.length + 9 ∧ hvF f u s' b' = hvF f 9 s b ∧ Boxed wr w4.heap.size 2 (.int .i64 s') ∧ Boxed wr (w2.heap.size + 1 + 1) 37 bv' ∧ wr.ownsRow (w2.heap.size + 1) 4 1 bv' b'.length (b'.map Value.bool) ∧ Boxed wr (w4.heap.size + 1) 25 (.slice aot ts.length capt) ∧ KeepsOthers W wr ∧ Below (w2.heap.size + 1) W wr)
    case atStart => exact ⟨s, b, bv, by omega, hs2, by omega, Nat.le_refl _, rfl, hst, hbv, hrow, hbk, KeepsOthers.refl _, Below.refl _ _⟩
    case round =>
      have HbkW := Lib.hid hbk
      clear hst hbv hrow hbk
      obtain ⟨s', b', bv', hfs, hs2', hsu, hbu, hh, hst, hbv, hrow, hbk, hko, hkp⟩ := hrel
      have Hh := Lib.hid hh
      have Hsu := Lib.hid hsu
      have Hbu := Lib.hid hbu
      have hbl2 : b'.length ≤ 600 := by omega
      clear hh hsu hbu
      have hsc := hst.cell
      have hsf := hst.frozen
      have hbc := hbv.cell
      have hbf := hbv.frozen
      have hwr : w2.heap.size + 1 ≤ wr.heap.size := by have := hbv.lt; omega
      by_cases hge : 2 * f ≤ s'
      · obtain ⟨bt', hbt⟩ : ∃ bt' : Bool, (s' % 2 == 1) = bt' := ⟨_, rfl⟩
        have hb1 : ((s' : Int) % 2 == 1) = bt' := by rw [← hbt, Bool.eq_iff_iff]; simp; omega
        have hb2 : ((s' : Int).tmod 2 == 1) = bt' := by rw [Int.tmod_eq_emod_of_nonneg (by omega)]; exact hb1
        have hgi : 2 * (f : Int) ≤ (s' : Int) := by omega
        obtain ⟨u, rfl⟩ : ∃ u', gk = u' + 1 := by
          cases gk with
          | zero => have := Hsu.out; simp at this; omega
          | succ u => exact ⟨u, rfl⟩
        have Hh2 := Lib.hid (show hvF f u (s' / 2) (b' ++ [bt']) = hvF f 9 s b by rw [← Hh.out, hvF_in _ _ _ _ hge, hbt])
        have Hsu2 := Lib.hid (show s' / 2 < 2 ^ u by have := Hsu.out; rw [Nat.pow_succ] at this; omega)
        have Hbt := Lib.hid hbt
        obtain ⟨ao4, cap4, rfl⟩ := own_shape hrow
        obtain ⟨i0, hi, hz0', hz1', hz2⟩ := info_parts info_bool
        clear hbt
        gi_wp2_with (gi_at_builtin; refine wpListIn_append_own _ rfl _ _ 37 rfl (w2.heap.size + 1) 4 i0 (.bool false) 1 1 Try.underlying37 hi hz0' hz1' hz2 rfl (by decide) _ _ _ rfl (hrow.alloc _) ⟨wr.heap.size, 0, none⟩ 1 1 [.bool bt'] rfl rfl (cell_one_new _ _ _) (by simp [Value.oneCell']) (by unfold maxLen; omega) (by omega) (by simp; omega) ?_)
        intro v6 w6 hown6 hgrow _
        obtain ⟨g6, cap6, rfl⟩ := ownsRow_succ hown6
        obtain ⟨hv1, hv2, hr2, hk2, hb2k⟩ := hbv.appended (by decide) hrow hwr (by omega) hown6 hgrow
        have hst6 : Boxed w6 w4.heap.size 2 (.int .i64 s') := (hst.alloc _).kept hgrow (hst.not_row (by decide) hrow)
        have hbk6 : Boxed w6 (w4.heap.size + 1) 25 (.slice aot ts.length capt) := (hbk.alloc _).kept hgrow (hbk.not_row (by decide) hrow)
        have hst7 := hst6.other (B' := w2.heap.size + 1 + 1) (by omega) (.slice (some ⟨g6, 0, none⟩) (b'.length + 1) cap6)
        have hbk7 := hbk6.other (B' := w2.heap.size + 1 + 1) (by omega) (.slice (some ⟨g6, 0, none⟩) (b'.length + 1) cap6)
        have hst8 := hst7.set (.int .i64 ((s' / 2 : Nat) : Int))
        have hbk8 := hbk7.other (B' := w4.heap.size) (by omega) (.int .i64 ((s' / 2 : Nat) : Int))
        have hbv8 := hv2.other (B' := w4.heap.size) (by omega) (.int .i64 ((s' / 2 : Nat) : Int))
        have hrow8 := hr2.kept (grownBy_setCell' _ w4.heap.size (.int .i64 ((s' / 2 : Nat) : Int))) (.inr (hst7.not_row (by decide) hr2).symm)
        have hko8 := hko.trans (hk2.trans (KeepsOthers.setCell _ ⟨w4.heap.size, 0, none⟩ (.int .i64 ((s' / 2 : Nat) : Int))))
        have hkp8 := hkp.trans (hb2k.trans ((Below.refl (w2.heap.size + 1) _).setCell (p := ⟨w4.heap.size, 0, none⟩) (by show w2.heap.size + 1 ≤ w4.heap.size; omega) (.int .i64 ((s' / 2 : Nat) : Int))))
        have hsc1 := hv1.cell
        have hsf1 := hv1.frozen
        have hsc2 := hst7.cell
        have hsf2 := hst7.frozen
        have Hall := Lib.hid (And.intro hst8 (And.intro hbv8 (And.intro hrow8 (And.intro hko8 (And.intro hkp8 hbk8)))))
        have hmb : (b' ++ [bt']).length = b'.length + 1 := by simp
        have Hmb := Lib.hid hmb
        have hu9 : b'.length + 1 + u ≤ b.length + 9 := by have := Hbu.out; omega
        have hf2 : f ≤ s' / 2 := by omega
        have hs22 : s' / 2 < 2 * N := by omega
        clear hst hbv hrow hko hkp hbk hv1 hv2 hr2 hk2 hb2k hst6 hst7 hst8 hbk6 hbk7 hbk8 hbv8 hrow8 hko8 hkp8 hown6 hgrow hsc hsf hbc hbf hmb
        gi_wp2
        gi_roundg u
        case measure => omega
        case rel => exact ⟨s' / 2, b' ++ [bt'], _, hf2, hs22, Hsu2.out, by rw [Hmb.out]; exact hu9, Hh2.out, Hall.out.1, Hall.out.2.1, by rw [Hmb.out, List.map_append]; exact Hall.out.2.2.1, Hall.out.2.2.2.2.2, Hall.out.2.2.2.1, Hall.out.2.2.2.2.1⟩
      · have hgi : ¬ 2 * (f : Int) ≤ (s' : Int) := by omega
        have hfin : hvF f 9 s b = (s', b') := by rw [← Hh.out, hvF_out _ _ _ _ hge]
        have Hfin := Lib.hid (Hst.out s' b' hfin)
        obtain ⟨nn, hnn⟩ : ∃ nn, s' - f = nn := ⟨_, rfl⟩
        have hnn512 : nn ≤ 512 := by omega
        have hv1 : IntKind.i64.wrap ((s' : Int) - (f : Int)) = (nn : Int) := by rw [IntWalk.i64_in _ (by omega)]; omega
        rw [hnn] at Hfin
        have hpl2 := plF_lt (L : Int) N hN1 tb 0 nn (by have := Hspr.out; omega)
        have hv2 : IntKind.i64.wrap ((N : Int) + ((plF (L : Int) tb 0 nn : Nat) : Int)) = ((N + plF (L : Int) tb 0 nn : Nat) : Int) := by rw [IntWalk.i64_in _ (by omega)]; omega
        have hBr := hB.trans hkp
        have hAr := blk_below hBr (show w.heap.size < w2.heap.size + 1 by omega) HA5.out
        have hTr : Boxed wr w2.heap.size _ _ := blk_below hBr (show w2.heap.size < w2.heap.size + 1 by omega) bT
        have Hri := Lib.hid (HTB.out.ri.below (hB5.trans (hBr.mono (show w2.heap.size ≤ w2.heap.size + 1 by omega))))
        have htl : tb.length ≤ 256 := by have := Hspr.out; omega
        have htc := hTr.cell
        have hbb : Below wr.heap.size wr wr.drew := below_drewN wr 1
        clear c0 c1
        obtain ⟨c0, c1, -, -⟩ := blk2 hAr
        clear hfin hnn
        gi_wp2_with fail
        refine wpIn_region_held_tail 9 (S := fun W' => W'.cell? ⟨w.heap.size, 0, none⟩ = some (.int .i64 m) ∧ W'.cell? ⟨w.heap.size, 1, none⟩ = some (.slice (some ⟨b0, o0, none⟩) zs.length cap) ∧ W'.cell? ⟨w2.heap.size, 0, none⟩ = some (.slice ao2 tb.length cap2) ∧ W'.cell? ⟨w4.heap.size, 0, none⟩ = some (.int .i64 s') ∧ Below wr.heap.size wr W') (by kernel_rfl) (by kernel_rfl) (by decide +kernel) ?_ (fun hHeld => ?_)
        · (try go_split_ands); refine ⟨?_, ?_, ?_, ?_, ?_⟩ <;> first | assumption | exact cnext (by assumption) (by assumption) | exact bnext (by assumption) (by assumption) | exact Below.alloc (by assumption) (Below.size (by assumption)) _ | (go_keep; done)
        simp only [List.take_succ_cons, List.take_zero, List.drop_succ_cons, List.drop_zero, List.length_cons, List.length_nil, Nat.reduceAdd]
        refine wpAnyH_tk (i := 0) (v := ?_) (some 50) rfl rfl (by kernel_rfl) (by decide +kernel) (by decide +kernel) (fun _ _ _ h => h) (by kernel_rfl) ?_ hHeld ?_
        rotate_left
        · (intro w hSw; (try dsimp only at hSw); go_simp <;> with_reducible rfl)
        (try simp only [Act.put, List.setIfInBounds_toArray, List.set_cons_zero, List.set_cons_succ])
        refine wpAnyH_tk (i := 2) (v := ?_) (some 52) rfl rfl (by kernel_rfl) (by decide +kernel) (by decide +kernel) (fun _ _ _ h => h) (by kernel_rfl) ?_ hHeld ?_
        rotate_left
        · (intro w hSw; (try dsimp only at hSw); go_simp <;> with_reducible rfl)
        (try simp only [Act.put, List.setIfInBounds_toArray, List.set_cons_zero, List.set_cons_succ])
        refine wpAnyH_tk (i := 3) (v := ?_) (some 53) rfl rfl (by kernel_rfl) (by decide +kernel) (by decide +kernel) (fun _ _ _ h => h) (by kernel_rfl) ?_ hHeld ?_
        rotate_left
        · (intro w hSw; (try dsimp only at hSw); go_simp <;> with_reducible rfl)
        (try simp only [Act.put, List.setIfInBounds_toArray, List.set_cons_zero, List.set_cons_succ])
        refine wpAnyH_tk (i := 4) (v := ?_) (some 54) rfl rfl (by kernel_rfl) (by decide +kernel) (by decide +kernel) (fun _ _ _ h => h) (by kernel_rfl) ?_ hHeld ?_
        rotate_left
        · (intro w hSw; (try dsimp only at hSw); go_simp <;> with_reducible rfl)
        (try simp only [Act.put, List.setIfInBounds_toArray, List.set_cons_zero, List.set_cons_succ])
        refine wpAnyH_tk (i := 5) (v := ?_) (some 55) rfl rfl (by kernel_rfl) (by decide +kernel) (by decide +kernel) (fun _ _ _ h => h) (by kernel_rfl) ?_ hHeld ?_
        rotate_left
        · (intro w hSw; (try dsimp only at hSw); go_simp <;> with_reducible rfl)
        (try simp only [Act.put, List.setIfInBounds_toArray, List.set_cons_zero, List.set_cons_succ])
        refine wpAnyH_tk (i := 6) (v := ?_) (some 56) rfl rfl (by kernel_rfl) (by decide +kernel) (by decide +kernel) (fun _ _ _ h => h) (by kernel_rfl) ?_ hHeld ?_
        rotate_left
        · (intro w hSw; (try dsimp only at hSw); go_simp <;> with_reducible rfl)
        (try simp only [Act.put, List.setIfInBounds_toArray, List.set_cons_zero, List.set_cons_succ])
        refine wpAnyH_ready (rs := [1]) (by kernel_rfl) (by simp) ?_
        refine AllReadyH.cons rfl (fun K hK => ?_) AllReadyH.nil
        go_simp
        with_reducible refine Calls.mono (hsz _ _) ?_
        rintro e w7 ⟨rfl, hb7⟩
        try go_wp2_with fail
        refine hK.out _ _ ?_ (fun hHeld => ?_)
        · (try go_split_ands); refine ⟨?_, ?_, ?_, ?_, ?_⟩ <;> first | assumption | exact cnext (by assumption) (by assumption) | exact bnext (by assumption) (by assumption) | exact Below.alloc (by assumption) (Below.size (by assumption)) _ | (go_keep; done)
        clear hK K
        (try simp only [Act.put, List.setIfInBounds_toArray, List.set_cons_zero, List.set_cons_succ])
        refine wpAnyH_ready (rs := [7]) (by kernel_rfl) (by simp) ?_
        refine AllReadyH.cons rfl (fun K hK => ?_) AllReadyH.nil
        go_simp
        with_reducible refine Calls.mono (placeOf_any _ tb (L : Int) nn _ (Hri.out.below (by go_split_ands; assumption)) htl (by omega)) ?_
        rintro e w' ⟨rfl, rfl⟩
        try go_wp2_with fail
        refine hK.out _ _ ?_ (fun hHeld => ?_)
        · (try go_split_ands); refine ⟨?_, ?_, ?_, ?_, ?_⟩ <;> first | assumption | exact cnext (by assumption) (by assumption) | exact bnext (by assumption) (by assumption) | exact Below.alloc (by assumption) (Below.size (by assumption)) _ | (go_keep; done)
        clear hK K
        (try simp only [Act.put, List.setIfInBounds_toArray, List.set_cons_zero, List.set_cons_succ])
        refine wpAnyH_tk (i := 8) (v := ?_) (some 58) rfl rfl (by kernel_rfl) (by decide +kernel) (by decide +kernel) (fun _ _ _ h => h) (by kernel_rfl) ?_ hHeld ?_
        rotate_left
        · (intro w hSw; (try dsimp only at hSw); go_simp <;> with_reducible rfl)
        (try simp only [Act.put, List.setIfInBounds_toArray, List.set_cons_zero, List.set_cons_succ])
        refine wpAnyH_done (by kernel_rfl) ?_ _
        show wpList _ _ _ _ _ _
        have hB7 : Below wr.heap.size wr w7 := by go_split_ands; assumption
        have hst7 : Boxed w7 _ _ _ := blk_next hB7 hst
        have hbv7 : Boxed w7 _ _ _ := blk_next hB7 hbv
        have hbk7 : Boxed w7 _ _ _ := blk_next hB7 hbk
        have hrow7 := own_below hB7 hrow
        have hst8 := hst7.set (.int .i64 ((N : Int) + ((plF (L : Int) tb 0 nn : Nat) : Int)))
        have hbv8 := hbv7.other (B' := w4.heap.size) (by omega) (.int .i64 ((N : Int) + ((plF (L : Int) tb 0 nn : Nat) : Int)))
        have hbk8 := hbk7.other (B' := w4.heap.size) (by omega) (.int .i64 ((N : Int) + ((plF (L : Int) tb 0 nn : Nat) : Int)))
        have hrow8 := hrow7.kept (grownBy_setCell' _ w4.heap.size (.int .i64 ((N : Int) + ((plF (L : Int) tb 0 nn : Nat) : Int)))) (.inr (hst7.not_row (by decide) hrow7).symm)
        have hko8 := hko.trans ((keepsOf_below hB7).trans (KeepsOthers.setCell _ ⟨w4.heap.size, 0, none⟩ (.int .i64 ((N : Int) + ((plF (L : Int) tb 0 nn : Nat) : Int)))))
        have hkp8 := hkp.trans ((hB7.mono hwr).trans ((Below.refl (w2.heap.size + 1) _).setCell (p := ⟨w4.heap.size, 0, none⟩) (by show w2.heap.size + 1 ≤ w4.heap.size; omega) (.int .i64 ((N : Int) + ((plF (L : Int) tb 0 nn : Nat) : Int)))))
        have hB8 := hB.trans hkp8
        have hsc7 := hst7.cell
        have hsf7 := hst7.frozen
        have Hall := Lib.hid (And.intro hst8 (And.intro hbv8 (And.intro hrow8 (And.intro hko8 (And.intro hkp8 (And.intro hbk8 hB8))))))
        clear hHeld hst hbv hrow hbk hko hkp hst7 hbv7 hbk7 hrow7 hst8 hbv8 hbk8 hrow8 hko8 hkp8 hB8 hB7 hb7 c0 c1 htc hbb hAr hTr hBr hsc hsf hbc hbf
        go_wp2
        show Exit.inBlock 1 _ Exit.normal _ _
        gi_wp2
        have e9 := Hsn.out.trans Hfin.out
        refine ⟨Hall.out.2.2.2.1, ⟨Hall.out.2.2.2.2.1, (Hall.out.2.2.2.2.2.1 : _ = _).trans HbkW.out.symm⟩, ⟨⟨_, Hall.out.2.1, ?_⟩, ?_, Hall.out.2.2.2.2.2.1⟩, Hall.out.2.2.2.2.2.2⟩
        · rw [e9]; exact Hall.out.2.2.1
        · rw [e9]; exact Hall.out.1
  case done =>
    rintro D ys W hD hys ⟨⟨⟨bv, hbv, hrow, -⟩, hst, -⟩, hB⟩ hK
    have hR : R = sbF N tb zs (elV ys) := by rw [hys, HR2.out]
    have hbd := sb_ok N hN1 hN256 tb zs Hspr.out Hz.out (elV ys) (fun L hL => by
      obtain ⟨q, -, rfl⟩ := List.mem_map.1 hL
      exact q.2)
    have hlys : (elV ys).length = ts.length := by rw [hys, List.length_reverse]
    rw [hlys] at hbd
    rw [← hR] at hrow hst hbd
    obtain ⟨s, b⟩ := R
    dsimp only at hrow hst hbd
    have Hz' := Lib.hid (show sbZ (m : Int) zs ts = b by rw [sbZ, HR.out])
    have Hs' := Lib.hid (show sbS (m : Int) zs ts = s by rw [sbS, HR.out])
    obtain ⟨ao4, cap4, rfl⟩ := own_shape hrow
    have hbc := hbv.cell
    have hsc := hst.cell
    have hog := Og.own hrow
    have hBw := hB2.trans ((hB5.trans (hB.mono (show w2.heap.size ≤ w2.heap.size + 1 by omega))).mono hB2.size)
    have Ho := Lib.hid hog
    have Hrow := Lib.hid hrow
    clear hys hR hlys hbd hrow hog
    gi_wp2
    gi_quiet (fail)
    gi_wp2
    have hK' : (W.drewN nq).heap[D]? = some (.deferred (some [])) := hK
    refine ⟨by simp, .inl ⟨_, _, rfl, run_takeDeferred hK', ?_⟩⟩
    have hrf := ownsRow_putObj (own_below (below_drewN W nq) Hrow.out) (.deferred none) hK' rfl
    have hbf : Below w.heap.size w ((W.drewN nq).putObj D (.deferred none)) := (bnext hBw (below_drewN W nq)).trans (belowK_b (w := w) (Nat.le_refl _) (W.drewN nq) D _ _ (by have := hBw.size; have := hB2.size; omega) hK' rfl rfl)
    exact ⟨.tuple #[.slice ao4 b.length cap4, .int .i64 s, .bool true], by simp [results, Try.results13, go_sem], ⟨_, by rw [Hs'.out, HOk.out], by rw [Hz'.out]; exact Og.mono (by have := hB2.size; omega) (Og.own hrf), hbf⟩⟩
  case stop =>
    rintro D c pre W _ _ h _
    exact h.elim
set_option maxHeartbeats 1000000 in
theorem implSb_any (p : Int) (v : Value) (zs : List Int) (vt : Value) (ts : List Int) (w : World) (h : RI w v zs) (ht : RI w vt ts) :
    Calls Try.prog 13 #[.agg #[.int .i64 p, v], vt] w fun e w' => ∃ v', e = .returned (.tuple #[v', .int .i64 (sbS p zs ts), .bool (sbOk p zs ts)]) ∧ Og Value.bool w.heap.size w' v' (sbZ p zs ts) ∧ Below w.heap.size w w' := by
  by_cases hs : shs p zs = true
  · by_cases hx : txt ts (zs.length : Int) = true
    · exact (callsIn_wide (n := 3)).1 (implSb_in p v zs vt ts w h ht hs hx)
    · have hx : txt ts (zs.length : Int) = false := by simpa using hx
      have hlen := h.len
      obtain ⟨ao, cap, rfl⟩ := h.shape
      obtain ⟨aot, capt, rfl⟩ := ht.shape
      have hb : ∀ o, Below w.heap.size w (w.alloc o) := fun o => by go_grown
      have g := h.below (hb (.cells #[.int .i64 p, .slice ao zs.length cap] 30))
      have hbad : sbOk p zs ts = false := by rw [sbOk, hs, hx]; rfl
      have HB := Lib.hid (sb_bad hbad)
      have HOk := Lib.hid hbad
      have HT := Lib.hid ht
      clear hbad ht
      have hA := heap_alloc_new w (.cells #[.int .i64 p, .slice ao zs.length cap] 30)
      have hB0 := hb (.cells #[.int .i64 p, .slice ao zs.length cap] 30)
      go_enter Try.func13, Try.ntmps13
      go_wp2_with fail
      refine (implShares_any p _ zs _ g).mono ?_
      rw [hs]
      rintro e w1 ⟨rfl, hb1⟩
      have hA1 := blk_next hb1 hA
      have hB1 := bnext hB0 hb1
      have gt := HT.out.below hB1
      clear hA hB0 hb1 g
      obtain ⟨a0, a1, -, -⟩ := blk2 hA1
      go_wp2_with (go_at_call 37; refine (isText_any _ ts _ _ gt).mono ?_; rw [hx]; rintro e w' ⟨rfl, rfl⟩)
      go_ret3
      exact ⟨_, ret3' rfl (vi HB.out.2.symm) (vb HOk.out.symm), by rw [HB.out.1]; exact OgB.nil _ _, hB1⟩
  · have hs : shs p zs = false := by simpa using hs
    have hlen := h.len
    obtain ⟨ao, cap, rfl⟩ := h.shape
    obtain ⟨aot, capt, rfl⟩ := ht.shape
    have hb : ∀ o, Below w.heap.size w (w.alloc o) := fun o => by go_grown
    have g := h.below (hb (.cells #[.int .i64 p, .slice ao zs.length cap] 30))
    have hbad : sbOk p zs ts = false := by rw [sbOk, hs]; rfl
    have HB := Lib.hid (sb_bad hbad)
    have HOk := Lib.hid hbad
    clear hbad
    go_enter Try.func13, Try.ntmps13
    go_wp2_with fail
    refine (implShares_any p _ zs _ g).mono ?_
    rw [hs]
    rintro e w1 ⟨rfl, hb1⟩
    have hB1 := bnext (hb _) hb1
    clear hb1 g
    go_wp2
    go_ret3
    exact ⟨_, ret3' rfl (vi HB.out.2.symm) (vb HOk.out.symm), by rw [HB.out.1]; exact OgB.nil _ _, hB1⟩
end Go.Proofs.Ytnhcoggjnbldiaa
