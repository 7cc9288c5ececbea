/- DualOf: what both packages return. No conditions but that the slices read. -/
import Derived.Test.YtejabnjhnbminaaDualS
namespace Go.Proofs.Ytejabnjhnbminaa
open Go.RowKit
set_option maxRecDepth 100000
set_option linter.unusedVariables false
set_option linter.unusedSimpArgs false

def duZ (n : Int) (zs : List Int) : List Int := ofN (dualR n.toNat (toN zs))
def duOk (n : Int) (zs : List Int) : Bool := prv n zs && prv n (duZ n zs)
theorem duZ_len (n : Int) (zs : List Int) : (apZ (duOk n zs) (duZ n zs)).length ≤ 16777216 := apZ_len fun h => by
  simp only [duOk, Bool.and_eq_true] at h; exact prv_len h.2
theorem nn_of3 {zs : List Int} (h : zs = ofN (toN zs)) : ∀ z ∈ zs, 0 ≤ z := by rw [h]; intro z hz; obtain ⟨y, _, rfl⟩ := List.mem_map.1 hz; omega
set_option maxHeartbeats 4000000 in
theorem implDual_any (n : Int) (v : Value) (zs : List Int) (w : World) (h : RI w v zs) :
    Calls Try.prog 62 #[.agg #[.int .i64 n, v]] w fun e w' => ∃ v', e = .returned (.tuple #[.agg #[.int .i64 (apN (duOk n zs) n), v'], .bool (duOk n zs)]) ∧ OI w.heap.size w' v' (apZ (duOk n zs) (duZ n zs)) ∧ Below w.heap.size w w' := by
  obtain ⟨ao, cap, rfl⟩ := h.shape
  have hb : ∀ o o', Below w.heap.size w ((w.alloc o).alloc o') := fun o o' => by go_grown
  have g := h.below (hb (.cells #[.int .i64 n, .slice ao zs.length cap] 28) (.cells #[.int .i64 0, .slice none 0 0] 28))
  by_cases hc : prv n zs = true
  · obtain ⟨m, rfl, hm1, hm2, hl1, hl8, hzs, hlt, hk⟩ := prv_parts hc
    have HOK := Lib.hid (show duOk m zs = prv m (duZ m zs) by simp [duOk, hc])
    have Hlt := Lib.hid hlt
    have Ht := Lib.hid (toN_len zs)
    have HZ := Lib.hid (show ofN (dualR m (toN zs)) = duZ m zs by rw [duZ, Int.toNat_natCast])
    have Hpos := Lib.hid (show ∀ j, j < (toN zs).length → 0 < gt (echR m (toN zs)) j from fun j hj => echR_pos (by rw [hk, toN_len]) j hj)
    have gN := Lib.hid (h.2.toN (nn_of3 hzs))
    clear hzs hlt hk
    go_enter Try.func62, Try.ntmps62
    go_wp2_with fail
    refine (implParity_any _ _ zs _ g).mono ?_
    rw [hc]
    rintro e w1 ⟨rfl, hb1⟩
    have hr := blk_next hb1 (box_second w _ _ _ _)
    have hp := blk_next hb1 (blk_alloc (heap_alloc_new w (.cells #[.int .i64 m, .slice ao zs.length cap] 28)) (o' := .cells #[.int .i64 0, .slice none 0 0] 28))
    have hB : Below w.heap.size w w1 := bnext (hb _ _) hb1
    have hlt0 : w.heap.size + 1 < w1.heap.size := blk_lt hr
    clear hc hb1 g
    obtain ⟨k0, k1, -, -⟩ := blk2 hp
    go_wp2_with fail
    by_cases hpv : prv m (duZ m zs) = true
    · go_region_held3 (fun W' => W'.cell? ⟨w.heap.size, 0, none⟩ = some (.int .i64 m) ∧ W'.cell? ⟨w.heap.size, 1, none⟩ = some (.slice ao zs.length cap))
        (first | (go_split_ands; refine ⟨?_, ?_⟩ <;> first | assumption | exact cnext (by assumption) (by assumption)) | go_keep)
        ((first
          | (go_at_call 110; with_reducible refine Calls.mono (dual_any _ (toN zs) m hm1 hm2 _ (show Rg eN w1.drew _ _ from gN.out.below hB.drew) (by rw [Ht.out]; exact hl1) (by rw [Ht.out]; exact hl8) Hlt.out Hpos.out) ?_; rintro e w2 ⟨v2, rfl, ho, hb2⟩; rw [HZ.out] at ho; have hsh := ho.shape; obtain ⟨ao2, cap2, rfl⟩ := hsh)
          | (go_at_call 109; with_reducible refine Calls.mono (asParity_any m _ (duZ m zs) _ ho.ri) ?_; rw [hpv, apN_t, apV_t]; rintro e w3 ⟨rfl, hb3⟩; have hr3 := blk_next hb3 (blk_next hb2 hr); have hr4 := blk2 hr3; obtain ⟨r0, r1, q0, q1⟩ := hr4)))
      have ho' : OI w1.heap.size w3 _ _ := OI.below hb3 ho
      have hBf : Below w.heap.size w w3 := bnext (bnext hB.drew hb2) hb3
      have hfin := OI.box ho' (w.heap.size + 1) (by omega) (.int .i64 m) (.slice ao2 (duZ m zs).length cap2)
      have hfB := below_box hBf (w.heap.size + 1) (by omega) (.int .i64 m) (.slice ao2 (duZ m zs).length cap2)
      have Hf := Lib.hid hfin
      have HP := Lib.hid hpv
      clear ho' hfin hpv ho
      go_wp2
      exact bodyPost_ret (v := .tuple #[.agg #[.int .i64 m, .slice ao2 (duZ m zs).length cap2], .bool true]) (by simp [results, Try.results62, go_sem, r0, r1]) rfl ⟨_, by rw [HOK.out, HP.out]; rfl, by rw [HOK.out, HP.out]; exact OI.mono (by omega) Hf.out, hfB⟩
    · have hpv : prv m (duZ m zs) = false := by simpa using hpv
      go_region_held3 (fun W' => W'.cell? ⟨w.heap.size, 0, none⟩ = some (.int .i64 m) ∧ W'.cell? ⟨w.heap.size, 1, none⟩ = some (.slice ao zs.length cap))
        (first | (go_split_ands; refine ⟨?_, ?_⟩ <;> first | assumption | exact cnext (by assumption) (by assumption)) | go_keep)
        ((first
          | (go_at_call 110; with_reducible refine Calls.mono (dual_any _ (toN zs) m hm1 hm2 _ (show Rg eN w1.drew _ _ from gN.out.below hB.drew) (by rw [Ht.out]; exact hl1) (by rw [Ht.out]; exact hl8) Hlt.out Hpos.out) ?_; rintro e w2 ⟨v2, rfl, ho, hb2⟩; rw [HZ.out] at ho; have hsh := ho.shape; obtain ⟨ao2, cap2, rfl⟩ := hsh)
          | (go_at_call 109; with_reducible refine Calls.mono (asParity_any m _ (duZ m zs) _ ho.ri) ?_; rw [hpv, apN_f, apV_f]; rintro e w3 ⟨rfl, hb3⟩; have hr3 := blk_next hb3 (blk_next hb2 hr); have hr4 := blk2 hr3; obtain ⟨r0, r1, q0, q1⟩ := hr4)))
      have hBf : Below w.heap.size w w3 := bnext (bnext hB.drew hb2) hb3
      have hfB := below_box hBf (w.heap.size + 1) (by omega) (.int .i64 0) (.slice none 0 0)
      have HP := Lib.hid hpv
      clear hpv ho
      go_wp2
      exact bodyPost_ret (v := .tuple #[.agg #[.int .i64 0, .slice none 0 0], .bool false]) (by simp [results, Try.results62, go_sem, r0, r1]) rfl ⟨.slice none 0 0, by rw [HOK.out, HP.out]; rfl, by rw [HOK.out, HP.out]; exact OI.nil _ _, hfB⟩
  · have hc : prv n zs = false := by simpa using hc
    have HOK := Lib.hid (show duOk n zs = false by simp [duOk, hc])
    go_enter Try.func62, Try.ntmps62
    go_wp2_with fail
    refine (implParity_any _ _ zs _ g).mono ?_
    rw [hc]
    rintro e w1 ⟨rfl, hb1⟩
    obtain ⟨r0, r1, q0, q1⟩ := blk2 (blk_next hb1 (box_second w _ _ _ _))
    have hB : Below w.heap.size w w1 := bnext (hb _ _) hb1
    have hfB := below_box hB (w.heap.size + 1) (by omega) (.int .i64 0) (.slice none 0 0)
    go_wp2
    exact bodyPost_ret (v := .tuple #[.agg #[.int .i64 0, .slice none 0 0], .bool false]) (by simp [results, Try.results62, go_sem, r0, r1]) rfl ⟨.slice none 0 0, by rw [HOK.out]; rfl, by rw [HOK.out]; exact OI.nil _ _, hfB⟩
set_option maxHeartbeats 4000000 in
theorem specDual_any (n : Int) (v : Value) (zs : List Int) (w : World) (h : RI w v zs) :
    Calls Try.prog 57 #[.agg #[.int .i64 n, v]] w fun e w' => ∃ v', e = .returned (.tuple #[.agg #[.int .i64 (apN (duOk n zs) n), v'], .bool (duOk n zs)]) ∧ OI w.heap.size w' v' (apZ (duOk n zs) (duZ n zs)) ∧ Below w.heap.size w w' := by
  obtain ⟨ao, cap, rfl⟩ := h.shape
  have hb : ∀ o o', Below w.heap.size w ((w.alloc o).alloc o') := fun o o' => by go_grown
  have g := h.below (hb (.cells #[.int .i64 n, .slice ao zs.length cap] 28) (.cells #[.int .i64 0, .slice none 0 0] 28))
  by_cases hc : prv n zs = true
  · obtain ⟨m, rfl, hm1, hm2, hl1, hl8, hzs, hlt, hk⟩ := prv_parts hc
    have HOK := Lib.hid (show duOk m zs = prv m (duZ m zs) by simp [duOk, hc])
    have Hlt := Lib.hid hlt
    have Ht := Lib.hid (toN_len zs)
    have HZ := Lib.hid (show ofN (dualR m (toN zs)) = duZ m zs by rw [duZ, Int.toNat_natCast])
    have Hpos := Lib.hid (show ∀ j, j < (toN zs).length → 0 < gt (echR m (toN zs)) j from fun j hj => echR_pos (by rw [hk, toN_len]) j hj)
    have gN := Lib.hid (h.2.toN (nn_of3 hzs))
    clear hzs hlt hk
    go_enter Try.func57, Try.ntmps57
    go_wp2_with fail
    refine (l06Is_any _ _ zs w.heap.size _ g (by simp [go_sem] <;> rfl) (by simp [go_sem] <;> rfl)).mono ?_
    rw [hc]
    rintro e w1 ⟨rfl, hb1⟩
    have hr := blk_next hb1 (box_second w _ _ _ _)
    have hp := blk_next hb1 (blk_alloc (heap_alloc_new w (.cells #[.int .i64 m, .slice ao zs.length cap] 28)) (o' := .cells #[.int .i64 0, .slice none 0 0] 28))
    have hB : Below w.heap.size w w1 := bnext (hb _ _) hb1
    have hlt0 : w.heap.size + 1 < w1.heap.size := blk_lt hr
    clear hc hb1 g
    obtain ⟨k0, k1, -, -⟩ := blk2 hp
    go_wp2_with fail
    by_cases hpv : prv m (duZ m zs) = true
    · go_region_held3 (fun W' => W'.cell? ⟨w.heap.size, 0, none⟩ = some (.int .i64 m) ∧ W'.cell? ⟨w.heap.size, 1, none⟩ = some (.slice ao zs.length cap))
        (first | (go_split_ands; refine ⟨?_, ?_⟩ <;> first | assumption | exact cnext (by assumption) (by assumption)) | go_keep)
        ((first
          | (go_at_call 107; with_reducible refine Calls.mono (l06Dual_any _ (toN zs) m hm1 hm2 w.heap.size _ (show Rg eN w1.drew _ _ from gN.out.below hB.drew) (by rw [Ht.out]; exact hl1) (by rw [Ht.out]; exact hl8) Hlt.out Hpos.out (by go_split_ands; assumption) (by go_split_ands; assumption)) ?_; rintro e w2 ⟨v2, rfl, ho, hb2⟩; rw [HZ.out] at ho; have hsh := ho.shape; obtain ⟨ao2, cap2, rfl⟩ := hsh)
          | (go_at_call 106; with_reducible refine Calls.mono (l06Give_any m _ (duZ m zs) _ ho.ri) ?_; rw [hpv, apN_t, apV_t]; rintro e w3 ⟨rfl, hb3⟩; have hr3 := blk_next hb3 (blk_next hb2 hr); have hr4 := blk2 hr3; obtain ⟨r0, r1, q0, q1⟩ := hr4)))
      have ho' : OI w1.heap.size w3 _ _ := OI.below hb3 ho
      have hBf : Below w.heap.size w w3 := bnext (bnext hB.drew hb2) hb3
      have hfin := OI.box ho' (w.heap.size + 1) (by omega) (.int .i64 m) (.slice ao2 (duZ m zs).length cap2)
      have hfB := below_box hBf (w.heap.size + 1) (by omega) (.int .i64 m) (.slice ao2 (duZ m zs).length cap2)
      have Hf := Lib.hid hfin
      have HP := Lib.hid hpv
      clear ho' hfin hpv ho
      go_wp2
      exact bodyPost_ret (v := .tuple #[.agg #[.int .i64 m, .slice ao2 (duZ m zs).length cap2], .bool true]) (by simp [results, Try.results57, go_sem, r0, r1]) rfl ⟨_, by rw [HOK.out, HP.out]; rfl, by rw [HOK.out, HP.out]; exact OI.mono (by omega) Hf.out, hfB⟩
    · have hpv : prv m (duZ m zs) = false := by simpa using hpv
      go_region_held3 (fun W' => W'.cell? ⟨w.heap.size, 0, none⟩ = some (.int .i64 m) ∧ W'.cell? ⟨w.heap.size, 1, none⟩ = some (.slice ao zs.length cap))
        (first | (go_split_ands; refine ⟨?_, ?_⟩ <;> first | assumption | exact cnext (by assumption) (by assumption)) | go_keep)
        ((first
          | (go_at_call 107; with_reducible refine Calls.mono (l06Dual_any _ (toN zs) m hm1 hm2 w.heap.size _ (show Rg eN w1.drew _ _ from gN.out.below hB.drew) (by rw [Ht.out]; exact hl1) (by rw [Ht.out]; exact hl8) Hlt.out Hpos.out (by go_split_ands; assumption) (by go_split_ands; assumption)) ?_; rintro e w2 ⟨v2, rfl, ho, hb2⟩; rw [HZ.out] at ho; have hsh := ho.shape; obtain ⟨ao2, cap2, rfl⟩ := hsh)
          | (go_at_call 106; with_reducible refine Calls.mono (l06Give_any m _ (duZ m zs) _ ho.ri) ?_; rw [hpv, apN_f, apV_f]; rintro e w3 ⟨rfl, hb3⟩; have hr3 := blk_next hb3 (blk_next hb2 hr); have hr4 := blk2 hr3; obtain ⟨r0, r1, q0, q1⟩ := hr4)))
      have hBf : Below w.heap.size w w3 := bnext (bnext hB.drew hb2) hb3
      have hfB := below_box hBf (w.heap.size + 1) (by omega) (.int .i64 0) (.slice none 0 0)
      have HP := Lib.hid hpv
      clear hpv ho
      go_wp2
      exact bodyPost_ret (v := .tuple #[.agg #[.int .i64 0, .slice none 0 0], .bool false]) (by simp [results, Try.results57, go_sem, r0, r1]) rfl ⟨.slice none 0 0, by rw [HOK.out, HP.out]; rfl, by rw [HOK.out, HP.out]; exact OI.nil _ _, hfB⟩
  · have hc : prv n zs = false := by simpa using hc
    have HOK := Lib.hid (show duOk n zs = false by simp [duOk, hc])
    go_enter Try.func57, Try.ntmps57
    go_wp2_with fail
    refine (l06Is_any _ _ zs w.heap.size _ g (by simp [go_sem] <;> rfl) (by simp [go_sem] <;> rfl)).mono ?_
    rw [hc]
    rintro e w1 ⟨rfl, hb1⟩
    obtain ⟨r0, r1, q0, q1⟩ := blk2 (blk_next hb1 (box_second w _ _ _ _))
    have hB : Below w.heap.size w w1 := bnext (hb _ _) hb1
    have hfB := below_box hB (w.heap.size + 1) (by omega) (.int .i64 0) (.slice none 0 0)
    go_wp2
    exact bodyPost_ret (v := .tuple #[.agg #[.int .i64 0, .slice none 0 0], .bool false]) (by simp [results, Try.results57, go_sem, r0, r1]) rfl ⟨.slice none 0 0, by rw [HOK.out]; rfl, by rw [HOK.out]; exact OI.nil _ _, hfB⟩
end Go.Proofs.Ytejabnjhnbminaa
