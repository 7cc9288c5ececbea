/- Parities handed back if they are valid; rows in steps of valid ones. No conditions but that the slices read. -/
import Derived.Test.YtecddfaleapggaaPar
namespace Go.Proofs.Ytecddfaleapggaa
open Go.RowKit
set_option maxRecDepth 100000
set_option linter.unusedVariables false
set_option linter.unusedSimpArgs false

set_option maxHeartbeats 1000000 in
theorem specParity_any (n : Int) (v : Value) (zs : List Int) (w : World) (h : RI w v zs) :
    Calls Try.prog 16 #[.agg #[.int .i64 n, v]] w fun e w' => e = .returned (.bool (prv n zs)) ∧ Below w.heap.size w w' := by
  have hb : ∀ o, Below w.heap.size w (w.alloc o) := fun o => by go_grown
  obtain ⟨ao, cap, rfl⟩ := h.shape
  have g := h.below (hb (.cells #[.int .i64 n, .slice ao zs.length cap] 27))
  go_enter Try.func16, Try.ntmps16
  go_wp2_with (go_at_call 45; refine (l06Is_any n _ zs _ _ g (by simp [go_sem]) (by simp [go_sem])).mono ?_; rintro e w' ⟨rfl, hB⟩)
  go_ret
  exact ⟨rfl, bnext (hb _) hB⟩
def apN (b : Bool) (n : Int) : Int := if b = true then n else 0
def apV (b : Bool) (v : Value) : Value := if b = true then v else .slice none 0 0
theorem box_second (w : World) (o : Obj) (x y : Value) (t : TypeId) : ((w.alloc o).alloc (.cells #[x, y] t)).heap[w.heap.size + 1]? = some (.cells #[x, y] t (0, 0)) := by
  have := heap_alloc_new (w.alloc o) (.cells #[x, y] t); simpa using this
set_option maxHeartbeats 1000000 in
theorem asParity_any (n : Int) (v : Value) (zs : List Int) (w : World) (h : RI w v zs) :
    Calls Try.prog 53 #[.int .i64 n, v] w fun e w' => e = .returned (.tuple #[.agg #[.int .i64 (apN (prv n zs) n), apV (prv n zs) v], .bool (prv n zs)]) ∧ Below w.heap.size w w' := by
  obtain ⟨ao, cap, rfl⟩ := h.shape
  have hb : ∀ o o', Below w.heap.size w ((w.alloc o).alloc o') := fun o o' => by go_grown
  have g := h.below (hb (.cells #[.int .i64 0, .slice none 0 0] 27) (.cells #[.int .i64 n, .slice ao zs.length cap] 27))
  by_cases hc : prv n zs = true
  · rw [hc]
    go_enter Try.func53, Try.ntmps53
    go_wp2_with fail
    refine (implParity_any _ _ zs _ g).mono ?_
    rw [hc]
    rintro e w1 ⟨rfl, hb1⟩
    obtain ⟨r0, r1, q0, q1⟩ := blk2 (blk_next hb1 (blk_alloc (heap_alloc_new w (.cells #[.int .i64 0, .slice none 0 0] 27))))
    have k0 : w1.cell? ⟨w.heap.size + 1, 0, none⟩ = some (.int .i64 n) := cnext hb1 (by simp [go_sem])
    have k1 : w1.cell? ⟨w.heap.size + 1, 1, none⟩ = some (.slice ao zs.length cap) := cnext hb1 (by simp [go_sem])
    have hB : Below w.heap.size w w1 := bnext (hb _ _) hb1
    have hfB := below_box hB w.heap.size (Nat.le_refl _) (.int .i64 n) (.slice ao zs.length cap)
    go_wp2
    exact bodyPost_ret (v := .tuple #[.agg #[.int .i64 n, .slice ao zs.length cap], .bool true]) (by simp [results, Try.results53, go_sem, r0, r1]) rfl ⟨rfl, hfB⟩
  · have hc : prv n zs = false := by simpa using hc
    rw [hc]
    go_enter Try.func53, Try.ntmps53
    go_wp2_with fail
    refine (implParity_any _ _ zs _ g).mono ?_
    rw [hc]
    rintro e w1 ⟨rfl, hb1⟩
    obtain ⟨r0, r1, q0, q1⟩ := blk2 (blk_next hb1 (blk_alloc (heap_alloc_new w (.cells #[.int .i64 0, .slice none 0 0] 27))))
    have hB : Below w.heap.size w w1 := bnext (hb _ _) hb1
    have hfB := below_box hB w.heap.size (Nat.le_refl _) (.int .i64 0) (.slice none 0 0)
    go_wp2
    exact bodyPost_ret (v := .tuple #[.agg #[.int .i64 0, .slice none 0 0], .bool false]) (by simp [results, Try.results53, go_sem, r0, r1]) rfl ⟨rfl, hfB⟩
set_option maxHeartbeats 1000000 in
theorem l06Give_any (n : Int) (v : Value) (zs : List Int) (w : World) (h : RI w v zs) :
    Calls Try.prog 52 #[.agg #[.int .i64 n, v]] w fun e w' => e = .returned (.tuple #[.agg #[.int .i64 (apN (prv n zs) n), apV (prv n zs) v], .bool (prv n zs)]) ∧ Below w.heap.size w w' := by
  obtain ⟨ao, cap, rfl⟩ := h.shape
  have hb : ∀ o o', Below w.heap.size w ((w.alloc o).alloc o') := fun o o' => by go_grown
  have g := h.below (hb (.cells #[.int .i64 n, .slice ao zs.length cap] 27) (.cells #[.int .i64 0, .slice none 0 0] 27))
  by_cases hc : prv n zs = true
  · rw [hc]
    go_enter Try.func52, Try.ntmps52
    go_wp2_with fail
    refine (l06Is_any _ _ zs w.heap.size _ g (by simp [go_sem] <;> rfl) (by simp [go_sem] <;> rfl)).mono ?_
    rw [hc]
    rintro e w1 ⟨rfl, hb1⟩
    obtain ⟨r0, r1, q0, q1⟩ := blk2 (blk_next hb1 (box_second w _ _ _ _))
    have k0 : w1.cell? ⟨w.heap.size, 0, none⟩ = some (.int .i64 n) := cnext hb1 (by simp [go_sem])
    have k1 : w1.cell? ⟨w.heap.size, 1, none⟩ = some (.slice ao zs.length cap) := cnext hb1 (by simp [go_sem])
    have hB : Below w.heap.size w w1 := bnext (hb _ _) hb1
    have hfB := below_box hB (w.heap.size + 1) (by omega) (.int .i64 n) (.slice ao zs.length cap)
    go_wp2
    exact bodyPost_ret (v := .tuple #[.agg #[.int .i64 n, .slice ao zs.length cap], .bool true]) (by simp [results, Try.results52, go_sem, r0, r1]) rfl ⟨rfl, hfB⟩
  · have hc : prv n zs = false := by simpa using hc
    rw [hc]
    go_enter Try.func52, Try.ntmps52
    go_wp2_with fail
    refine (l06Is_any _ _ zs w.heap.size _ g (by simp [go_sem] <;> rfl) (by simp [go_sem] <;> rfl)).mono ?_
    rw [hc]
    rintro e w1 ⟨rfl, hb1⟩
    obtain ⟨r0, r1, q0, q1⟩ := blk2 (blk_next hb1 (box_second w _ _ _ _))
    have hB : Below w.heap.size w w1 := bnext (hb _ _) hb1
    have hfB := below_box hB (w.heap.size + 1) (by omega) (.int .i64 0) (.slice none 0 0)
    go_wp2
    exact bodyPost_ret (v := .tuple #[.agg #[.int .i64 0, .slice none 0 0], .bool false]) (by simp [results, Try.results52, go_sem, r0, r1]) rfl ⟨rfl, hfB⟩
def eoZ (n : Int) (zs : List Int) : List Int := if prv n zs = true then ofN (echR n.toNat (toN zs)) else []
def eoN (n : Int) (zs : List Int) : Int := if prv n zs = true then n else 0
theorem eoZ_len (n : Int) (zs : List Int) : (eoZ n zs).length ≤ 16777216 := by
  unfold eoZ; split
  · obtain ⟨m, rfl, _, _, _, h8, _⟩ := prv_parts ‹_›
    rw [ofN_len, echR_len, toN_len]; omega
  · simp
set_option maxHeartbeats 1000000 in
theorem implEchelon_any (n : Int) (v : Value) (zs : List Int) (w : World) (h : RI w v zs) :
    Calls Try.prog 29 #[.agg #[.int .i64 n, v]] w fun e w' => ∃ v', e = .returned (.tuple #[.agg #[.int .i64 (eoN n zs), v'], .bool (prv n zs)]) ∧ OI w.heap.size w' v' (eoZ n zs) ∧ Below w.heap.size w w' := by
  obtain ⟨ao, cap, rfl⟩ := h.shape
  have hb : ∀ o o', Below w.heap.size w ((w.alloc o).alloc o') := fun o o' => by go_grown
  have g := h.below (hb (.cells #[.int .i64 n, .slice ao zs.length cap] 27) (.cells #[.int .i64 0, .slice none 0 0] 27))
  by_cases hc : prv n zs = true
  · have HN := Lib.hid (show eoN n zs = n by simp [eoN, hc])
    have HZ := Lib.hid (show eoZ n zs = ofN (echR n.toNat (toN zs)) by simp [eoZ, hc])
    obtain ⟨m, rfl, hm1, hm2, hl1, hl8, hzs, hlt, hk⟩ := prv_parts hc
    rw [HN.out, HZ.out, hc]
    rw [Int.toNat_natCast]
    have hnn : ∀ z ∈ zs, 0 ≤ z := by rw [hzs]; intro z hz; obtain ⟨y, _, rfl⟩ := List.mem_map.1 hz; omega
    have Hnn := Lib.hid hnn
    have Hlt := Lib.hid hlt
    have Hzs := Lib.hid hzs
    have Ht := Lib.hid (toN_len zs)
    clear HN HZ hnn hlt hzs hk
    go_enter Try.func29, Try.ntmps29
    go_wp2_with fail
    refine (implParity_any _ _ zs _ g).mono ?_
    rw [hc]
    rintro e w1 ⟨rfl, hb1⟩
    have hr := blk_next hb1 (box_second w _ _ _ _)
    have k0 : w1.cell? ⟨w.heap.size, 0, none⟩ = some (.int .i64 m) := cnext hb1 (by simp [go_sem])
    have k1 : w1.cell? ⟨w.heap.size, 1, none⟩ = some (.slice ao zs.length cap) := cnext hb1 (by simp [go_sem])
    have hB : Below w.heap.size w w1 := bnext (hb _ _) hb1
    have gN := (h.below hB).2.toN Hnn.out
    have hlt0 : w.heap.size + 1 < w1.heap.size := blk_lt hr
    clear hc
    go_wp2_with fail
    refine (echelon_any _ (toN zs) m hm1 hm2 _ gN (by rw [Ht.out]; exact hl1) (by rw [Ht.out]; exact hl8) Hlt.out).mono ?_
    rintro e w2 ⟨v2, rfl, ho, hb2⟩
    obtain ⟨ao2, cap2, rfl⟩ := ho.rg.shape
    have hoi : OI w1.heap.size w2 (.slice ao2 (echR m (toN zs)).length cap2) (ofN (echR m (toN zs))) := ⟨ofN_i64 (echR_lt Hlt.out) (Nat.le_trans (Nat.pow_le_pow_right (by decide) hm2) (by decide)), ho.ofN⟩
    obtain ⟨r0, r1, q0, q1⟩ := blk2 (blk_next hb2 hr)
    have k0 := cnext hb2 k0
    have hBf := bnext hB hb2
    have hfin := OI.box hoi (w.heap.size + 1) (by omega) (.int .i64 m) (.slice ao2 (echR m (toN zs)).length cap2)
    have hfB := below_box hBf (w.heap.size + 1) (by omega) (.int .i64 m) (.slice ao2 (echR m (toN zs)).length cap2)
    have Hf := Lib.hid hfin
    have hs2 := hb2.size
    clear hoi hfin gN ho
    go_wp2
    exact bodyPost_ret (v := .tuple #[.agg #[.int .i64 m, .slice ao2 (echR m (toN zs)).length cap2], .bool true]) (by simp [results, Try.results29, go_sem, r0, r1]) rfl ⟨_, rfl, OI.mono (by omega) Hf.out, hfB⟩
  · have hc : prv n zs = false := by simpa using hc
    have HN := Lib.hid (show eoN n zs = 0 by simp [eoN, hc])
    have HZ := Lib.hid (show eoZ n zs = [] by simp [eoZ, hc])
    rw [HN.out, HZ.out, hc]
    go_enter Try.func29, Try.ntmps29
    go_wp2_with fail
    refine (implParity_any _ _ zs _ g).mono ?_
    rw [hc]
    rintro e w1 ⟨rfl, hb1⟩
    obtain ⟨r0, r1, q0, q1⟩ := blk2 (blk_next hb1 (box_second w _ _ _ _))
    have hB : Below w.heap.size w w1 := bnext (hb _ _) hb1
    have hfB := below_box hB (w.heap.size + 1) (by omega) (.int .i64 0) (.slice none 0 0)
    go_wp2
    exact bodyPost_ret (v := .tuple #[.agg #[.int .i64 0, .slice none 0 0], .bool false]) (by simp [results, Try.results29, go_sem, r0, r1]) rfl ⟨_, rfl, OI.nil _ _, hfB⟩
set_option maxHeartbeats 1000000 in
theorem specEchelon_any (n : Int) (v : Value) (zs : List Int) (w : World) (h : RI w v zs) :
    Calls Try.prog 28 #[.agg #[.int .i64 n, v]] w fun e w' => ∃ v', e = .returned (.tuple #[.agg #[.int .i64 (eoN n zs), v'], .bool (prv n zs)]) ∧ OI w.heap.size w' v' (eoZ n zs) ∧ Below w.heap.size w w' := by
  obtain ⟨ao, cap, rfl⟩ := h.shape
  have hb : ∀ o o', Below w.heap.size w ((w.alloc o).alloc o') := fun o o' => by go_grown
  have g := h.below (hb (.cells #[.int .i64 n, .slice ao zs.length cap] 27) (.cells #[.int .i64 0, .slice none 0 0] 27))
  by_cases hc : prv n zs = true
  · have HN := Lib.hid (show eoN n zs = n by simp [eoN, hc])
    have HZ := Lib.hid (show eoZ n zs = ofN (echR n.toNat (toN zs)) by simp [eoZ, hc])
    obtain ⟨m, rfl, hm1, hm2, hl1, hl8, hzs, hlt, hk⟩ := prv_parts hc
    rw [HN.out, HZ.out, hc]
    rw [Int.toNat_natCast]
    have hnn : ∀ z ∈ zs, 0 ≤ z := by rw [hzs]; intro z hz; obtain ⟨y, _, rfl⟩ := List.mem_map.1 hz; omega
    have Hnn := Lib.hid hnn
    have Hlt := Lib.hid hlt
    have Hzs := Lib.hid hzs
    have Ht := Lib.hid (toN_len zs)
    clear HN HZ hnn hlt hzs hk
    go_enter Try.func28, Try.ntmps28
    go_wp2_with fail
    refine (l06Is_any _ _ zs w.heap.size _ g (by simp [go_sem] <;> rfl) (by simp [go_sem] <;> rfl)).mono ?_
    rw [hc]
    rintro e w1 ⟨rfl, hb1⟩
    have hr := blk_next hb1 (box_second w _ _ _ _)
    have k0 : w1.cell? ⟨w.heap.size, 0, none⟩ = some (.int .i64 m) := cnext hb1 (by simp [go_sem])
    have k1 : w1.cell? ⟨w.heap.size, 1, none⟩ = some (.slice ao zs.length cap) := cnext hb1 (by simp [go_sem])
    have hB : Below w.heap.size w w1 := bnext (hb _ _) hb1
    have gN := (h.below hB).2.toN Hnn.out
    have hlt0 : w.heap.size + 1 < w1.heap.size := blk_lt hr
    clear hc
    go_wp2_with fail
    refine (l06Steps_any _ (toN zs) m hm1 hm2 _ gN (by rw [Ht.out]; exact hl1) (by rw [Ht.out]; exact hl8) Hlt.out).mono ?_
    rintro e w2 ⟨v2, rfl, ho, hb2⟩
    obtain ⟨ao2, cap2, rfl⟩ := ho.rg.shape
    have hoi : OI w1.heap.size w2 (.slice ao2 (echR m (toN zs)).length cap2) (ofN (echR m (toN zs))) := ⟨ofN_i64 (echR_lt Hlt.out) (Nat.le_trans (Nat.pow_le_pow_right (by decide) hm2) (by decide)), ho.ofN⟩
    obtain ⟨r0, r1, q0, q1⟩ := blk2 (blk_next hb2 hr)
    have k0 := cnext hb2 k0
    have hBf := bnext hB hb2
    have hfin := OI.box hoi (w.heap.size + 1) (by omega) (.int .i64 m) (.slice ao2 (echR m (toN zs)).length cap2)
    have hfB := below_box hBf (w.heap.size + 1) (by omega) (.int .i64 m) (.slice ao2 (echR m (toN zs)).length cap2)
    have Hf := Lib.hid hfin
    have hs2 := hb2.size
    clear hoi hfin gN ho
    go_wp2
    exact bodyPost_ret (v := .tuple #[.agg #[.int .i64 m, .slice ao2 (echR m (toN zs)).length cap2], .bool true]) (by simp [results, Try.results28, go_sem, r0, r1]) rfl ⟨_, rfl, OI.mono (by omega) Hf.out, hfB⟩
  · have hc : prv n zs = false := by simpa using hc
    have HN := Lib.hid (show eoN n zs = 0 by simp [eoN, hc])
    have HZ := Lib.hid (show eoZ n zs = [] by simp [eoZ, hc])
    rw [HN.out, HZ.out, hc]
    go_enter Try.func28, Try.ntmps28
    go_wp2_with fail
    refine (l06Is_any _ _ zs w.heap.size _ g (by simp [go_sem] <;> rfl) (by simp [go_sem] <;> rfl)).mono ?_
    rw [hc]
    rintro e w1 ⟨rfl, hb1⟩
    obtain ⟨r0, r1, q0, q1⟩ := blk2 (blk_next hb1 (box_second w _ _ _ _))
    have hB : Below w.heap.size w w1 := bnext (hb _ _) hb1
    have hfB := below_box hB (w.heap.size + 1) (by omega) (.int .i64 0) (.slice none 0 0)
    go_wp2
    exact bodyPost_ret (v := .tuple #[.agg #[.int .i64 0, .slice none 0 0], .bool false]) (by simp [results, Try.results28, go_sem, r0, r1]) rfl ⟨_, rfl, OI.nil _ _, hfB⟩
end Go.Proofs.Ytecddfaleapggaa
