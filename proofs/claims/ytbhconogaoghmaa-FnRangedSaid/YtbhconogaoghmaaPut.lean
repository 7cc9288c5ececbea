/- HalveCounts and PutCount: what both packages return. No conditions but that the slices read. -/
import Derived.Test.YtbhconogaoghmaaCounts
import Derived.Test.YtbhconogaoghmaaClone
import Derived.Test.YtbhconogaoghmaaCountsOf
import Derived.BigRegion
namespace Go.Proofs.Ytbhconogaoghmaa
open Go.RowKit
set_option maxRecDepth 100000
set_option linter.unusedVariables false
set_option linter.unusedSimpArgs false

def halve (zs : List Int) : List Int := zs.map fun x => (x + 1) / 2
def haN (n : Int) (zs : List Int) : Int := if cts n zs = true then n else 0
def haZ (n : Int) (zs : List Int) : List Int := if cts n zs = true then halve zs else []
theorem haZ_len (n : Int) (zs : List Int) : (haZ n zs).length ≤ 16777216 := by
  unfold haZ; split
  · have := cts_parts ‹_›; simp [halve]; omega
  · simp
theorem sumL_halve (zs : List Int) (h : ∀ z ∈ zs, 1 ≤ z) : sumL (halve zs) ≤ sumL zs := by
  induction zs with
  | nil => simp [halve, sumL]
  | cons z zs ih =>
    have h1 := h z (by simp)
    have h2 := ih fun y hy => h y (List.mem_cons_of_mem _ hy)
    simp only [halve, List.map_cons, sumL] at h2 ⊢
    omega
theorem cts_mk {n : Int} {zs : List Int} (h1 : 2 ≤ n) (h2 : n ≤ 16) (h3 : (zs.length : Int) = n) (h4 : ∀ z ∈ zs, 1 ≤ z ∧ z ≤ 16384) (h5 : sumL zs ≤ 16384) : cts n zs = true := by
  simp only [cts, sgn, inB, Bool.and_eq_true, decide_eq_true_eq, beq_iff_eq]
  exact ⟨⟨h1, h2⟩, h3, (allIn_iff _ _ _).2 h4, h5⟩
theorem cts_halve {n : Int} {zs : List Int} (h : cts n zs = true) : cts n (halve zs) = true := by
  obtain ⟨h1, h2, h3, h4, h5⟩ := cts_parts h
  refine cts_mk h1 h2 (by simpa [halve] using h3) (fun z hz => ?_) (by have := sumL_halve zs fun z hz => (h4 z hz).1; omega)
  obtain ⟨y, hy, rfl⟩ := List.mem_map.1 hz
  have := h4 y hy; omega

set_option maxHeartbeats 1000000 in
theorem asCounts_yes (v : Value) (zs : List Int) (w : World) (h : RI w v zs) (hl : zs.length ≤ 1048576) (hc : cts zs.length zs = true) :
    Calls Try.prog 44 #[v] w fun e w' => e = .returned (.tuple #[.agg #[.int .i64 zs.length, v], .bool true]) ∧ Below w.heap.size w w' := by
  obtain ⟨ao, cap, rfl⟩ := h.shape
  have hb : ∀ o o', Below w.heap.size w ((w.alloc o).alloc o') := fun o o' => by go_grown
  have g := h.below (hb (.cells #[.int .i64 0, .slice none 0 0] 27) (.cells #[.int .i64 zs.length, .slice ao zs.length cap] 27))
  go_enter Try.func44, Try.ntmps44
  go_wp2_with fail
  refine (implCounts_any _ _ zs _ g).mono ?_
  rw [hc]
  rintro e w1 ⟨rfl, hb1⟩
  obtain ⟨r0, r1, q0, q1⟩ := blk2 (blk_next hb1 (blk_alloc (heap_alloc_new w (.cells #[.int .i64 0, .slice none 0 0] 27))))
  have k0 : w1.cell? ⟨w.heap.size + 1, 0, none⟩ = some (.int .i64 zs.length) := cnext hb1 (by simp [go_sem])
  have k1 : w1.cell? ⟨w.heap.size + 1, 1, none⟩ = some (.slice ao zs.length cap) := cnext hb1 (by simp [go_sem])
  have hB : Below w.heap.size w w1 := bnext (hb _ _) hb1
  have hfB := below_box hB w.heap.size (Nat.le_refl _) (.int .i64 zs.length) (.slice ao zs.length cap)
  go_wp2
  exact bodyPost_ret (v := .tuple #[.agg #[.int .i64 zs.length, .slice ao zs.length cap], .bool true]) (by simp [results, Try.results44, go_sem, r0, r1]) rfl ⟨rfl, hfB⟩
set_option maxHeartbeats 1000000 in
theorem asCounts_no (v : Value) (zs : List Int) (w : World) (h : RI w v zs) (hl : zs.length ≤ 1048576) (hc : cts zs.length zs = false) :
    Calls Try.prog 44 #[v] w fun e w' => e = .returned (.tuple #[.agg #[.int .i64 0, .slice none 0 0], .bool false]) ∧ Below w.heap.size w w' := by
  obtain ⟨ao, cap, rfl⟩ := h.shape
  have hb : ∀ o o', Below w.heap.size w ((w.alloc o).alloc o') := fun o o' => by go_grown
  have g := h.below (hb (.cells #[.int .i64 0, .slice none 0 0] 27) (.cells #[.int .i64 zs.length, .slice ao zs.length cap] 27))
  go_enter Try.func44, Try.ntmps44
  go_wp2_with fail
  refine (implCounts_any _ _ zs _ g).mono ?_
  rw [hc]
  rintro e w1 ⟨rfl, hb1⟩
  obtain ⟨r0, r1, q0, q1⟩ := blk2 (blk_next hb1 (blk_alloc (heap_alloc_new w (.cells #[.int .i64 0, .slice none 0 0] 27))))
  have hB : Below w.heap.size w w1 := bnext (hb _ _) hb1
  have hfB := below_box hB w.heap.size (Nat.le_refl _) (.int .i64 0) (.slice none 0 0)
  go_wp2
  exact bodyPost_ret (v := .tuple #[.agg #[.int .i64 0, .slice none 0 0], .bool false]) (by simp [results, Try.results44, go_sem, r0, r1]) rfl ⟨rfl, hfB⟩
theorem halve_take {zs : List Int} {k : Nat} (h : k < zs.length) : halve (zs.take k) ++ [(zs[k] + 1) / 2] = halve (zs.take (k + 1)) := by
  unfold halve; rw [List.take_succ_eq_append_getElem h, List.map_append]; rfl
theorem halve_i64 {zs : List Int} (h : ∀ z ∈ zs, 1 ≤ z ∧ z ≤ 16384) : AllI64 (halve zs) := by
  intro z hz; obtain ⟨y, hy, rfl⟩ := List.mem_map.1 hz; have := h y hy; constructor <;> omega
set_option maxHeartbeats 1000000 in
theorem implHalve_any (n : Int) (v : Value) (zs : List Int) (w : World) (h : RI w v zs) :
    Calls Try.prog 23 #[.agg #[.int .i64 n, v]] w fun e w' => ∃ v', e = .returned (.tuple #[.agg #[.int .i64 (haN n zs), v'], .bool (cts n zs)]) ∧ OI w.heap.size w' v' (haZ n zs) ∧ Below w.heap.size w w' := by
  obtain ⟨ao, cap, rfl⟩ := h.shape
  have hlen := h.len
  have hb : ∀ o o', Below w.heap.size w ((w.alloc o).alloc o') := fun o o' => by go_grown
  have g := h.below (hb (.cells #[.int .i64 n, .slice ao zs.length cap] 27) (.cells #[.int .i64 0, .slice none 0 0] 27))
  by_cases hc : cts n zs = true
  · have hN := Lib.hid (show haN n zs = n by simp [haN, hc])
    have hZ := Lib.hid (show haZ n zs = halve zs by simp [haZ, hc])
    obtain ⟨hn1, hn2, hln, hz, hs⟩ := cts_parts hc
    have hl16 : zs.length ≤ 16 := by omega
    have hch := cts_halve hc
    have hhl : (halve zs).length = zs.length := by simp [halve]
    rw [hN.out, hZ.out]
    have Hc := Lib.hid hc
    have Hln := Lib.hid hln
    have Hch := Lib.hid hch
    have Hhl := Lib.hid hhl
    clear hN hZ hc hln hch hhl
    go_enter Try.func23, Try.ntmps23
    go_wp2_with fail
    refine (implCounts_any _ _ zs _ g).mono ?_
    rw [Hc.out]
    rintro e w1 ⟨rfl, hb1⟩
    have hr := blk_next hb1 (show ((w.alloc (.cells #[.int .i64 n, .slice ao zs.length cap] 27)).alloc (.cells #[.int .i64 0, .slice none 0 0] 27)).heap[w.heap.size + 1]? = some _ by
      have := heap_alloc_new (w.alloc (.cells #[.int .i64 n, .slice ao zs.length cap] 27)) (.cells #[.int .i64 0, .slice none 0 0] 27); simpa using this)
    have hlt := blk_lt hr
    have hlt0 : w.heap.size < w1.heap.size := by omega
    have k0 : w1.cell? ⟨w.heap.size, 0, none⟩ = some (.int .i64 n) := cnext hb1 (by simp [go_sem])
    have k1 : w1.cell? ⟨w.heap.size, 1, none⟩ = some (.slice ao zs.length cap) := cnext hb1 (by simp [go_sem])
    have hB : Below w.heap.size w w1 := bnext (hb _ _) hb1
    have g1 := h.below hB
    clear hb1 g h
    obtain ⟨_, ao_, cap_, e_, _, _, h3⟩ := id g1
    simp only [Value.slice.injEq, true_and] at e_
    obtain ⟨rfl, rfl⟩ := e_
    go_wp2
    go_loopw [4, 15] (fun lv i wr => ∃ k : Nat, k ≤ zs.length ∧ i = .int .i64 k ∧ OwnI w1.heap.size wr lv (halve (zs.take k)) ∧ Below w1.heap.size w1 wr) (fun _ i _ => zs.length - (intOf i).toNat)
    case atStart => exact ⟨0, Nat.zero_le _, rfl, own_empty w1 _ (Nat.le_refl _), (Below.refl _ _).alloc (Nat.le_refl _) _⟩
    case round =>
      clear k0 k1
      obtain ⟨k, hk, rfl, hown, hB1⟩ := hrel
      by_cases hkl : k < zs.length
      · obtain ⟨b, off, rfl, hcell⟩ := h3 k hkl
        have hcell' : wr.cell? ⟨b, off + k, none⟩ = some (.int .i64 zs[k]) := cnext hB1 hcell
        have Ht := Lib.hid (halve_take hkl)
        have hzk := hz zs[k] (List.getElem_mem hkl)
        have hlk : (halve (zs.take k)).length ≤ 16 := by simp [halve]; omega
        have hs1 := hB1.size
        clear hcell h3 hz g1
        generalize zs[k] = z at hcell' Ht hzk
        obtain ⟨hz0, hz1⟩ := hzk
        obtain ⟨ao2, cap2, rfl⟩ := hown.shape
        go_wp2_with (at_builtin; go_must (refine app_ints rfl _ _ rfl w1.heap.size w1.heap.size (Nat.le_refl _) (.slice ao2 (halve (zs.take k)).length cap2) (halve (zs.take k)) rfl hown hB1 _ _ [(z + 1) / 2] rfl rfl (by simp; omega) (by omega) ?_))
        intro v1 w2 hown1 hB2 hg2
        rw [Ht.out] at hown1
        clear hg2 hown
        go_wp2
        go_roundw
        case rel => exact ⟨k + 1, by omega, by go_num, hown1, hB2⟩
        case measure => simp [intOf]; omega
      · have hok := hown.oi (by rw [List.take_of_length_le (by omega)]; exact halve_i64 hz)
        rw [List.take_of_length_le (by omega)] at hok
        clear h3 hown
        obtain ⟨ao2, cap2, rfl⟩ := hok.shape
        have hr1 := blk_next hB1 hr
        go_wp2_with fail
        refine (asCounts_yes _ (halve zs) _ hok.ri (by rw [Hhl.out]; omega) (by rw [Hhl.out, Hln.out]; exact Hch.out)).mono ?_
        rintro e w3 ⟨rfl, hb3⟩
        obtain ⟨r0, r1, q0, q1⟩ := blk2 (blk_next hb3 hr1)
        have hok3 := hok.below hb3
        have hBf : Below w.heap.size w w3 := (hB.trans (hB1.mono hB.size)).trans (hb3.mono (by have := hB.size; have := hB1.size; omega))
        have hfin := OI.box hok3 (w.heap.size + 1) (by omega) (.int .i64 (halve zs).length) (.slice ao2 (halve zs).length cap2)
        have hfB := below_box hBf (w.heap.size + 1) (by omega) (.int .i64 (halve zs).length) (.slice ao2 (halve zs).length cap2)
        have Hf := Lib.hid hfin
        clear hok hok3 hfin
        go_wp2
        refine bodyPost_ret (v := .tuple #[.agg #[.int .i64 (halve zs).length, .slice ao2 (halve zs).length cap2], .bool true]) (by simp [results, Try.results23, go_sem, r0, r1]) rfl ⟨_, by rw [Hhl.out, Hln.out, Hc.out], OI.mono (by have := hB.size; omega) Hf.out, hfB⟩
  · have hc : cts n zs = false := by simpa using hc
    have hN := Lib.hid (show haN n zs = 0 by simp [haN, hc])
    have hZ := Lib.hid (show haZ n zs = [] by simp [haZ, hc])
    rw [hN.out, hZ.out, hc]
    clear hN hZ
    go_enter Try.func23, Try.ntmps23
    go_wp2_with fail
    refine (implCounts_any _ _ zs _ g).mono ?_
    rw [hc]
    rintro e w1 ⟨rfl, hb1⟩
    have hr := blk_next hb1 (show ((w.alloc (.cells #[.int .i64 n, .slice ao zs.length cap] 27)).alloc (.cells #[.int .i64 0, .slice none 0 0] 27)).heap[w.heap.size + 1]? = some _ by
      have := heap_alloc_new (w.alloc (.cells #[.int .i64 n, .slice ao zs.length cap] 27)) (.cells #[.int .i64 0, .slice none 0 0] 27); simpa using this)
    obtain ⟨r0, r1, q0, q1⟩ := blk2 hr
    have hB : Below w.heap.size w w1 := bnext (hb _ _) hb1
    have hfB := below_box hB (w.heap.size + 1) (by omega) (.int .i64 0) (.slice none 0 0)
    go_wp2
    exact bodyPost_ret (v := .tuple #[.agg #[.int .i64 0, .slice none 0 0], .bool false]) (by simp [results, Try.results23, go_sem, r0, r1]) rfl ⟨_, rfl, OI.nil _ _, hfB⟩
def puOk (n : Int) (zs : List Int) (l b : Int) : Bool := cts n zs && (inB l 0 (n - 1) && (inB b 0 16384 && cts n (bump zs l.toNat b)))
def puN (n : Int) (zs : List Int) (l b : Int) : Int := if puOk n zs l b = true then n else 0
def puZ (n : Int) (zs : List Int) (l b : Int) : List Int := if puOk n zs l b = true then bump zs l.toNat b else []
theorem puZ_len (n : Int) (zs : List Int) (l b : Int) : (puZ n zs l b).length ≤ 16777216 := by
  unfold puZ; split
  · have h : puOk n zs l b = true := by assumption
    simp only [puOk, Bool.and_eq_true] at h
    have := cts_parts h.1; rw [bump_len]; omega
  · simp
/-- The cells of a new box, the one behind another. -/
theorem box_second (w : World) (o : Obj) (x y : Value) (t : TypeId) : ((w.alloc o).alloc (.cells #[x, y] t)).heap[w.heap.size + 1]? = some (.cells #[x, y] t (0, 0)) := by
  have := heap_alloc_new (w.alloc o) (.cells #[x, y] t); simpa using this
set_option maxHeartbeats 1000000 in
theorem implPut_any (n : Int) (v : Value) (zs : List Int) (l b : Int) (w : World) (h : RI w v zs) :
    Calls Try.prog 22 #[.agg #[.int .i64 n, v], .int .i64 l, .int .i64 b] w fun e w' => ∃ v', e = .returned (.tuple #[.agg #[.int .i64 (puN n zs l b), v'], .bool (puOk n zs l b)]) ∧ OI w.heap.size w' v' (puZ n zs l b) ∧ Below w.heap.size w w' := by
  obtain ⟨ao, cap, rfl⟩ := h.shape
  have hlen := h.len
  have hb : ∀ o o', Below w.heap.size w ((w.alloc o).alloc o') := fun o o' => by go_grown
  have g := h.below (hb (.cells #[.int .i64 n, .slice ao zs.length cap] 27) (.cells #[.int .i64 0, .slice none 0 0] 27))
  by_cases hc : cts n zs = true
  · obtain ⟨hn1, hn2, hln, hz, hs⟩ := cts_parts hc
    by_cases hl : inB l 0 (n - 1) = true
    · have hl' := inB_eq hl
      simp only [if_true] at hl'
      obtain ⟨hl0, hl1⟩ := hl'
      obtain ⟨j, rfl⟩ := Int.eq_ofNat_of_zero_le hl0
      by_cases hby : inB b 0 16384 = true
      · have hb' := inB_eq hby
        simp only [if_true] at hb'
        obtain ⟨hb0, hb1'⟩ := hb'
        have hj : j < zs.length := by omega
        have hl16 : zs.length ≤ 16 := by omega
        have hzj := hz zs[j] (List.getElem_mem hj)
        have hbump : zs.set j (zs[j] + b) = bump zs j b := by simp [bump, hj]
        have hbi : AllI64 (bump zs j b) := by
          intro z hz'; rw [← hbump] at hz'
          rcases List.mem_or_eq_of_mem_set hz' with hz' | rfl
          · have := hz z hz'; constructor <;> omega
          · constructor <;> omega
        have Hc := Lib.hid hc
        have Hl := Lib.hid hl
        have Hby := Lib.hid hby
        have Hln := Lib.hid hln
        have Hbump := Lib.hid hbump
        have Hbi := Lib.hid hbi
        have Hz := Lib.hid hz
        have Hbl := Lib.hid (bump_len zs j b)
        have hjl : (j : Int) < (zs.length : Int) := by omega
        clear hc hl hby hln hbump hbi hz hs
        generalize hx : zs[j] = x at *
        have Hx := Lib.hid hx
        clear hx
        go_enter Try.func22, Try.ntmps22
        go_wp2_with fail
        refine (implCounts_any _ _ zs _ g).mono ?_
        rw [Hc.out]
        rintro e w1 ⟨rfl, hb1⟩
        have hr := blk_next hb1 (box_second w _ _ _ _)
        have hlt := blk_lt hr
        have hlt0 : w.heap.size < w1.heap.size := by omega
        have k0 : w1.cell? ⟨w.heap.size, 0, none⟩ = some (.int .i64 n) := cnext hb1 (by simp [go_sem])
        have k1 : w1.cell? ⟨w.heap.size, 1, none⟩ = some (.slice ao zs.length cap) := cnext hb1 (by simp [go_sem])
        have hB : Below w.heap.size w w1 := bnext (hb _ _) hb1
        have g1 := h.below hB
        clear hb1 g h
        go_wp2_with (go_at_call 30; refine (within_any _ _ _ _).mono ?_; (first | rw [Hl.out] | rw [Hby.out]); rintro e w' ⟨rfl, rfl⟩)
        refine (clone_any _ zs _ g1 (by omega)).mono ?_
        rintro e w2 ⟨v2, rfl, ho, hb2⟩
        obtain ⟨_, ao2_, cap2_, e2_, _, _, hblk2, h32⟩ := id ho
        obtain ⟨g2, off2, e3, hcj, hfj⟩ := h32 j hj
        subst e3
        subst e2_
        rw [Hx.out] at hcj
        have hst := ho.2.stored j hj g2 off2 cap2_ _ rfl (x + b)
        have hg2 := (hblk2 _ rfl).1
        have hr2 := blk_other (p := ⟨g2, off2 + j, none⟩) (u := .int .i64 (x + b)) (by simp at hg2 ⊢; omega) (blk_next hb2 hr)
        have hB2 : Below w.heap.size w (w2.setCell ⟨g2, off2 + j, none⟩ (.int .i64 (x + b))) := (bnext hB hb2).setCell (p := ⟨g2, off2 + j, none⟩) (by simp at hg2 ⊢; omega) _
        have hxx := Hx.out
        have hob : OI w1.heap.size (w2.setCell ⟨g2, off2 + j, none⟩ (.int .i64 (x + b))) (.slice (some ⟨g2, off2, none⟩) (bump zs j b).length cap2_) (bump zs j b) := by
          rw [Hbl.out]; refine ⟨Hbi.out, ?_⟩; rw [← Hbump.out]; exact hst.1
        clear hst h32 hblk2 ho hxx
        rw [Hbl.out] at hob
        go_wp2_with fail
        by_cases hcb : cts n (bump zs j b) = true
        · have hpo : puOk n zs j b = true := by simp [puOk, Hc.out, Hl.out, Hby.out, hcb]
          have hN : puN n zs j b = n := by simp [puN, hpo]
          have hZ : puZ n zs j b = bump zs j b := by simp [puZ, hpo]
          have Hpo := Lib.hid hpo
          have HN := Lib.hid hN
          have HZ := Lib.hid hZ
          have hc2 : cts (bump zs j b).length (bump zs j b) = true := by rw [Hbl.out, Hln.out]; exact hcb
          have hri := hob.ri
          rw [← Hbl.out] at hri
          have e1 : (Value.slice (some ⟨g2, off2, none⟩) zs.length cap2_) = .slice (some ⟨g2, off2, none⟩) (bump zs j b).length cap2_ := by rw [Hbl.out]
          rw [e1]
          refine (asCounts_yes _ (bump zs j b) _ hri (by rw [Hbl.out]; omega) hc2).mono ?_
          rintro e w3 ⟨rfl, hb3⟩
          obtain ⟨r0, r1, q0, q1⟩ := blk2 (blk_next hb3 hr2)
          have hok3 := hob.below hb3
          rw [← Hbl.out] at hok3
          have hBf : Below w.heap.size w w3 := bnext hB2 hb3
          have hfin := OI.box hok3 (w.heap.size + 1) (by omega) (.int .i64 (bump zs j b).length) (.slice (some ⟨g2, off2, none⟩) (bump zs j b).length cap2_)
          have hfB := below_box hBf (w.heap.size + 1) (by omega) (.int .i64 (bump zs j b).length) (.slice (some ⟨g2, off2, none⟩) (bump zs j b).length cap2_)
          have Hf := Lib.hid hfin
          clear hok3 hfin hob hri hpo hN hZ hc2 hcb e1
          go_wp2
          refine bodyPost_ret (v := .tuple #[.agg #[.int .i64 (bump zs j b).length, .slice (some ⟨g2, off2, none⟩) (bump zs j b).length cap2_], .bool true]) (by simp [results, Try.results22, go_sem, r0, r1]) rfl ⟨.slice (some ⟨g2, off2, none⟩) (bump zs j b).length cap2_, by rw [Hpo.out, HN.out, Hbl.out, Hln.out], by rw [HZ.out]; exact OI.mono hB.size Hf.out, hfB⟩
        · have hcb : cts n (bump zs j b) = false := by simpa using hcb
          have Hpo := Lib.hid (show puOk n zs j b = false by simp [puOk, hcb])
          have HN := Lib.hid (show puN n zs j b = 0 by simp [puN, Hpo.out])
          have HZ := Lib.hid (show puZ n zs j b = [] by simp [puZ, Hpo.out])
          have hc2 : cts (bump zs j b).length (bump zs j b) = false := by rw [Hbl.out, Hln.out]; exact hcb
          have hri := hob.ri
          rw [← Hbl.out] at hri
          have e1 : (Value.slice (some ⟨g2, off2, none⟩) zs.length cap2_) = .slice (some ⟨g2, off2, none⟩) (bump zs j b).length cap2_ := by rw [Hbl.out]
          rw [e1]
          refine (asCounts_no _ (bump zs j b) _ hri (by rw [Hbl.out]; omega) hc2).mono ?_
          rintro e w3 ⟨rfl, hb3⟩
          obtain ⟨r0, r1, q0, q1⟩ := blk2 (blk_next hb3 hr2)
          have hBf : Below w.heap.size w w3 := bnext hB2 hb3
          have hfB := below_box hBf (w.heap.size + 1) (by omega) (.int .i64 0) (.slice none 0 0)
          clear hob hri hc2 hcb e1
          go_wp2
          refine bodyPost_ret (v := .tuple #[.agg #[.int .i64 0, .slice none 0 0], .bool false]) (by simp [results, Try.results22, go_sem, r0, r1]) rfl ⟨_, by rw [Hpo.out, HN.out], by rw [HZ.out]; exact OI.nil _ _, hfB⟩
      · have hby : inB b 0 16384 = false := by simpa using hby
        have Hpo := Lib.hid (show puOk n zs j b = false by simp [puOk, hby])
        have HN := Lib.hid (show puN n zs j b = 0 by simp [puN, Hpo.out])
        have HZ := Lib.hid (show puZ n zs j b = [] by simp [puZ, Hpo.out])
        have Hc := Lib.hid hc
        have Hl := Lib.hid hl
        have Hby := Lib.hid hby
        clear hc hl hby hz hln
        go_enter Try.func22, Try.ntmps22
        go_wp2_with fail
        refine (implCounts_any _ _ zs _ g).mono ?_
        rw [Hc.out]
        rintro e w1 ⟨rfl, hb1⟩
        obtain ⟨r0, r1, q0, q1⟩ := blk2 (blk_next hb1 (box_second w _ _ _ _))
        have k0 : w1.cell? ⟨w.heap.size, 0, none⟩ = some (.int .i64 n) := cnext hb1 (by simp [go_sem])
        have hB : Below w.heap.size w w1 := bnext (hb _ _) hb1
        have hfB := below_box hB (w.heap.size + 1) (by omega) (.int .i64 0) (.slice none 0 0)
        clear hb1 g h
        go_wp2_with (go_at_call 30; refine (within_any _ _ _ _).mono ?_; (first | rw [Hl.out] | rw [Hby.out]); rintro e w' ⟨rfl, rfl⟩)
        refine bodyPost_ret (v := .tuple #[.agg #[.int .i64 0, .slice none 0 0], .bool false]) (by simp [results, Try.results22, go_sem, r0, r1]) rfl ⟨_, by rw [Hpo.out, HN.out], by rw [HZ.out]; exact OI.nil _ _, hfB⟩
    · have hl : inB l 0 (n - 1) = false := by simpa using hl
      have Hpo := Lib.hid (show puOk n zs l b = false by simp [puOk, hl])
      have HN := Lib.hid (show puN n zs l b = 0 by simp [puN, Hpo.out])
      have HZ := Lib.hid (show puZ n zs l b = [] by simp [puZ, Hpo.out])
      have Hc := Lib.hid hc
      have Hl := Lib.hid hl
      clear hc hl hz hln
      go_enter Try.func22, Try.ntmps22
      go_wp2_with fail
      refine (implCounts_any _ _ zs _ g).mono ?_
      rw [Hc.out]
      rintro e w1 ⟨rfl, hb1⟩
      obtain ⟨r0, r1, q0, q1⟩ := blk2 (blk_next hb1 (box_second w _ _ _ _))
      have k0 : w1.cell? ⟨w.heap.size, 0, none⟩ = some (.int .i64 n) := cnext hb1 (by simp [go_sem])
      have hB : Below w.heap.size w w1 := bnext (hb _ _) hb1
      have hfB := below_box hB (w.heap.size + 1) (by omega) (.int .i64 0) (.slice none 0 0)
      clear hb1 g h
      go_wp2_with (go_at_call 30; refine (within_any _ _ _ _).mono ?_; rw [Hl.out]; rintro e w' ⟨rfl, rfl⟩)
      refine bodyPost_ret (v := .tuple #[.agg #[.int .i64 0, .slice none 0 0], .bool false]) (by simp [results, Try.results22, go_sem, r0, r1]) rfl ⟨_, by rw [Hpo.out, HN.out], by rw [HZ.out]; exact OI.nil _ _, hfB⟩
  · have hc : cts n zs = false := by simpa using hc
    have Hpo := Lib.hid (show puOk n zs l b = false by simp [puOk, hc])
    have HN := Lib.hid (show puN n zs l b = 0 by simp [puN, Hpo.out])
    have HZ := Lib.hid (show puZ n zs l b = [] by simp [puZ, Hpo.out])
    have Hc := Lib.hid hc
    clear hc
    go_enter Try.func22, Try.ntmps22
    go_wp2_with fail
    refine (implCounts_any _ _ zs _ g).mono ?_
    rw [Hc.out]
    rintro e w1 ⟨rfl, hb1⟩
    obtain ⟨r0, r1, q0, q1⟩ := blk2 (blk_next hb1 (box_second w _ _ _ _))
    have hB : Below w.heap.size w w1 := bnext (hb _ _) hb1
    have hfB := below_box hB (w.heap.size + 1) (by omega) (.int .i64 0) (.slice none 0 0)
    clear hb1 g h
    go_wp2
    refine bodyPost_ret (v := .tuple #[.agg #[.int .i64 0, .slice none 0 0], .bool false]) (by simp [results, Try.results22, go_sem, r0, r1]) rfl ⟨_, by rw [Hpo.out, HN.out], by rw [HZ.out]; exact OI.nil _ _, hfB⟩
end Go.Proofs.Ytbhconogaoghmaa
