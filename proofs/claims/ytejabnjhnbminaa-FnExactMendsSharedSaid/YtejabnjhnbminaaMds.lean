/- MendsShared: what both packages return. No conditions but that the slices read. -/
import Derived.Test.YtejabnjhnbminaaMend
namespace Go.Proofs.Ytejabnjhnbminaa
open Go.RowKit
set_option maxRecDepth 100000
set_option linter.unusedVariables false
set_option linter.unusedSimpArgs false

def mdOk (n : Int) (zs ws : List Int) (k : Int) : Bool := duOk n zs && decide (ws.length ≤ 64) && allIn ws 0 (2 ^ n.toNat - 1) && inB k 1 8
def mdW (n : Int) (zs : List Int) (x : Int) : Int := ((x.toNat ^^^ mwY n zs x.toNat : Nat) : Int)
def mdZ (n : Int) (zs ws : List Int) (k : Int) : List Int := if mdOk n zs ws k = true then ws.map (mdW n zs) else []
theorem mdZ_len (n : Int) (zs ws : List Int) (k : Int) : (mdZ n zs ws k).length ≤ 16777216 := by
  unfold mdZ; split
  · have h : mdOk n zs ws k = true := by assumption
    simp only [mdOk, Bool.and_eq_true, decide_eq_true_eq] at h
    rw [List.length_map]; omega
  · simp
def mdT (n : Int) (zs ws : List Int) (i : Nat) : List Int := (ws.take i).map (mdW n zs)
theorem mdT_len (n : Int) (zs ws : List Int) (i : Nat) : (mdT n zs ws i).length ≤ i := by unfold mdT; rw [List.length_map, List.length_take]; omega
theorem mdT_snoc (n : Int) (zs ws : List Int) (i : Nat) (h : i < ws.length) : mdT n zs ws i ++ [mdW n zs ws[i]] = mdT n zs ws (i + 1) := by
  unfold mdT; rw [List.take_succ_eq_append_getElem h, List.map_append]; rfl
theorem mdT_all (n : Int) (zs ws : List Int) (i : Nat) (h : ws.length ≤ i) : ws.map (mdW n zs) = mdT n zs ws i := by unfold mdT; rw [List.take_of_length_le h]
theorem md_word {m : Nat} (hm : m ≤ 16) {x : Int} (h : 0 ≤ x ∧ x ≤ 2 ^ m - 1) : ∃ y : Nat, x = y ∧ y < 2 ^ m ∧ y < 65536 := by
  obtain ⟨y, rfl⟩ := Int.eq_ofNat_of_zero_le h.1
  have e : (2 : Int) ^ m = ((2 ^ m : Nat) : Int) := by simp
  have h65 : 2 ^ m ≤ 65536 := Nat.le_trans (Nat.pow_le_pow_right (by decide) hm) (by decide)
  rw [e] at h
  exact ⟨y, rfl, by omega, by omega⟩
set_option maxHeartbeats 4000000 in
theorem implMds_any (n : Int) (v : Value) (zs : List Int) (vw : Value) (ws : List Int) (k : Int) (w : World) (h : RI w v zs) (h' : RI w vw ws) :
    Calls Try.prog 28 #[.agg #[.int .i64 n, v], vw, .int .i64 k] w fun e w' => ∃ v', e = .returned (.tuple #[v', .bool (mdOk n zs ws k)]) ∧ OI w.heap.size w' v' (mdZ n zs ws k) ∧ Below w.heap.size w w' := by
  have hlenw := h'.len
  obtain ⟨ao, cap, rfl⟩ := h.shape
  obtain ⟨aow, capw, rfl⟩ := h'.shape
  have hb : ∀ o, Below w.heap.size w (w.alloc o) := fun o => by go_grown
  have g := h.below (hb (.cells #[.int .i64 n, .slice ao zs.length cap] 28))
  have G2 := Lib.hid h'
  by_cases hd : duOk n zs = true
  · obtain ⟨m, rfl, hm1, hm2, hl8, hnn, hlt⟩ := duOk_bits hd
    obtain ⟨hq1, hq2⟩ := pow16 m hm2
    by_cases hl64 : ws.length ≤ 64
    · have d64 : decide (64 < (ws.length : Int)) = false := decide_eq_false (by omega)
      by_cases hin : allIn ws 0 (2 ^ m - 1) = true
      · by_cases hk : inB k 1 8 = true
        · have HO := Lib.hid (show mdOk m zs ws k = true by simp [mdOk, hd, hl64, hin, hk])
          have HZ := Lib.hid (show mdZ m zs ws k = ws.map (mdW m zs) by rw [mdZ, if_pos HO.out])
          have Hw := Lib.hid fun x (hx : x ∈ ws) => md_word hm2 ((allIn_iff _ _ _).1 hin x hx)
          have Hmw := Lib.hid (mw_at m hm2 zs)
          have Hl8 := Lib.hid hl8
          have Hnn := Lib.hid hnn
          have Hlt := Lib.hid hlt
          have hll := ld_len m (toN (duZ m zs))
          have hl256 : 2 ^ (toN (duZ m zs)).length ≤ 256 := Nat.le_trans (Nat.pow_le_pow_right (by decide) (show (toN (duZ m zs)).length ≤ 8 by rw [toN_len]; exact hl8)) (by decide)
          have hL : (ld m (toN (duZ m zs))).length ≤ 256 := by omega
          have hL0 : 0 < (ld m (toN (duZ m zs))).length := by rw [hll]; exact Nat.two_pow_pos _
          clear hll hl256
          clear hl8 hnn hlt
          go_enter Try.func28, Try.ntmps28
          go_wp2_with fail
          refine (implDual_any m _ zs _ g).mono ?_
          rw [hd, apN_t]
          rintro e w1 ⟨v1, rfl, ho, hb1⟩
          have ho : OI _ w1 v1 (duZ m zs) := ho
          obtain ⟨ao1, cap1, rfl⟩ := ho.shape
          have hp := blk_next hb1 (heap_alloc_new w _)
          have hlt0 := blk_lt hp
          have hB := bnext (hb _) hb1
          have hB1 : ∀ o, Below w.heap.size w (w1.alloc o) := fun o => hB.alloc hB.size o
          have hpp := blk_alloc hp (o' := .cells #[.int .i64 m, .slice ao1 (duZ m zs).length cap1] 28)
          obtain ⟨c0, c1, -, -⟩ := blk2 hpp
          have gD := ho.ri.below (show Below w1.heap.size w1 (w1.alloc (.cells #[.int .i64 m, .slice ao1 (duZ m zs).length cap1] 28)) by go_grown)
          have gX := G2.out.below (hB1 (.cells #[.int .i64 m, .slice ao1 (duZ m zs).length cap1] 28))
          clear ho g hb1
          go_wp2_with fail
          refine (areWithin_any _ ws _ _ _ gX).mono ?_
          rw [hin]
          rintro e w2 ⟨rfl, rfl⟩
          go_wp2_with fail
          refine (within_any _ _ _ _).mono ?_
          rw [hk]
          rintro e w2 ⟨rfl, rfl⟩
          have gE := gD.2.toN Hnn.out
          go_wp2_with fail
          refine (leaders_any _ (toN (duZ m zs)) m hm2 _ gE (by rw [toN_len]; exact Hl8.out) Hlt.out).mono ?_
          rintro e w3 ⟨v3, rfl, ho3, hb3⟩
          obtain ⟨g3, off3, cap3, rfl, hob3⟩ := OI.obk ho3 hL0
          have hB3 := bnext (hB1 _) hb3
          have r1 := (blk2 (blk_next hb3 (heap_alloc_new w1 _))).2.1
          have gE3 := Lib.hid (gE.below hb3)
          have hob := Lib.hid (hob3.mono (B' := 0) (Nat.zero_le _))
          have hca := hob3.capn
          have hcb := hob3.capm
          unfold maxLen at hcb
          have hgl := hob3.hi
          have gX3 := Lib.hid (G2.out.below hB3)
          clear gD gX gE ho3 hb3 hob3 c0 c1 hpp hp hlt0
          go_wp2_with fail
          go_loopw [11, 45] (fun o iv wr => ∃ i : Nat, iv = .int .i64 i ∧ i ≤ ws.length ∧ OwnI w3.heap.size wr o (mdT m zs ws i) ∧ Below w3.heap.size w3 wr) (fun _ iv _ => ws.length - (intOf iv).toNat)
          case atStart => exact ⟨0, rfl, Nat.zero_le _, own_empty w3 _ (Nat.le_refl _), by go_grown⟩
          case round =>
            obtain ⟨i, rfl, hi, hown, hBr⟩ := hrel
            obtain ⟨aoo, capo, rfl⟩ := hown.shape
            have hs3 := hBr.size
            have Hol := Lib.hid (show (mdT m zs ws i).length ≤ 64 from Nat.le_trans (mdT_len _ _ _ _) (by omega))
            by_cases hil : i < ws.length
            · obtain ⟨bw, offw, e0, -, hcw⟩ := (gX3.out.below hBr).2.cells (by omega)
              obtain rfl := e0
              have hci := hcw i hil
              have Hsn := Lib.hid (mdT_snoc m zs ws i hil)
              obtain ⟨y, hy, hy2, hy65⟩ := Hw.out ws[i] (List.getElem_mem hil)
              rw [hy] at hci
              have hsn := Hsn.out
              rw [hy] at hsn
              have e1 : mdW m zs (y : Int) = ((y ^^^ mwY m zs y : Nat) : Int) := by rw [mdW, Int.toNat_natCast]
              obtain ⟨hs, hq, hq65⟩ := Hmw.out y hy2
              rw [e1] at hsn
              have Hsn2 := Lib.hid hsn
              have hsy := fun (w' : World) hb' => syndrome_any (.slice ao1 (duZ m zs).length cap1) (toN (duZ m zs)) y hy65 w' (gE3.out.below hb') (by rw [toN_len]; exact Hl8.out) Hlt.out
              have hcl := hob.out.cell (syn (toN (duZ m zs)) y) hs
              rw [hq] at hcl
              have hcl2 := cnext hBr hcl
              have r1' := cnext hBr r1
              clear hcw hcl hq hsn e1 hy
              generalize syn (toN (duZ m zs)) y = s at *
              generalize mwY m zs y = q at *
              have exo := xor_i64_nat y q (by omega) (by omega)
              go_wp2_with (first | (go_at_call 65; refine (hsy _ hBr).mono ?_; rintro e w4 ⟨rfl, rfl⟩) | (at_builtin; go_must (refine app_ints rfl _ _ rfl w3.heap.size w3.heap.size (Nat.le_refl _) (.slice aoo (mdT m zs ws i).length capo) (mdT m zs ws i) rfl hown hBr _ _ [((y ^^^ q : Nat) : Int)] rfl rfl (by have := Hol.out; simp only [List.length_cons, List.length_nil]; omega) hs3 ?_)))
              intro v' w' hown' hB' hg'
              rw [Hsn2.out] at hown'
              obtain ⟨ao2, cap2, rfl⟩ := hown'.shape
              clear hg' hown hBr
              go_wp2
              go_roundw
              case rel => exact ⟨i + 1, by go_num, by omega, hown', hB'⟩
              case measure => simp [intOf] <;> omega
            · have HZ2 := Lib.hid (show mdZ m zs ws k = mdT m zs ws i by rw [HZ.out]; exact mdT_all _ _ _ _ (by omega))
              have hi64 : AllI64 (mdT m zs ws i) := fun z hz => by
                obtain ⟨x, hx, rfl⟩ := List.mem_map.1 hz
                obtain ⟨y, rfl, hy2, hy65⟩ := Hw.out x (List.mem_of_mem_take hx)
                obtain ⟨_, _, hq65⟩ := Hmw.out y hy2
                have := Nat.xor_lt_two_pow (n := 16) (x := y) (y := mwY m zs y) (by omega) (by omega)
                rw [mdW, Int.toNat_natCast]
                constructor <;> omega
              have ho := Lib.hid (OI.mono (hB3.size) (hown.oi hi64))
              have hBf := bnext hB3 hBr
              clear hown hi64
              go_wp2
              exact bodyPost_ret (v := .tuple #[.slice aoo (mdT m zs ws i).length capo, .bool true]) (by simp [results, Try.results28, go_sem]) rfl ⟨_, by rw [HO.out], by rw [HZ2.out]; exact ho.out, hBf⟩
        · have hk : inB k 1 8 = false := by simpa using hk
          have HO := Lib.hid (show mdOk m zs ws k = false by simp [mdOk, hk])
          have HZ := Lib.hid (show mdZ m zs ws k = [] by simp [mdZ, HO.out])
          clear hl8 hnn hlt
          go_enter Try.func28, Try.ntmps28
          go_wp2_with fail
          refine (implDual_any m _ zs _ g).mono ?_
          rw [hd, apN_t]
          rintro e w1 ⟨v1, rfl, ho, hb1⟩
          have ho : OI _ w1 v1 (duZ m zs) := ho
          obtain ⟨ao1, cap1, rfl⟩ := ho.shape
          have hp := blk_next hb1 (heap_alloc_new w _)
          have hlt0 := blk_lt hp
          have hB := bnext (hb _) hb1
          have hB1 : ∀ o, Below w.heap.size w (w1.alloc o) := fun o => hB.alloc hB.size o
          have hpp := blk_alloc hp (o' := .cells #[.int .i64 m, .slice ao1 (duZ m zs).length cap1] 28)
          obtain ⟨c0, c1, -, -⟩ := blk2 hpp
          have gD := ho.ri.below (show Below w1.heap.size w1 (w1.alloc (.cells #[.int .i64 m, .slice ao1 (duZ m zs).length cap1] 28)) by go_grown)
          have gX := G2.out.below (hB1 (.cells #[.int .i64 m, .slice ao1 (duZ m zs).length cap1] 28))
          clear ho g hb1
          go_wp2_with fail
          refine (areWithin_any _ ws _ _ _ gX).mono ?_
          rw [hin]
          rintro e w2 ⟨rfl, rfl⟩
          go_wp2_with fail
          refine (within_any _ _ _ _).mono ?_
          rw [hk]
          rintro e w2 ⟨rfl, rfl⟩
          go_wp2
          exact bodyPost_ret (v := .tuple #[.slice none 0 0, .bool false]) (by simp [results, Try.results28, go_sem]) rfl ⟨_, by rw [HO.out], by rw [HZ.out]; exact OI.nil _ _, hB1 _⟩
      · have hin : allIn ws 0 (2 ^ m - 1) = false := by simpa using hin
        have HO := Lib.hid (show mdOk m zs ws k = false by simp [mdOk, hin])
        have HZ := Lib.hid (show mdZ m zs ws k = [] by simp [mdZ, HO.out])
        clear hl8 hnn hlt
        go_enter Try.func28, Try.ntmps28
        go_wp2_with fail
        refine (implDual_any m _ zs _ g).mono ?_
        rw [hd, apN_t]
        rintro e w1 ⟨v1, rfl, ho, hb1⟩
        have ho : OI _ w1 v1 (duZ m zs) := ho
        obtain ⟨ao1, cap1, rfl⟩ := ho.shape
        have hp := blk_next hb1 (heap_alloc_new w _)
        have hlt0 := blk_lt hp
        have hB := bnext (hb _) hb1
        have hB1 : ∀ o, Below w.heap.size w (w1.alloc o) := fun o => hB.alloc hB.size o
        have hpp := blk_alloc hp (o' := .cells #[.int .i64 m, .slice ao1 (duZ m zs).length cap1] 28)
        obtain ⟨c0, c1, -, -⟩ := blk2 hpp
        have gD := ho.ri.below (show Below w1.heap.size w1 (w1.alloc (.cells #[.int .i64 m, .slice ao1 (duZ m zs).length cap1] 28)) by go_grown)
        have gX := G2.out.below (hB1 (.cells #[.int .i64 m, .slice ao1 (duZ m zs).length cap1] 28))
        clear ho g hb1
        go_wp2_with fail
        refine (areWithin_any _ ws _ _ _ gX).mono ?_
        rw [hin]
        rintro e w2 ⟨rfl, rfl⟩
        go_wp2
        exact bodyPost_ret (v := .tuple #[.slice none 0 0, .bool false]) (by simp [results, Try.results28, go_sem]) rfl ⟨_, by rw [HO.out], by rw [HZ.out]; exact OI.nil _ _, hB1 _⟩
    · have d64 : decide (64 < (ws.length : Int)) = true := decide_eq_true (by omega)
      have HO := Lib.hid (show mdOk m zs ws k = false by simp [mdOk, hl64])
      have HZ := Lib.hid (show mdZ m zs ws k = [] by simp [mdZ, HO.out])
      clear hl8 hnn hlt
      go_enter Try.func28, Try.ntmps28
      go_wp2_with fail
      refine (implDual_any m _ zs _ g).mono ?_
      rw [hd, apN_t]
      rintro e w1 ⟨v1, rfl, ho, hb1⟩
      have ho : OI _ w1 v1 (duZ m zs) := ho
      obtain ⟨ao1, cap1, rfl⟩ := ho.shape
      have hp := blk_next hb1 (heap_alloc_new w _)
      have hlt0 := blk_lt hp
      have hB := bnext (hb _) hb1
      have hB1 : ∀ o, Below w.heap.size w (w1.alloc o) := fun o => hB.alloc hB.size o
      have hpp := blk_alloc hp (o' := .cells #[.int .i64 m, .slice ao1 (duZ m zs).length cap1] 28)
      obtain ⟨c0, c1, -, -⟩ := blk2 hpp
      have gD := ho.ri.below (show Below w1.heap.size w1 (w1.alloc (.cells #[.int .i64 m, .slice ao1 (duZ m zs).length cap1] 28)) by go_grown)
      have gX := G2.out.below (hB1 (.cells #[.int .i64 m, .slice ao1 (duZ m zs).length cap1] 28))
      clear ho g hb1
      go_wp2
      exact bodyPost_ret (v := .tuple #[.slice none 0 0, .bool false]) (by simp [results, Try.results28, go_sem]) rfl ⟨_, by rw [HO.out], by rw [HZ.out]; exact OI.nil _ _, hB1 _⟩
  · have hd : duOk n zs = false := by simpa using hd
    have HO := Lib.hid (show mdOk n zs ws k = false by simp [mdOk, hd])
    have HZ := Lib.hid (show mdZ n zs ws k = [] by simp [mdZ, HO.out])
    go_enter Try.func28, Try.ntmps28
    go_wp2_with fail
    refine (implDual_any n _ zs _ g).mono ?_
    rw [hd, apN_f]
    rintro e w1 ⟨v1, rfl, ho, hb1⟩
    obtain ⟨ao1, cap1, rfl⟩ := ho.shape
    have hp := blk_next hb1 (heap_alloc_new w _)
    have hlt0 := blk_lt hp
    have hB := bnext (hb _) hb1
    have hB1 : ∀ o, Below w.heap.size w (w1.alloc o) := fun o => hB.alloc hB.size o
    go_wp2
    exact bodyPost_ret (v := .tuple #[.slice none 0 0, .bool false]) (by simp [results, Try.results28, go_sem]) rfl ⟨_, by rw [HO.out], by rw [HZ.out]; exact OI.nil _ _, hB1 _⟩
end Go.Proofs.Ytejabnjhnbminaa
