/- 'laws.FnRanged' returns true for all arguments: texts come back from their bits, which are not many more than their cost, also by counts that grow, and any number of workers finds as many. No conditions. -/
import Derived.Test.YtbhconogaoghmaaRkQ
import Derived.Test.YtbhconogaoghmaaCntD
import Derived.Test.YtbhconogaoghmaaB10
import Derived.Test.YtbhconogaoghmaaSmN
import Derived.Test.YtbhconogaoghmaaSame
import Derived.Test.YtbhconogaoghmaaEvenOf
import Derived.Test.YtbhconogaoghmaaEq
import Derived.Test.YtbhconogaoghmaaFrame
import Derived.Test.YtbhconogaoghmaaPop
import Derived.BigQuiet
namespace Go.Proofs.Ytbhconogaoghmaa.fnRanged
open Go.ChangeShapes Go.WideShapes Go.ChangeAt Go.RowKit
set_option maxRecDepth 100000
set_option linter.unusedVariables false
set_option linter.unusedSimpArgs false

theorem ss_two (w : World) (x : Value) (zs : List Int) (h : RI w x zs) : SS (w.alloc (.cells #[x, .slice none 0 0] 25)) (.slice (some ⟨w.heap.size, 0, none⟩) 2 2) [(x, zs), (.slice none 0 0, [])] := by
  refine ⟨⟨_, 2, rfl, by simp, by unfold maxLen; omega, fun i hi => ⟨w.heap.size, 0, rfl, ?_⟩⟩, fun p hp => ?_⟩
  · rw [cell_of_row _ _ _ _ _ _ (heap_alloc_new w _)]
    match i, hi with
    | 0, _ => rfl
    | 1, _ => rfl
    | i + 2, hi => simp at hi; omega
  · rcases List.mem_cons.1 hp with rfl | hp
    · exact h.below (by go_grown)
    · obtain rfl := List.mem_singleton.1 hp
      exact OI.ri (OI.nil 0 _)
theorem al_below (W : World) (o : Obj) : Below W.heap.size W (W.alloc o) := (Below.refl _ _).alloc (Nat.le_refl _) _
theorem oi_keep {B gw : Nat} {W : World} {v : Value} {xs : List Int} (h : OI B W v xs) (hne : v.ownBlock ≠ some gw) (u0 u1 : Value) : OI B ((W.setCell ⟨gw, 0, none⟩ u0).setCell ⟨gw, 1, none⟩ u1) v xs :=
  (h.other (grown_setCell W ⟨gw, 0, none⟩ u0) (.inr hne)).other (grown_setCell _ ⟨gw, 1, none⟩ u1) (.inr hne)
set_option maxHeartbeats 8000000 in
theorem walk (v0 : Value) (z0 : List Int) (v1 : Value) (z1 : List Int) (w : World) (h0 : RB w v0 z0) (h1 : RB w v1 z1) :
    Calls Try.prog 3 #[v0, v1] w fun e w' => e = .returned (.bool true) ∧ Below w.heap.size w w' := by
  by_cases hlong : (decide (1048576 < z0.length) || decide (1048576 < z1.length)) = true
  · go_enter Try.func3, Try.ntmps3
    go_wp2_with fail
    refine (b10Long_any _ _ z0 z1 _ h0 h1).mono ?_
    rw [hlong]
    rintro e w1 ⟨rfl, rfl⟩
    go_wp2
    go_ret
    exact ⟨rfl, Below.refl _ _⟩
  · have hlong : (decide (1048576 < z0.length) || decide (1048576 < z1.length)) = false := by simpa using hlong
    have hl0 : z0.length ≤ 1048576 := by
      rcases Nat.lt_or_ge 1048576 z0.length with h | h
      · rw [decide_eq_true h] at hlong; simp at hlong
      · exact h
    have hl1 : z1.length ≤ 1048576 := by
      rcases Nat.lt_or_ge 1048576 z1.length with h | h
      · rw [decide_eq_true h] at hlong; simp at hlong
      · exact h
    have H0 := Lib.hid h0
    have H1 := Lib.hid h1
    have Hlong := Lib.hid hlong
    clear h0 h1 hlong
    go_enter Try.func3, Try.ntmps3
    go_wp2_with fail
    refine (b10Long_any _ _ z0 z1 _ H0.out H1.out).mono ?_
    rw [Hlong.out]
    rintro e w1 ⟨rfl, rfl⟩
    have HB := Lib.hid (Below.refl w.heap.size w)
    go_wp2_with fail
    refine (b10At_any _ z1 0 5 _ (H1.out.below HB.out) (by omega) (by omega) (by omega)).mono ?_
    rintro e w11 ⟨a0, ha0, hc0, rfl, rfl⟩
    obtain ⟨A, rfl⟩ := Int.eq_ofNat_of_zero_le ha0
    have e2 : (2 : Int) + (A : Int) = ((2 + A : Nat) : Int) := by omega
    obtain ⟨l, hl⟩ : ∃ l, 2 + A = l := ⟨_, rfl⟩
    rw [hl] at e2
    have hl2 : 2 ≤ l := by omega
    have hl6 : l ≤ 6 := by omega
    clear ha0 hc0 hl
    go_wp2_with fail
    refine (b10Counts_any _ z0 l _ (H0.out.below HB.out) (by omega) (by omega)).mono ?_
    rintro e w12 ⟨vc, cs, rfl, ho, hcl, hcz, hb12⟩
    have HB := Lib.hid (bnext HB.out hb12)
    have Hc := Lib.hid ho
    obtain ⟨ac, pc, rfl⟩ := ho.shape
    clear ho
    clear hb12
    have Hcl := Lib.hid hcl
    have Hcz := Lib.hid hcz
    clear hcl hcz
    obtain ⟨w13, hw13⟩ : ∃ W, w12.alloc (.cells #[.int .i64 l, .slice ac cs.length pc] 27) = W := ⟨_, rfl⟩
    have hb13 : Below w12.heap.size w12 w13 := by rw [← hw13]; go_grown
    have X1 := Lib.hid (show w13.heap[w12.heap.size]? = some (.cells #[.int .i64 l, .slice ac cs.length pc] 27 (0, 0)) by rw [← hw13]; exact heap_alloc_new _ _)
    have Hc := Lib.hid (Hc.out.below hb13)
    have HB := Lib.hid (bnext HB.out hb13)
    clear hb13
    go_wp2_with fail
    refine (b10At_any _ z1 1 40 _ (H1.out.below HB.out) (by omega) (by omega) (by omega)).mono ?_
    rintro e w14 ⟨a1, ha1, hc1, rfl, rfl⟩
    obtain ⟨n, rfl⟩ := Int.eq_ofNat_of_zero_le ha1
    have hn39 : n ≤ 39 := by omega
    clear ha1 hc1 hw13
    go_wp2_with fail
    refine (b10Letters_any _ z1 l n _ (H1.out.below HB.out) (by omega) (by omega) (by omega) (by omega)).mono ?_
    rintro e w15 ⟨vx, zs, rfl, ho, hzl, hzz, hb15⟩
    have Hc := Lib.hid (Hc.out.below hb15)
    have X1 := Lib.hid (blk_next hb15 X1.out)
    have HB := Lib.hid (bnext HB.out hb15)
    have Hx := Lib.hid ho
    obtain ⟨ax, px, rfl⟩ := ho.shape
    clear ho
    clear hb15
    subst hzl
    have R := Lib.hid (show Rkd l cs zs from ⟨hl2, hl6, Hcl.out, Hcz.out, hzz, hn39⟩)
    clear hzz
    have HZ := Lib.hid hn39
    obtain ⟨c10, c11, c12, c13⟩ := blk2 X1.out
    go_wp2_with fail
    refine (implRgb_any l _ cs _ zs _ Hc.out.ri Hx.out.ri).mono ?_
    rw [R.out.rg.1, R.out.rg.2]
    rintro e w16 ⟨vb, rfl, ho, hb16⟩
    clear c10 c11 c12 c13
    have Hc := Lib.hid (Hc.out.below hb16)
    have Hx := Lib.hid (Hx.out.below hb16)
    have X1 := Lib.hid (blk_next hb16 X1.out)
    have HB := Lib.hid (bnext HB.out hb16)
    have Hb := Lib.hid ho
    obtain ⟨ab, pb, rfl⟩ := ho.rg.shape
    clear ho
    clear hb16
    obtain ⟨c10, c11, c12, c13⟩ := blk2 X1.out
    go_wp2_with fail
    refine (implRxt_any l _ cs _ (rb 0 cs zs) zs.length _ Hc.out.ri Hb.out.rg).mono ?_
    rw [R.out.rx.1, R.out.rx.2]
    rintro e w17 ⟨vk, rfl, ho, hb17⟩
    clear c10 c11 c12 c13
    have Hc := Lib.hid (Hc.out.below hb17)
    have Hx := Lib.hid (Hx.out.below hb17)
    have Hb := Lib.hid (Hb.out.below hb17)
    have X1 := Lib.hid (blk_next hb17 X1.out)
    have HB := Lib.hid (bnext HB.out hb17)
    have Hk := Lib.hid ho
    obtain ⟨ak, pk, rfl⟩ := ho.shape
    clear ho
    clear hb17
    obtain ⟨c10, c11, c12, c13⟩ := blk2 X1.out
    go_wp2_with fail
    refine (implCost_any l _ cs _ zs _ Hc.out.ri Hx.out.ri).mono ?_
    rw [R.out.ct.1, R.out.ct.2]
    rintro e w18 ⟨rfl, hb18⟩
    clear c10 c11 c12 c13
    have Hc := Lib.hid (Hc.out.below hb18)
    have Hx := Lib.hid (Hx.out.below hb18)
    have Hb := Lib.hid (Hb.out.below hb18)
    have Hk := Lib.hid (Hk.out.below hb18)
    have X1 := Lib.hid (blk_next hb18 X1.out)
    have HB := Lib.hid (bnext HB.out hb18)
    clear hb18
    obtain ⟨c10, c11, c12, c13⟩ := blk2 X1.out
    go_wp2_with fail
    refine (specCost_any l _ cs _ zs _ Hc.out.ri Hx.out.ri).mono ?_
    rw [R.out.ct.1, R.out.ct.2]
    rintro e w19 ⟨rfl, hb19⟩
    clear c10 c11 c12 c13
    have Hc := Lib.hid (Hc.out.below hb19)
    have Hx := Lib.hid (Hx.out.below hb19)
    have Hb := Lib.hid (Hb.out.below hb19)
    have Hk := Lib.hid (Hk.out.below hb19)
    have X1 := Lib.hid (blk_next hb19 X1.out)
    have HB := Lib.hid (bnext HB.out hb19)
    clear hb19
    go_wp2_with fail
    refine (isText_any _ zs l _ Hx.out.ri).mono ?_
    rw [R.out.txt]
    rintro e w20 ⟨rfl, rfl⟩
    obtain ⟨c10, c11, c12, c13⟩ := blk2 X1.out
    go_wp2_with fail
    refine (implCounts_any l _ cs _ Hc.out.ri).mono ?_
    rw [R.out.cts]
    rintro e w21 ⟨rfl, hb21⟩
    clear c10 c11 c12 c13
    have Hc := Lib.hid (Hc.out.below hb21)
    have Hx := Lib.hid (Hx.out.below hb21)
    have Hb := Lib.hid (Hb.out.below hb21)
    have Hk := Lib.hid (Hk.out.below hb21)
    have X1 := Lib.hid (blk_next hb21 X1.out)
    have HB := Lib.hid (bnext HB.out hb21)
    clear hb21
    go_wp2_with fail
    refine (b10Ints_any _ _ zs zs _ Hk.out.ri Hx.out.ri).mono ?_
    rw [eqL_self]
    rintro e w22 ⟨rfl, m22, hw22⟩
    have hb22 := below_of_drew hw22
    clear hw22
    have Hc := Lib.hid (Hc.out.below hb22)
    have Hx := Lib.hid (Hx.out.below hb22)
    have Hb := Lib.hid (Hb.out.below hb22)
    have Hk := Lib.hid (Hk.out.below hb22)
    have X1 := Lib.hid (blk_next hb22 X1.out)
    have HB := Lib.hid (bnext HB.out hb22)
    clear hb22
    obtain ⟨q, nq⟩ := R.out.len.2
    have hclt := ctT_lt cs zs 0 (by decide)
    have HS := Lib.hid (fun W => sameNum_same _ q nq hclt W)
    have HLn := Lib.hid R.out.len.1
    clear nq hclt
    generalize ctT cs zs 0 = ct at *
    go_wp2_with fail
    refine (HS.out _).mono ?_
    rintro e w23 ⟨rfl, m23, hw23⟩
    have hb23 := below_of_drew hw23
    clear hw23
    have Hc := Lib.hid (Hc.out.below hb23)
    have Hx := Lib.hid (Hx.out.below hb23)
    have Hb := Lib.hid (Hb.out.below hb23)
    have Hk := Lib.hid (Hk.out.below hb23)
    have X1 := Lib.hid (blk_next hb23 X1.out)
    have HB := Lib.hid (bnext HB.out hb23)
    clear hb23
    have o0 := cvt_up _ _ HLn.out.u
    have o1 := run_op (P := Try.prog) HLn.out.a
    have o2 : ∀ t w, (binOp .mul t (.float .f64 4603579539098121011) (.float .f64 (floatOfInt .f64 zs.length))).run Try.prog w = .ok (.float .f64 (fmul .f64 4603579539098121011 (Fi zs.length))) w := run_op (P := Try.prog) HLn.out.m
    have o3 := run_op (P := Try.prog) HLn.out.b
    have o4 : (FloatKind.f64.format.order (floatOfInt .f64 ((rb 0 cs zs).length : Int)) (fadd .f64 (fadd .f64 (fup ct) 4616189618054758400) (fmul .f64 4603579539098121011 (Fi zs.length))) == some .gt) = false := HLn.out.g
    have hrbl : (rb 0 cs zs).length ≤ 700 := R.out.rb0
    generalize fadd .f64 (fadd .f64 (fup ct) 4616189618054758400) (fmul .f64 4603579539098121011 (Fi zs.length)) = s3 at *
    generalize fadd .f64 (fup ct) 4616189618054758400 = s1 at *
    generalize fmul .f64 4603579539098121011 (Fi zs.length) = s2 at *
    generalize fup ct = uc at *
    clear HLn HS
    go_wp2_with (first | simp only [o0] | simp only [o1] | simp only [o2] | simp only [o3] | simp only [o4] | fail)
    clear o0 o1 o2 o3 o4
    refine (implGwb_any l _ zs _ Hx.out.ri).mono ?_
    rw [R.out.gw.1, R.out.gw.2]
    rintro e w24 ⟨vg, rfl, ho, hb24⟩
    have Hc := Lib.hid (Hc.out.below hb24)
    have Hx := Lib.hid (Hx.out.below hb24)
    have Hb := Lib.hid (Hb.out.below hb24)
    have Hk := Lib.hid (Hk.out.below hb24)
    have X1 := Lib.hid (blk_next hb24 X1.out)
    have HB := Lib.hid (bnext HB.out hb24)
    have Hg := Lib.hid ho
    obtain ⟨ag, pg, rfl⟩ := ho.rg.shape
    clear ho
    clear hb24
    go_wp2_with fail
    refine (implGxt_any l _ (rb 16 (ones l) zs) zs.length _ Hg.out.rg).mono ?_
    rw [R.out.gx.1, R.out.gx.2]
    rintro e w25 ⟨vy, rfl, ho, hb25⟩
    have Hc := Lib.hid (Hc.out.below hb25)
    have Hx := Lib.hid (Hx.out.below hb25)
    have Hb := Lib.hid (Hb.out.below hb25)
    have Hk := Lib.hid (Hk.out.below hb25)
    have Hg := Lib.hid (Hg.out.below hb25)
    have X1 := Lib.hid (blk_next hb25 X1.out)
    have HB := Lib.hid (bnext HB.out hb25)
    have Hy := Lib.hid ho
    obtain ⟨ay, py, rfl⟩ := ho.shape
    clear ho
    clear hb25
    obtain ⟨wS, hwS⟩ : ∃ W, w25.alloc (.cells #[.slice ax zs.length px, .slice none 0 0] 25) = W := ⟨_, rfl⟩
    have hbS : Below w25.heap.size w25 wS := by rw [← hwS]; go_grown
    have HSS := Lib.hid (show SS wS (.slice (some ⟨w25.heap.size, 0, none⟩) 2 2) [(.slice ax zs.length px, zs), (.slice none 0 0, [])] by rw [← hwS]; exact ss_two _ _ zs Hx.out.ri)
    have Hc := Lib.hid (Hc.out.below hbS)
    have Hx := Lib.hid (Hx.out.below hbS)
    have Hb := Lib.hid (Hb.out.below hbS)
    have Hk := Lib.hid (Hk.out.below hbS)
    have Hg := Lib.hid (Hg.out.below hbS)
    have Hy := Lib.hid (Hy.out.below hbS)
    have X1 := Lib.hid (blk_next hbS X1.out)
    have HB := Lib.hid (bnext HB.out hbS)
    clear hbS
    go_wp2_with fail
    refine (b10At_any _ z1 2 8 _ (H1.out.below HB.out) (by omega) (by omega) (by omega)).mono ?_
    rintro e w26 ⟨a2, ha2, hc2, rfl, rfl⟩
    clear hwS
    obtain ⟨e1, he1⟩ : ∃ x : Int, ((gwZ (l : Int) []).length : Int) = x := ⟨_, rfl⟩
    have hlg := R.out.lg (1 + a2) (by omega) (by omega)
    rw [he1] at hlg
    have HLG := Lib.hid hlg
    clear hlg he1
    go_wp2_with fail
    refine (implLg_any l _ _ (1 + a2) _ HSS.out).mono ?_
    rw [show List.map Prod.snd [((.slice ax zs.length px, zs) : Row), (.slice none 0 0, [])] = [zs, []] from rfl, HLG.out.1, HLG.out.2]
    rintro e w27 ⟨vL, rfl, ho, hb27⟩
    have Hc := Lib.hid (Hc.out.below hb27)
    have Hx := Lib.hid (Hx.out.below hb27)
    have Hb := Lib.hid (Hb.out.below hb27)
    have Hk := Lib.hid (Hk.out.below hb27)
    have Hg := Lib.hid (Hg.out.below hb27)
    have Hy := Lib.hid (Hy.out.below hb27)
    have X1 := Lib.hid (blk_next hb27 X1.out)
    have HB := Lib.hid (bnext HB.out hb27)
    have HL := Lib.hid ho
    obtain ⟨aL, pL, rfl⟩ := ho.shape
    clear ho
    clear hb27
    clear ha2 hc2 HSS HLG
    go_wp2_with fail
    refine (implEven_any l _).mono ?_
    rw [R.out.ev.1, R.out.ev.2.1, R.out.ev.2.2]
    rintro e w28 ⟨ve, rfl, ho, hb28⟩
    have Hc := Lib.hid (Hc.out.below hb28)
    have Hx := Lib.hid (Hx.out.below hb28)
    have Hb := Lib.hid (Hb.out.below hb28)
    have Hk := Lib.hid (Hk.out.below hb28)
    have Hg := Lib.hid (Hg.out.below hb28)
    have Hy := Lib.hid (Hy.out.below hb28)
    have HL := Lib.hid (HL.out.below hb28)
    have X1 := Lib.hid (blk_next hb28 X1.out)
    have HB := Lib.hid (bnext HB.out hb28)
    have He := Lib.hid ho
    obtain ⟨ae, pe, rfl⟩ := ho.shape
    clear ho
    clear hb28
    obtain ⟨w29, hw29⟩ : ∃ W, w28.alloc (.cells #[.int .i64 l, .slice ae (ones l).length pe] 27) = W := ⟨_, rfl⟩
    have hb29 : Below w28.heap.size w28 w29 := by rw [← hw29]; go_grown
    have X2 := Lib.hid (show w29.heap[w28.heap.size]? = some (.cells #[.int .i64 l, .slice ae (ones l).length pe] 27 (0, 0)) by rw [← hw29]; exact heap_alloc_new _ _)
    have Hc := Lib.hid (Hc.out.below hb29)
    have Hx := Lib.hid (Hx.out.below hb29)
    have Hb := Lib.hid (Hb.out.below hb29)
    have Hk := Lib.hid (Hk.out.below hb29)
    have Hg := Lib.hid (Hg.out.below hb29)
    have Hy := Lib.hid (Hy.out.below hb29)
    have HL := Lib.hid (HL.out.below hb29)
    have He := Lib.hid (He.out.below hb29)
    have X1 := Lib.hid (blk_next hb29 X1.out)
    have HB := Lib.hid (bnext HB.out hb29)
    clear hb29
    go_wp2_with fail
    refine (implCountsOf_any _ zs l _ Hx.out.ri).mono ?_
    rw [R.out.txt, R.out.co.1, R.out.co.2]
    rintro e w30 ⟨vq, rfl, ho, hb30⟩
    have Hc := Lib.hid (Hc.out.below hb30)
    have Hx := Lib.hid (Hx.out.below hb30)
    have Hb := Lib.hid (Hb.out.below hb30)
    have Hk := Lib.hid (Hk.out.below hb30)
    have Hg := Lib.hid (Hg.out.below hb30)
    have Hy := Lib.hid (Hy.out.below hb30)
    have HL := Lib.hid (HL.out.below hb30)
    have He := Lib.hid (He.out.below hb30)
    have X1 := Lib.hid (blk_next hb30 X1.out)
    have X2 := Lib.hid (blk_next hb30 X2.out)
    have HB := Lib.hid (bnext HB.out hb30)
    have Hq := Lib.hid ho
    obtain ⟨aq, pq, rfl⟩ := ho.shape
    clear ho
    clear hb30
    obtain ⟨w31, hw31⟩ : ∃ W, w30.alloc (.cells #[.int .i64 l, .slice aq (coF zs (ones l)).length pq] 27) = W := ⟨_, rfl⟩
    have hb31 : Below w30.heap.size w30 w31 := by rw [← hw31]; go_grown
    have X3 := Lib.hid (show w31.heap[w30.heap.size]? = some (.cells #[.int .i64 l, .slice aq (coF zs (ones l)).length pq] 27 (0, 0)) by rw [← hw31]; exact heap_alloc_new _ _)
    have Hc := Lib.hid (Hc.out.below hb31)
    have Hx := Lib.hid (Hx.out.below hb31)
    have Hb := Lib.hid (Hb.out.below hb31)
    have Hk := Lib.hid (Hk.out.below hb31)
    have Hg := Lib.hid (Hg.out.below hb31)
    have Hy := Lib.hid (Hy.out.below hb31)
    have HL := Lib.hid (HL.out.below hb31)
    have He := Lib.hid (He.out.below hb31)
    have Hq := Lib.hid (Hq.out.below hb31)
    have X1 := Lib.hid (blk_next hb31 X1.out)
    have X2 := Lib.hid (blk_next hb31 X2.out)
    have HB := Lib.hid (bnext HB.out hb31)
    clear hb31
    go_wp2_with fail
    refine (b10Ints_any _ _ zs zs _ Hy.out.ri Hx.out.ri).mono ?_
    rw [eqL_self]
    rintro e w32 ⟨rfl, m32, hw32⟩
    have hb32 := below_of_drew hw32
    clear hw32
    have Hc := Lib.hid (Hc.out.below hb32)
    have Hx := Lib.hid (Hx.out.below hb32)
    have Hb := Lib.hid (Hb.out.below hb32)
    have Hk := Lib.hid (Hk.out.below hb32)
    have Hg := Lib.hid (Hg.out.below hb32)
    have Hy := Lib.hid (Hy.out.below hb32)
    have HL := Lib.hid (HL.out.below hb32)
    have He := Lib.hid (He.out.below hb32)
    have Hq := Lib.hid (Hq.out.below hb32)
    have X1 := Lib.hid (blk_next hb32 X1.out)
    have X2 := Lib.hid (blk_next hb32 X2.out)
    have X3 := Lib.hid (blk_next hb32 X3.out)
    have HB := Lib.hid (bnext HB.out hb32)
    clear hb32
    clear hw29 hw31
    obtain ⟨bL, oL, eL, -, hcL⟩ := HL.out.ri.2.cells (by simp)
    obtain rfl := eL
    have hL0 := hcL 0 (by simp)
    simp only [List.getElem_cons_zero] at hL0
    have hL1 := hL0
    rw [Nat.add_zero] at hL1
    clear hcL
    have hgl : (rb 16 (ones l) zs).length ≤ 700 := R.out.rb1
    obtain ⟨c20, c21, c22, c23⟩ := blk2 X2.out
    go_wp2_with fail
    refine (specCounts_any l _ (ones l) _ He.out.ri).mono ?_
    rw [R.out.cts1]
    rintro e w33 ⟨rfl, hb33⟩
    clear c20 c21 c22 c23
    have Hc := Lib.hid (Hc.out.below hb33)
    have Hx := Lib.hid (Hx.out.below hb33)
    have Hb := Lib.hid (Hb.out.below hb33)
    have Hk := Lib.hid (Hk.out.below hb33)
    have Hg := Lib.hid (Hg.out.below hb33)
    have Hy := Lib.hid (Hy.out.below hb33)
    have HL := Lib.hid (HL.out.below hb33)
    have He := Lib.hid (He.out.below hb33)
    have Hq := Lib.hid (Hq.out.below hb33)
    have X1 := Lib.hid (blk_next hb33 X1.out)
    have X2 := Lib.hid (blk_next hb33 X2.out)
    have X3 := Lib.hid (blk_next hb33 X3.out)
    have HB := Lib.hid (bnext HB.out hb33)
    clear hb33
    obtain ⟨c30, c31, c32, c33⟩ := blk2 X3.out
    go_wp2_with fail
    refine (specCounts_any l _ (coF zs (ones l)) _ Hq.out.ri).mono ?_
    rw [R.out.cts2]
    rintro e w34 ⟨rfl, hb34⟩
    clear c30 c31 c32 c33
    have Hc := Lib.hid (Hc.out.below hb34)
    have Hx := Lib.hid (Hx.out.below hb34)
    have Hb := Lib.hid (Hb.out.below hb34)
    have Hk := Lib.hid (Hk.out.below hb34)
    have Hg := Lib.hid (Hg.out.below hb34)
    have Hy := Lib.hid (Hy.out.below hb34)
    have HL := Lib.hid (HL.out.below hb34)
    have He := Lib.hid (He.out.below hb34)
    have Hq := Lib.hid (Hq.out.below hb34)
    have X1 := Lib.hid (blk_next hb34 X1.out)
    have X2 := Lib.hid (blk_next hb34 X2.out)
    have X3 := Lib.hid (blk_next hb34 X3.out)
    have HB := Lib.hid (bnext HB.out hb34)
    clear hb34
    obtain ⟨c20, c21, c22, c23⟩ := blk2 X2.out
    clear hL0 hL1
    have hN0 : (w34.alloc (.cells #[.int .i64 l, .slice ae (ones l).length pe] 27)).heap[w34.heap.size]? = some (.cells #[.int .i64 l, .slice ae (ones l).length pe] 27 (0, 0)) := heap_alloc_new _ _
    have hb0 : Below w34.heap.size w34 (w34.alloc (.cells #[.int .i64 l, .slice ae (ones l).length pe] 27)) := by go_grown
    have HL0 := Lib.hid (And.intro hN0 (And.intro (He.out.below hb0).ri hb0))
    clear hN0 hb0
    go_wp2_with fail
    clear c20 c21 c22 c23
    go_loopw [208] (fun kv wr => ∃ (k : Nat) (v' : Value), kv = .int .i64 k ∧ k ≤ zs.length ∧ wr.heap[w34.heap.size]? = some (.cells #[.int .i64 l, v'] 27 (0, 0)) ∧ RI wr v' (coF (zs.take k) (ones l)) ∧ Below w34.heap.size w34 wr) (fun kv _ => zs.length - (intOf kv).toNat)
    case atStart => exact ⟨0, _, rfl, Nat.zero_le _, HL0.out.1, HL0.out.2.1, HL0.out.2.2⟩
    case round =>
      clear HL0
      obtain ⟨k, vn, rfl, hk, hnb, hnr, hBr⟩ := hrel
      have hMr := hBr.size
      have hMlt : w34.heap.size < wr.heap.size := blk_lt hnb
      by_cases hkn : k < zs.length
      · obtain ⟨bx, ox, ex, -, hcs⟩ := (Hx.out.below hBr).ri.2.cells (by omega)
        obtain rfl := ex
        have hc := hcs k hkn
        clear hcs
        have hput : ∀ W, Below wr.heap.size wr W → Calls Try.prog 22 #[.agg #[.int .i64 l, vn], .int .i64 zs[k], .int .i64 1] W fun e w' => ∃ v'', e = .returned (.tuple #[.agg #[.int .i64 l, v''], .bool true]) ∧ OI W.heap.size w' v'' (coF (zs.take (k + 1)) (ones l)) ∧ Below W.heap.size W w' := fun W hb => by
          have := implPut_any l vn (coF (zs.take k) (ones l)) zs[k] 1 W (hnr.below hb)
          rw [(R.out.put k hkn).1, (R.out.put k hkn).2.1, (R.out.put k hkn).2.2] at this
          exact this
        have Hput := Lib.hid hput
        clear hput
        generalize zs[k] = z at *
        obtain ⟨cn, hcn⟩ : ∃ x, coF (zs.take (k + 1)) (ones l) = x := ⟨_, rfl⟩
        rw [hcn] at Hput
        have Hcn := Lib.hid hcn
        obtain ⟨n0, n1, n2, n3⟩ := blk2 hnb
        obtain ⟨an, pn, rfl⟩ := hnr.shape
        have Hnb := Lib.hid hnb
        have HBr := Lib.hid hBr
        have hkl : (k : Int) < (zs.length : Int) := by omega
        clear hcn hnr hnb hBr
        go_upto_region 24 with fail
        go_cut [29, 30] from 211 to 219 (fun v29 v30 wx => ∃ (gw : Nat) (t' : Value), v29 = .pointer (some ⟨gw, 0, none⟩) ∧ v30 = .bool true ∧ wx.heap[gw]? = some (.cells #[.int .i64 l, t'] 27 (0, 0)) ∧ wr.heap.size ≤ gw ∧ OI (w34.heap.size + 1) wx t' cn ∧ Below wr.heap.size wr wx)
        case first =>
          refine wp_region_held_tail 11 (S := fun W' => W'.cell? ⟨w34.heap.size, 0, none⟩ = some (.int .i64 l) ∧ W'.cell? ⟨w34.heap.size, 1, none⟩ = some (.slice an (coF (zs.take k) (ones l)).length pn) ∧ W'.cell? ⟨bx, ox + k, none⟩ = some (.int .i64 z) ∧ Below wr.heap.size wr W') (by kernel_rfl) (by decide +kernel) ?_ (fun hHeld => ?_)
          · exact ⟨n0, n1, hc, (Below.refl _ _).drew⟩
          simp only [List.take_succ_cons, List.take_zero, List.drop_succ_cons, List.drop_zero, List.length_cons, List.length_nil, Nat.reduceAdd]
          refine wpAnyH_tk (i := 0) (v := ?_) (some 212) rfl rfl (by kernel_rfl) (by decide +kernel) (by decide +kernel) (fun _ _ _ h => h) (by kernel_rfl) ?_ hHeld ?_
          rotate_left
          · (intro w hSw; (try dsimp only at hSw); go_simp <;> with_reducible rfl)
          (try simp only [Act.put, List.setIfInBounds_toArray, List.set_cons_zero, List.set_cons_succ])
          refine wpAnyH_tk (i := 1) (v := ?_) (some 213) rfl rfl (by kernel_rfl) (by decide +kernel) (by decide +kernel) (fun _ _ _ h => h) (by kernel_rfl) ?_ hHeld ?_
          rotate_left
          · (intro w hSw; (try dsimp only at hSw); go_simp <;> with_reducible rfl)
          (try simp only [Act.put, List.setIfInBounds_toArray, List.set_cons_zero, List.set_cons_succ])
          refine wpAnyH_tk (i := 2) (v := ?_) (some 214) rfl rfl (by kernel_rfl) (by decide +kernel) (by decide +kernel) (fun _ _ _ h => h) (by kernel_rfl) ?_ hHeld ?_
          rotate_left
          · (intro w hSw; (try dsimp only at hSw); go_simp <;> with_reducible rfl)
          (try simp only [Act.put, List.setIfInBounds_toArray, List.set_cons_zero, List.set_cons_succ])
          refine wpAnyH_tk (i := 3) (v := ?_) (some 215) rfl rfl (by kernel_rfl) (by decide +kernel) (by decide +kernel) (fun _ _ _ h => h) (by kernel_rfl) ?_ hHeld ?_
          rotate_left
          · (intro w hSw; (try dsimp only at hSw); go_simp <;> with_reducible rfl)
          (try simp only [Act.put, List.setIfInBounds_toArray, List.set_cons_zero, List.set_cons_succ])
          refine wpAnyH_tk (i := 4) (v := ?_) (some 216) rfl rfl (by kernel_rfl) (by decide +kernel) (by decide +kernel) (fun _ _ _ h => h) (by kernel_rfl) ?_ hHeld ?_
          rotate_left
          · (intro w hSw; (try dsimp only at hSw); go_simp <;> with_reducible rfl)
          (try simp only [Act.put, List.setIfInBounds_toArray, List.set_cons_zero, List.set_cons_succ])
          refine wpAnyH_ready (rs := [5, 9]) (by kernel_rfl) (by simp) ?_
          refine (AllReadyH.cons rfl (fun K hK => ?_) (AllReadyH.cons rfl (fun K hK => ?_) AllReadyH.nil))
          · skip
            go_simp
            with_reducible refine Calls.mono (Hput.out _ hHeld.2.2.2) ?_
            rintro e wF ⟨tn, rfl, hot, hbF⟩
            have hqF := bnext hHeld.2.2.2 hbF
            obtain ⟨at', pt, rfl⟩ := hot.shape
            try go_wp2_with fail
            refine hK.out _ _ ?_ (fun hHeld => ?_)
            · exact ⟨cnext hbF hHeld.1, cnext hbF hHeld.2.1, cnext hbF hHeld.2.2.1, hqF⟩
            clear hK K
            (try simp only [Act.put, List.setIfInBounds_toArray, List.set_cons_zero, List.set_cons_succ])
            refine wpAnyH_tk (i := 6) (v := ?_) (some 211) rfl rfl (by kernel_rfl) (by decide +kernel) (by decide +kernel) (fun _ _ _ h => h) (by kernel_rfl) ?_ hHeld ?_
            rotate_left
            · (intro w hSw; (try dsimp only at hSw); go_simp <;> with_reducible rfl)
            (try simp only [Act.put, List.setIfInBounds_toArray, List.set_cons_zero, List.set_cons_succ])
            refine wpAnyH_tk (i := 7) (v := ?_) (some 218) rfl rfl (by kernel_rfl) (by decide +kernel) (by decide +kernel) (fun _ _ _ h => h) (by kernel_rfl) ?_ hHeld ?_
            rotate_left
            · (intro w hSw; (try dsimp only at hSw); go_simp <;> with_reducible rfl)
            (try simp only [Act.put, List.setIfInBounds_toArray, List.set_cons_zero, List.set_cons_succ])
            refine wpAnyH_tk (i := 8) (v := ?_) (some 219) rfl rfl (by kernel_rfl) (by decide +kernel) (by decide +kernel) (fun _ _ _ h => h) (by kernel_rfl) ?_ hHeld ?_
            rotate_left
            · (intro w hSw; (try dsimp only at hSw); go_simp <;> with_reducible rfl)
            (try simp only [Act.put, List.setIfInBounds_toArray, List.set_cons_zero, List.set_cons_succ])
            refine wpAnyH_ready (rs := [9]) (by kernel_rfl) (by simp) ?_
            refine (AllReadyH.cons rfl (fun K hK => ?_) AllReadyH.nil)
            · skip
              go_simp
              obtain ⟨wZ, hwZ⟩ : ∃ W, W = World.alloc wF (.cells #[.int .i64 0, .slice none 0 0] 27) := ⟨_, rfl⟩
              rw [← hwZ]
              have hbZ : Below wF.heap.size wF wZ := hwZ ▸ al_below wF (.cells #[.int .i64 0, .slice none 0 0] 27)
              have hzZ : wZ.heap[wF.heap.size]? = some (.cells #[.int .i64 0, .slice none 0 0] 27 (0, 0)) := by rw [hwZ]; exact heap_alloc_new wF _
              have hqZ := bnext hqF hbZ
              clear hwZ
              refine hK.out _ _ ?_ (fun hHeld => ?_)
              · exact ⟨cnext hbZ hHeld.1, cnext hbZ hHeld.2.1, cnext hbZ hHeld.2.2.1, hqZ⟩
              clear hK K
              (try simp only [Act.put, List.setIfInBounds_toArray, List.set_cons_zero, List.set_cons_succ])
              refine wpAnyH_ready (rs := [10]) (by kernel_rfl) (by simp) ?_
              refine (AllReadyH.cons rfl (fun K hK => ?_) AllReadyH.nil)
              · skip
                have hmo : w34.heap.size + 1 ≤ wr.heap.size := by omega
                have hzz := hzZ
                have hne : (Value.slice at' cn.length pt).ownBlock ≠ some wF.heap.size := by intro e; have h1 := (hot.2.blk wF.heap.size e).2; omega
                obtain ⟨y0, y1, y2, y3⟩ := blk2 hzz
                have hlo : wr.heap.size ≤ wF.heap.size := hqF.size
                have hb9 := below_box hqZ wF.heap.size hlo (.int .i64 l) (.slice at' cn.length pt)
                have HE := Lib.hid (And.intro (blk_set1 (u := .slice at' cn.length pt) (blk_set0 (u := .int .i64 l) hzz)) (And.intro (oi_keep (OI.mono hmo (hot.below hbZ)) hne (.int .i64 l) (.slice at' cn.length pt)) hb9))
                go_simp
                refine hK.out _ _ ?_ (fun hHeld => ?_)
                · exact ⟨cnext hb9 n0, cnext hb9 n1, cnext hb9 hc, hb9⟩
                clear hK K
                (try simp only [Act.put, List.setIfInBounds_toArray, List.set_cons_zero, List.set_cons_succ])
                refine wpAnyH_done (by kernel_rfl) ?_ _
                show wpList _ _ _ _ _ _
                clear hHeld hot hzz hne hb9
                go_wp2
                go_meet
                case rel => exact ⟨wF.heap.size, _, rfl, rfl, HE.out.1, hlo, HE.out.2.1, HE.out.2.2⟩
          · skip
            go_simp
            obtain ⟨wZ, hwZ⟩ : ∃ W, W = (World.alloc wr (.cells #[.int .i64 0, .slice none 0 0] 27)).drew := ⟨_, rfl⟩
            rw [← hwZ]
            have hbZ : Below wr.heap.size wr wZ := hwZ ▸ (al_below wr (.cells #[.int .i64 0, .slice none 0 0] 27)).drew
            have hzZ : wZ.heap[wr.heap.size]? = some (.cells #[.int .i64 0, .slice none 0 0] 27 (0, 0)) := by rw [hwZ]; exact heap_alloc_new wr _
            have hqZ := hbZ
            clear hwZ
            refine hK.out _ _ ?_ (fun hHeld => ?_)
            · exact ⟨cnext hbZ n0, cnext hbZ n1, cnext hbZ hc, hbZ⟩
            clear hK K
            (try simp only [Act.put, List.setIfInBounds_toArray, List.set_cons_zero, List.set_cons_succ])
            refine wpAnyH_ready (rs := [5]) (by kernel_rfl) (by simp) ?_
            refine (AllReadyH.cons rfl (fun K hK => ?_) AllReadyH.nil)
            · skip
              go_simp
              with_reducible refine Calls.mono (Hput.out _ hHeld.2.2.2) ?_
              rintro e wF ⟨tn, rfl, hot, hbF⟩
              have hqF := bnext hHeld.2.2.2 hbF
              obtain ⟨at', pt, rfl⟩ := hot.shape
              try go_wp2_with fail
              refine hK.out _ _ ?_ (fun hHeld => ?_)
              · exact ⟨cnext hbF hHeld.1, cnext hbF hHeld.2.1, cnext hbF hHeld.2.2.1, hqF⟩
              clear hK K
              (try simp only [Act.put, List.setIfInBounds_toArray, List.set_cons_zero, List.set_cons_succ])
              refine wpAnyH_tk (i := 6) (v := ?_) (some 211) rfl rfl (by kernel_rfl) (by decide +kernel) (by decide +kernel) (fun _ _ _ h => h) (by kernel_rfl) ?_ hHeld ?_
              rotate_left
              · (intro w hSw; (try dsimp only at hSw); go_simp <;> with_reducible rfl)
              (try simp only [Act.put, List.setIfInBounds_toArray, List.set_cons_zero, List.set_cons_succ])
              refine wpAnyH_tk (i := 7) (v := ?_) (some 218) rfl rfl (by kernel_rfl) (by decide +kernel) (by decide +kernel) (fun _ _ _ h => h) (by kernel_rfl) ?_ hHeld ?_
              rotate_left
              · (intro w hSw; (try dsimp only at hSw); go_simp <;> with_reducible rfl)
              (try simp only [Act.put, List.setIfInBounds_toArray, List.set_cons_zero, List.set_cons_succ])
              refine wpAnyH_tk (i := 8) (v := ?_) (some 219) rfl rfl (by kernel_rfl) (by decide +kernel) (by decide +kernel) (fun _ _ _ h => h) (by kernel_rfl) ?_ hHeld ?_
              rotate_left
              · (intro w hSw; (try dsimp only at hSw); go_simp <;> with_reducible rfl)
              (try simp only [Act.put, List.setIfInBounds_toArray, List.set_cons_zero, List.set_cons_succ])
              refine wpAnyH_ready (rs := [10]) (by kernel_rfl) (by simp) ?_
              refine (AllReadyH.cons rfl (fun K hK => ?_) AllReadyH.nil)
              · skip
                have hmo : w34.heap.size + 1 ≤ wZ.heap.size := by have := hbZ.size; omega
                have hzz := blk_next hbF hzZ
                have hne : (Value.slice at' cn.length pt).ownBlock ≠ some wr.heap.size := by intro e; have h1 := (hot.2.blk wr.heap.size e).1; have h2 := blk_lt hzZ; omega
                obtain ⟨y0, y1, y2, y3⟩ := blk2 hzz
                have hlo : wr.heap.size ≤ wr.heap.size := Nat.le_refl _
                have hb9 := below_box hqF wr.heap.size hlo (.int .i64 l) (.slice at' cn.length pt)
                have HE := Lib.hid (And.intro (blk_set1 (u := .slice at' cn.length pt) (blk_set0 (u := .int .i64 l) hzz)) (And.intro (oi_keep (OI.mono hmo hot) hne (.int .i64 l) (.slice at' cn.length pt)) hb9))
                go_simp
                refine hK.out _ _ ?_ (fun hHeld => ?_)
                · exact ⟨cnext hb9 n0, cnext hb9 n1, cnext hb9 hc, hb9⟩
                clear hK K
                (try simp only [Act.put, List.setIfInBounds_toArray, List.set_cons_zero, List.set_cons_succ])
                refine wpAnyH_done (by kernel_rfl) ?_ _
                show wpList _ _ _ _ _ _
                clear hHeld hot hzz hne hb9
                go_wp2
                go_meet
                case rel => exact ⟨wr.heap.size, _, rfl, rfl, HE.out.1, hlo, HE.out.2.1, HE.out.2.2⟩
        case rest =>
          obtain ⟨gw, tn, rfl, rfl, hg, hgw, hot, hbx⟩ := hcut
          clear n0 n1 n2 n3 hc
          have hNx := blk_next hbx Hnb.out
          obtain ⟨m0, m1, m2, m3⟩ := blk2 hNx
          obtain ⟨g0, g1, g2, g3⟩ := blk2 hg
          obtain ⟨at', pt, rfl⟩ := hot.shape
          have HF := Lib.hid (And.intro (blk_set1 (u := .slice at' cn.length pt) (blk_set0 (u := .int .i64 l) hNx)) (And.intro (hot.box w34.heap.size (by omega) (.int .i64 l) (.slice at' cn.length pt)) (below_box (bnext HBr.out hbx) w34.heap.size (Nat.le_refl _) (.int .i64 l) (.slice at' cn.length pt))))
          clear hg hot hNx hbx
          go_wp2
          go_roundw
          case rel => exact ⟨k + 1, _, by go_num, by omega, HF.out.1, by rw [Hcn.out]; exact HF.out.2.1.ri, HF.out.2.2⟩
          case measure => simp [intOf]; omega
      · have hke : k = zs.length := by omega
        have hkI : ¬ (k : Int) < (zs.length : Int) := by omega
        rw [hke, List.take_length] at hnr
        clear hke hk hkn
        obtain ⟨an, pn, rfl⟩ := hnr.shape
        have Hn := Lib.hid hnr
        have Xn := Lib.hid hnb
        clear hnr hnb hMlt
        have Hc := Lib.hid (Hc.out.below hBr)
        have Hx := Lib.hid (Hx.out.below hBr)
        have Hb := Lib.hid (Hb.out.below hBr)
        have Hk := Lib.hid (Hk.out.below hBr)
        have Hg := Lib.hid (Hg.out.below hBr)
        have Hy := Lib.hid (Hy.out.below hBr)
        have HL := Lib.hid (HL.out.below hBr)
        have He := Lib.hid (He.out.below hBr)
        have Hq := Lib.hid (Hq.out.below hBr)
        have X1 := Lib.hid (blk_next hBr X1.out)
        have X2 := Lib.hid (blk_next hBr X2.out)
        have X3 := Lib.hid (blk_next hBr X3.out)
        have HB := Lib.hid (bnext HB.out hBr)
        clear hBr hMr
        obtain ⟨c10, c11, c12, c13⟩ := blk2 X1.out
        go_wp2_with fail
        refine (implHalve_any l _ cs _ Hc.out.ri).mono ?_
        rw [R.out.cts, R.out.ha.1, R.out.ha.2]
        rintro e w35 ⟨vh, rfl, ho, hb35⟩
        clear c10 c11 c12 c13
        have Hc := Lib.hid (Hc.out.below hb35)
        have Hx := Lib.hid (Hx.out.below hb35)
        have Hb := Lib.hid (Hb.out.below hb35)
        have Hk := Lib.hid (Hk.out.below hb35)
        have Hg := Lib.hid (Hg.out.below hb35)
        have Hy := Lib.hid (Hy.out.below hb35)
        have HL := Lib.hid (HL.out.below hb35)
        have He := Lib.hid (He.out.below hb35)
        have Hq := Lib.hid (Hq.out.below hb35)
        have Hn := Lib.hid (Hn.out.below hb35)
        have X1 := Lib.hid (blk_next hb35 X1.out)
        have X2 := Lib.hid (blk_next hb35 X2.out)
        have X3 := Lib.hid (blk_next hb35 X3.out)
        have Xn := Lib.hid (blk_next hb35 Xn.out)
        have HB := Lib.hid (bnext HB.out hb35)
        have Hh := Lib.hid ho
        obtain ⟨ah, ph, rfl⟩ := ho.shape
        clear ho
        clear hb35
        obtain ⟨w36, hw36⟩ : ∃ W, w35.alloc (.cells #[.int .i64 l, .slice ah (halve cs).length ph] 27) = W := ⟨_, rfl⟩
        have hb36 : Below w35.heap.size w35 w36 := by rw [← hw36]; go_grown
        have X4 := Lib.hid (show w36.heap[w35.heap.size]? = some (.cells #[.int .i64 l, .slice ah (halve cs).length ph] 27 (0, 0)) by rw [← hw36]; exact heap_alloc_new _ _)
        have Hc := Lib.hid (Hc.out.below hb36)
        have Hx := Lib.hid (Hx.out.below hb36)
        have Hb := Lib.hid (Hb.out.below hb36)
        have Hk := Lib.hid (Hk.out.below hb36)
        have Hg := Lib.hid (Hg.out.below hb36)
        have Hy := Lib.hid (Hy.out.below hb36)
        have HL := Lib.hid (HL.out.below hb36)
        have He := Lib.hid (He.out.below hb36)
        have Hq := Lib.hid (Hq.out.below hb36)
        have Hn := Lib.hid (Hn.out.below hb36)
        have Hh := Lib.hid (Hh.out.below hb36)
        have X1 := Lib.hid (blk_next hb36 X1.out)
        have X2 := Lib.hid (blk_next hb36 X2.out)
        have X3 := Lib.hid (blk_next hb36 X3.out)
        have Xn := Lib.hid (blk_next hb36 Xn.out)
        have HB := Lib.hid (bnext HB.out hb36)
        clear hb36
        have hss : sameS (l : Int) l (coF zs (ones l)) (coF zs (ones l)) = true := by simp [sameS, eqL_self]
        have Hss := Lib.hid hss
        clear hss hkI
        obtain ⟨cn0, cn1, cn2, cn3⟩ := blk2 Xn.out
        obtain ⟨c30, c31, c32, c33⟩ := blk2 X3.out
        go_wp2_with fail
        refine (implSameC_any l _ (coF zs (ones l)) l _ (coF zs (ones l)) _ Hn.out Hq.out.ri).mono ?_
        rw [Hss.out]
        rintro e w37 ⟨rfl, hb37⟩
        clear cn0 cn1 cn2 cn3
        clear c30 c31 c32 c33
        have Hc := Lib.hid (Hc.out.below hb37)
        have Hx := Lib.hid (Hx.out.below hb37)
        have Hb := Lib.hid (Hb.out.below hb37)
        have Hk := Lib.hid (Hk.out.below hb37)
        have Hg := Lib.hid (Hg.out.below hb37)
        have Hy := Lib.hid (Hy.out.below hb37)
        have HL := Lib.hid (HL.out.below hb37)
        have He := Lib.hid (He.out.below hb37)
        have Hq := Lib.hid (Hq.out.below hb37)
        have Hn := Lib.hid (Hn.out.below hb37)
        have Hh := Lib.hid (Hh.out.below hb37)
        have X1 := Lib.hid (blk_next hb37 X1.out)
        have X2 := Lib.hid (blk_next hb37 X2.out)
        have X3 := Lib.hid (blk_next hb37 X3.out)
        have Xn := Lib.hid (blk_next hb37 Xn.out)
        have X4 := Lib.hid (blk_next hb37 X4.out)
        have HB := Lib.hid (bnext HB.out hb37)
        clear hb37
        clear hw36
        obtain ⟨cn0, cn1, cn2, cn3⟩ := blk2 Xn.out
        obtain ⟨c30, c31, c32, c33⟩ := blk2 X3.out
        go_wp2_with fail
        refine (b10Ints_any _ _ (coF zs (ones l)) (coF zs (ones l)) _ Hn.out Hq.out.ri).mono ?_
        rw [eqL_self]
        rintro e w38 ⟨rfl, m38, hw38⟩
        clear cn0 cn1 cn2 cn3
        clear c30 c31 c32 c33
        have hb38 := below_of_drew hw38
        clear hw38
        have Hc := Lib.hid (Hc.out.below hb38)
        have Hx := Lib.hid (Hx.out.below hb38)
        have Hb := Lib.hid (Hb.out.below hb38)
        have Hk := Lib.hid (Hk.out.below hb38)
        have Hg := Lib.hid (Hg.out.below hb38)
        have Hy := Lib.hid (Hy.out.below hb38)
        have HL := Lib.hid (HL.out.below hb38)
        have He := Lib.hid (He.out.below hb38)
        have Hq := Lib.hid (Hq.out.below hb38)
        have Hn := Lib.hid (Hn.out.below hb38)
        have Hh := Lib.hid (Hh.out.below hb38)
        have X1 := Lib.hid (blk_next hb38 X1.out)
        have X2 := Lib.hid (blk_next hb38 X2.out)
        have X3 := Lib.hid (blk_next hb38 X3.out)
        have Xn := Lib.hid (blk_next hb38 Xn.out)
        have X4 := Lib.hid (blk_next hb38 X4.out)
        have HB := Lib.hid (bnext HB.out hb38)
        clear hb38
        obtain ⟨c40, c41, c42, c43⟩ := blk2 X4.out
        obtain ⟨c10, c11, c12, c13⟩ := blk2 X1.out
        have hhl : (halve cs).length = cs.length := by simp [halve]
        have hhn : (((halve cs).length : Int) != (cs.length : Int)) = false := by rw [hhl]; simp
        have Hhl := Lib.hid hhl
        clear hhl
        go_wp2_with fail
        clear hhn
        clear c40 c41 c42 c43
        clear c10 c11 c12 c13
        go_loopw [257] (fun kv wr => ∃ k : Nat, kv = .int .i64 k ∧ k ≤ (halve cs).length ∧ Below w38.heap.size w38 wr) (fun kv _ => (halve cs).length - (intOf kv).toNat)
        case atStart => exact ⟨0, rfl, Nat.zero_le _, Below.refl _ _⟩
        case round =>
          obtain ⟨j, rfl, hj, hBz⟩ := hrel
          by_cases hjl : j < (halve cs).length
          · have hjc : j < cs.length := by have := Hhl.out; omega
            have hj9 : j < 6 := by have := R.out.cl; omega
            obtain ⟨bh, oh, eh, -, hch⟩ := (Hh.out.below hBz).ri.2.cells (by omega)
            obtain rfl := eh
            have hc4 := hch j hjl
            obtain ⟨bc, oc, ec, -, hcc⟩ := (Hc.out.below hBz).ri.2.cells (by omega)
            obtain rfl := ec
            have hc5 := hcc j hjc
            rw [show (halve cs)[j] = (cs[j] + 1) / 2 by simp [halve]] at hc4
            have hx := R.out.c cs[j] (List.getElem_mem hjc)
            generalize cs[j] = x at *
            clear hch hcc
            obtain ⟨m0, m1, m2, m3⟩ := blk2 (blk_next hBz X4.out)
            obtain ⟨n0, n1, n2, n3⟩ := blk2 (blk_next hBz X1.out)
            have HBz := Lib.hid hBz
            have hx1 := hx.1
            have hx2 := hx.2
            have hjI : (j : Int) < ((halve cs).length : Int) := by omega
            have hjI2 : (j : Int) < (cs.length : Int) := by omega
            clear hBz hx
            go_wp2_with fail
            go_quiet (fail)
            go_wp2
            go_roundw
            case rel => exact ⟨j + 1, by go_num, by omega, bnext HBz.out (by first | exact Below.refl _ _ | exact below_drewN _ _)⟩
            case measure => simp [intOf]; omega
          · have hjI : ¬ (j : Int) < ((halve cs).length : Int) := by omega
            have HF := Lib.hid (bnext HB.out hBz)
            clear hBz
            go_wp2
            go_ret
            exact ⟨rfl, HF.out⟩

set_option maxRecDepth 100000 in
theorem lifted (os : Os) (started : os.Started) (H : Type) (enc : TypeId × Value → H) :
    ReturnsInHanded {} Try.checked os 3 .any (Rows.fnRangedSpec.pre6 enc Try.prog Try.f3 Rows.fnRangedRow.domain false) (Rows.fnRangedSpec.post enc Try.prog Try.f3 false true false false) := by
  refine returnsInHanded_of_change (C := Try.checked) own started (by kernel_rfl) Try.func3
    (ChangeSpec.witness6 (enc := enc) (C := Try.checked) false ⟨#[], #[.slice none 0 0, .slice none 0 0], []⟩ 8 (by kernel_rfl) (by kernel_rfl) (by kernel_rfl) (by kernel_rfl)) ?_
  intro W base args ds gs before hval0 hW hcnd _
  have hval : ∀ (j : Nat) t v, Try.f3.params[j]? = some t → args[j]? = some v → Value.okWide Try.prog W .any base t v := hval0
  have hW' := hW
  obtain ⟨p, q, hA0, hV, rfl, hfz, hnd⟩ := hW
  have hA : DataW.TrodAll enc Try.prog W 0 (fun _ => true) true Try.f3.params.toList args.toList ds p := hA0
  rw [Try.params3] at hA hval
  obtain ⟨v0, vs0, d0, ds0, p0, q0, hargs, rfl, rfl, h0, r0⟩ := trodAll_cons hA
  obtain ⟨v1, vs1, d1, ds1, p1, q1, rfl, rfl, rfl, h1, r1⟩ := trodAll_cons r0
  obtain ⟨rfl, rfl, rfl⟩ := trodAll_nil r1
  obtain rfl : args = #[v0, v1] := by cases args; simp_all
  obtain ⟨rfl, rfl⟩ := trodVars_none hV
  have k0 := h0
  have lt0 : ∀ x ∈ p0, x.block < W.heap.size := by obtain ⟨m, hm⟩ := k0; exact DataW.trod_lt m _ _ _ hm
  obtain ⟨z0, w0⟩ := view_bytes (hval 0 22 v0 rfl rfl) h0
  have k1 := h1
  have lt1 : ∀ x ∈ p1, x.block < W.heap.size := by obtain ⟨m, hm⟩ := k1; exact DataW.trod_lt m _ _ _ hm
  obtain ⟨z1, w1⟩ := view_bytes (hval 1 22 v1 rfl rfl) h1
  clear hA0 hval0
  refine (walk v0 z0 v1 z1 W w0 w1).mono fun e W' ⟨he, bel⟩ => ?_
  subst he
  exact ⟨_, rfl, _, _, _, [], _, [], hW', trodAll_mk1 (shut_bool Try.underlying4 _), (trodAll_cons_mk (Below.trod laidOut (by kernel_rfl) (of_decide_eq_true (by kernel_rfl)) k0 bel lt0) (trodAll_cons_mk (Below.trod laidOut (by kernel_rfl) (of_decide_eq_true (by kernel_rfl)) k1 bel lt1) trodAll_mk0)), rfl, bel.frame _, fun h => by cases h⟩

theorem over : Rows.fnRangedRow.holds Try.pinned (OpenSpec.ofChange Rows.fnRangedSpec) :=
  OpenClaim.holds_of_wide 3 Try.f3 rfl rfl rfl rfl rfl rfl rfl ⟨rfl, rfl, rfl, rfl, rfl⟩ rfl rfl rfl rfl rfl (by kernel_rfl) Try.func3 (by kernel_rfl)
    (of_decide_eq_true (by kernel_rfl)) (by unfold Func.isWrapper; first | (rw [if_pos (by decide +kernel)]; kernel_rfl) | (rw [if_neg (by decide +kernel)]; exact ⟨rfl, rfl⟩))
    (fun os started H enc _ => lifted os started H enc)

theorem proved : Rows.FnRangedSaid := over
end Go.Proofs.Ytbhconogaoghmaa.fnRanged
