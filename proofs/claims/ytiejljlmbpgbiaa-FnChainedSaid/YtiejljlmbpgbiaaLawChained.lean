/- 'laws.FnChained' returns true for all arguments: chains of channels tell no more than each of them, nearly, and channels beside one another tell the sum, nearly. No conditions. -/
import Derived.Test.YtiejljlmbpgbiaaChdC
import Derived.Test.YtiejljlmbpgbiaaFrame
import Derived.Test.YtiejljlmbpgbiaaState
namespace Go.Proofs.Ytiejljlmbpgbiaa.fnChained
open Go.ChangeShapes Go.WideShapes Go.ChangeAt Go.RowKit
set_option maxRecDepth 100000
set_option linter.unusedVariables false
set_option linter.unusedSimpArgs false

set_option maxHeartbeats 8000000 in
theorem walk (v0 : Value) (z0 : List Int) (v1 : Value) (z1 : List Int) (w : World) (h0 : RB w v0 z0) (h1 : RB w v1 z1) :
    Calls Try.prog 4 #[v0, v1] w fun e w' => e = .returned (.bool true) ∧ Below w.heap.size w w' := by
  by_cases hlong : (decide (1048576 < z0.length) || decide (1048576 < z1.length)) = true
  · go_enter Try.func4, Try.ntmps4
    go_wp2_with fail
    refine (b10Long_any _ _ z0 z1 _ h0 h1).mono ?_
    rw [hlong]
    rintro e w1 ⟨rfl, rfl⟩
    go_wp2
    go_ret
    exact ⟨rfl, Below.refl _ _⟩
  · have hlong : (decide (1048576 < z0.length) || decide (1048576 < z1.length)) = false := by simpa using hlong
    have hl0 : z0.length ≤ 1048576 := by
      rcases Nat.lt_or_ge 1048576 z0.length with h | h
      · rw [decide_eq_true h] at hlong; simp at hlong
      · exact h
    have hl1 : z1.length ≤ 1048576 := by
      rcases Nat.lt_or_ge 1048576 z1.length with h | h
      · rw [decide_eq_true h] at hlong; simp at hlong
      · exact h
    have H0 := Lib.hid h0
    have H1 := Lib.hid h1
    have Hlong := Lib.hid hlong
    clear h0 h1 hlong
    go_enter Try.func4, Try.ntmps4
    go_wp2_with fail
    refine (b10Long_any _ _ z0 z1 _ H0.out H1.out).mono ?_
    rw [Hlong.out]
    rintro e w1 ⟨rfl, rfl⟩
    go_wp2_with fail
    refine (b10At_any _ z1 0 2 _ H1.out (by omega) (by omega) (by omega)).mono ?_
    rintro e w1 ⟨ma0, ha0, ha1, rfl, rfl⟩
    obtain ⟨ma, hma⟩ : ∃ m : Nat, (2 : Int) + ma0 = m := ⟨(2 + ma0).toNat, by omega⟩
    have hm2 : 2 ≤ ma := by omega
    have hm3 : ma ≤ 3 := by omega
    have hwr : IntKind.i64.wrap (2 + ma0) = (ma : Int) := by rw [hma]; exact IntWalk.i64_in _ (by omega)
    go_wp2_with fail
    refine (b10Cha_any _ z0 2 ma _ H0.out (by omega) (by omega) (by omega) (by omega) (by omega)).mono ?_
    rintro e w2 ⟨va, ra, rfl, hoa, hra, hra', hb2⟩
    have DA := Lib.hid (show Dr ra 2 ma from ⟨hra, hra', by omega, by omega⟩)
    clear hra hra' hwr hma ha0 ha1
    obtain ⟨aa, ca, rfl⟩ := hoa.rg.shape
    have Ha := Lib.hid hoa.rg
    clear hoa
    obtain ⟨W2, hW2⟩ : ∃ W, w2.alloc (.cells #[.int .i64 2, .int .i64 ma, .slice aa (rwsL ra).length ca] 27) = W := ⟨_, rfl⟩
    have hbA : Below w2.heap.size w2 W2 := by rw [← hW2]; go_grown
    have PA : ChP W2 w2.heap.size 2 ma (.slice aa (rwsL ra).length ca) := by rw [← hW2]; exact ⟨by simp [go_sem], by simp [go_sem], by simp [go_sem]⟩
    have Hb2 := Lib.hid (bnext hb2 hbA)
    have Ha := Lib.hid (Ha.out.below hbA)
    have PA := Lib.hid PA
    clear hb2 hbA
    obtain ⟨a0, a1, a2⟩ := PA.out
    go_wp2_with fail
    clear hW2
    refine (b10Cha_any _ z1 ma 2 _ (H1.out.below Hb2.out) (by omega) (by omega) (by omega) (by omega) (by omega)).mono ?_
    rintro e w3 ⟨vb, rb, rfl, hob, hrb, hrb', hb3⟩
    have DB := Lib.hid (show Dr rb ma 2 from ⟨hrb, hrb', by omega, by omega⟩)
    obtain ⟨ab, cb, rfl⟩ := hob.rg.shape
    obtain ⟨W3, hW3⟩ : ∃ W, w3.alloc (.cells #[.int .i64 ma, .int .i64 2, .slice ab (rwsL rb).length cb] 27) = W := ⟨_, rfl⟩
    have hbB : Below w3.heap.size w3 W3 := by rw [← hW3]; go_grown
    have PB := Lib.hid (show ChP W3 w3.heap.size ma 2 (.slice ab (rwsL rb).length cb) by rw [← hW3]; exact ⟨by simp [go_sem], by simp [go_sem], by simp [go_sem]⟩)
    have Hb := Lib.hid (hob.rg.below hbB)
    have hb3' := bnext hb3 hbB
    have Ha := Lib.hid (Ha.out.below hb3')
    have PA := Lib.hid (PA.out.below hb3')
    have Hb3 := Lib.hid (bnext Hb2.out hb3')
    clear hrb hrb' hob hb3 hbB hb3' Hb2 a0 a1 a2
    go_wp2_with fail
    clear hW3
    refine (b10Chs_any _ z1 2 _ (H1.out.below Hb3.out) (by omega) (by omega) (by omega)).mono ?_
    rintro e w4 ⟨vr, cs, rfl, hor, hcl, hcp, hb4⟩
    have Hcs := Lib.hid (And.intro hcp hcl)
    have Hr := Lib.hid hor.rg
    have Ha := Lib.hid (Ha.out.below hb4)
    have Hb := Lib.hid (Hb.out.below hb4)
    have PA := Lib.hid (PA.out.below hb4)
    have PB := Lib.hid (PB.out.below hb4)
    have Hb4 := Lib.hid (bnext Hb3.out hb4)
    have hrl : (rwL cs).length = 2 := by rw [rwL_len]; exact hcl
    obtain ⟨ar, cr, rfl⟩ := hor.rg.shape
    rw [hrl] at Hr ⊢
    obtain ⟨br, fr, rfl, -⟩ := getD_cell Hr.out 0 (by omega)
    clear hrl
    clear hcp hcl hor hb4 Hb3
    have T1 := Lib.hid (tld_chain DA.out DB.out Hcs.out.1 Hcs.out.2 (by decide) (by decide) (by omega) (by decide))
    have T2 := Lib.hid (tld_drawn DA.out Hcs.out.1 Hcs.out.2 (by decide) (by decide) (by omega))
    have T3 := Lib.hid (tld_mid DA.out DB.out Hcs.out.1 Hcs.out.2 (by decide) (by decide) (by omega) (by omega))
    obtain ⟨a0, a1, a2⟩ := PA.out
    obtain ⟨b0, b1, b2⟩ := PB.out
    go_wp2_with fail
    refine (co_t T2.out.chan T3.out.chan T1.out.chan _ _ _ Ha.out Hb.out).mono ?_
    rintro e w5 ⟨vc, rfl, hoc, hb5⟩
    obtain ⟨ac, cc, rfl⟩ := hoc.rg.shape
    obtain ⟨W5, hW5⟩ : ∃ W, w5.alloc (.cells #[.int .i64 2, .int .i64 2, .slice ac (chL (rwsL ra) (rwsL rb) ma 2 2).length cc] 27) = W := ⟨_, rfl⟩
    have hbC : Below w5.heap.size w5 W5 := by rw [← hW5]; go_grown
    have PC := Lib.hid (show ChP W5 w5.heap.size 2 2 (.slice ac (chL (rwsL ra) (rwsL rb) ma 2 2).length cc) by rw [← hW5]; exact ⟨by simp [go_sem], by simp [go_sem], by simp [go_sem]⟩)
    have Hc := Lib.hid (hoc.rg.below hbC)
    have hb5' := bnext hb5 hbC
    have Hr := Lib.hid (Hr.out.below hb5')
    have Ha := Lib.hid (Ha.out.below hb5')
    have Hb := Lib.hid (Hb.out.below hb5')
    have PA := Lib.hid (PA.out.below hb5')
    have PB := Lib.hid (PB.out.below hb5')
    have Hb5 := Lib.hid (bnext Hb4.out hb5')
    clear hoc hb5 hbC hb5' Hb4 a0 a1 a2 b0 b1 b2
    obtain ⟨a0, a1, a2⟩ := PA.out
    obtain ⟨b0, b1, b2⟩ := PB.out
    obtain ⟨c0, c1, c2⟩ := PC.out
    go_wp2_with fail
    refine (told_t T1.out _ _ _ Hc.out Hr.out).mono ?_
    rintro e w6 ⟨rfl, hb⟩
    have Hr := Lib.hid (Hr.out.below hb)
    have Ha := Lib.hid (Ha.out.below hb)
    have Hb := Lib.hid (Hb.out.below hb)
    have PA := Lib.hid (PA.out.below hb)
    have PB := Lib.hid (PB.out.below hb)
    have PC := Lib.hid (PC.out.below hb)
    have Hb6 := Lib.hid (bnext Hb5.out hb)
    clear hb Hb5
    clear a0 a1 a2 b0 b1 b2 c0 c1 c2
    obtain ⟨a0, a1, a2⟩ := PA.out
    obtain ⟨b0, b1, b2⟩ := PB.out
    obtain ⟨c0, c1, c2⟩ := PC.out
    go_wp2_with fail
    refine (toldS_t T2.out _ _ _ Ha.out Hr.out).mono ?_
    rintro e w7 ⟨rfl, hb⟩
    have Hr := Lib.hid (Hr.out.below hb)
    have Ha := Lib.hid (Ha.out.below hb)
    have Hb := Lib.hid (Hb.out.below hb)
    have PA := Lib.hid (PA.out.below hb)
    have PB := Lib.hid (PB.out.below hb)
    have PC := Lib.hid (PC.out.below hb)
    have Hb7 := Lib.hid (bnext Hb6.out hb)
    clear hb Hb6
    clear a0 a1 a2 b0 b1 b2 c0 c1 c2
    obtain ⟨a0, a1, a2⟩ := PA.out
    obtain ⟨b0, b1, b2⟩ := PB.out
    obtain ⟨c0, c1, c2⟩ := PC.out
    go_wp2_with fail
    refine (thrS_t T2.out _ _ _ Ha.out Hr.out).mono ?_
    rintro e w8 ⟨vm, rfl, hom, hb⟩
    obtain ⟨am, cm, rfl⟩ := hom.rg.shape
    have Hm := Lib.hid hom.rg
    have Hr := Lib.hid (Hr.out.below hb)
    have Ha := Lib.hid (Ha.out.below hb)
    have Hb := Lib.hid (Hb.out.below hb)
    have PA := Lib.hid (PA.out.below hb)
    have PB := Lib.hid (PB.out.below hb)
    have PC := Lib.hid (PC.out.below hb)
    have Hb8 := Lib.hid (bnext Hb7.out hb)
    clear hb Hb7 hom
    clear a0 a1 a2 b0 b1 b2 c0 c1 c2
    obtain ⟨a0, a1, a2⟩ := PA.out
    obtain ⟨b0, b1, b2⟩ := PB.out
    obtain ⟨c0, c1, c2⟩ := PC.out
    go_wp2_with fail
    refine (toldS_t T3.out _ _ _ Hb.out Hm.out).mono ?_
    rintro e w9 ⟨rfl, hb⟩
    have Hr := Lib.hid (Hr.out.below hb)
    have Ha := Lib.hid (Ha.out.below hb)
    have Hb := Lib.hid (Hb.out.below hb)
    have PA := Lib.hid (PA.out.below hb)
    have PB := Lib.hid (PB.out.below hb)
    have PC := Lib.hid (PC.out.below hb)
    have Hb9 := Lib.hid (bnext Hb8.out hb)
    clear hb Hb8
    clear a0 a1 a2 b0 b1 b2 c0 c1 c2
    have hm1 : 1 ≤ ma := by omega
    have SOK : ChanOk (2 * ma) (ma * 2) (gridA (sdF (rwsL ra) (rwsL rb) ma ma 2) (2 * ma) (ma * 2)) := by
      have hp : Prt (List.replicate ma 1) := fun c hc => by rw [List.mem_replicate] at hc; omega
      exact (tld_side DA.out DB.out Hcs.out.1 Hcs.out.2 hp (by simp) hm3).chan
    have HS := Lib.hid (fun W v u h h' => side_yes 2 ma ma 2 v u (rwsL ra) (rwsL rb) W h h' T2.out.chan T3.out.chan SOK)
    clear SOK
    obtain ⟨sa, hsa⟩ : ∃ n, 2 * ma = n := ⟨_, rfl⟩
    obtain ⟨sb, hsb⟩ : ∃ n, ma * 2 = n := ⟨_, rfl⟩
    rw [hsa, hsb] at HS
    have HSA := Lib.hid (And.intro hsa hsb)
    clear hsa hsb
    obtain ⟨a0, a1, a2⟩ := PA.out
    obtain ⟨b0, b1, b2⟩ := PB.out
    obtain ⟨c0, c1, c2⟩ := PC.out
    go_wp2_with fail
    refine (HS.out _ _ _ Ha.out Hb.out).mono ?_
    rintro e w10 ⟨vd, rfl, hod, hb⟩
    obtain ⟨ad, cd, rfl⟩ := hod.rg.shape
    have Hd0 := Lib.hid hod.rg
    have Hr := Lib.hid (Hr.out.below hb)
    have Ha := Lib.hid (Ha.out.below hb)
    have Hb := Lib.hid (Hb.out.below hb)
    have PA := Lib.hid (PA.out.below hb)
    have PB := Lib.hid (PB.out.below hb)
    have PC := Lib.hid (PC.out.below hb)
    have Hb10 := Lib.hid (bnext Hb9.out hb)
    clear hb Hb9 HS hod
    clear a0 a1 a2 b0 b1 b2 c0 c1 c2
    obtain ⟨W10, hW10⟩ : ∃ W, w10.alloc (.cells #[.int .i64 sa, .int .i64 sb, .slice ad (gridA (sdF (rwsL ra) (rwsL rb) ma ma 2) sa sb).length cd] 27) = W := ⟨_, rfl⟩
    have hb : Below w10.heap.size w10 W10 := by rw [← hW10]; go_grown
    have PD := Lib.hid (show ChP W10 w10.heap.size sa sb (.slice ad (gridA (sdF (rwsL ra) (rwsL rb) ma ma 2) sa sb).length cd) by rw [← hW10]; exact ⟨by simp [go_sem], by simp [go_sem], by simp [go_sem]⟩)
    have Hd := Lib.hid (Hd0.out.below hb)
    have Hr := Lib.hid (Hr.out.below hb)
    have Ha := Lib.hid (Ha.out.below hb)
    have Hb := Lib.hid (Hb.out.below hb)
    have PA := Lib.hid (PA.out.below hb)
    have PB := Lib.hid (PB.out.below hb)
    have PC := Lib.hid (PC.out.below hb)
    have Hb11 := Lib.hid (bnext Hb10.out hb)
    clear hb Hb10 Hd0
    have HC := Lib.hid (fun co (hp : Prt co) (hl : co.length = ma) => chd_all DA.out DB.out Hcs.out.1 Hcs.out.2 hp hl hm3)
    have HC0 := HC.out (List.replicate ma 1) (fun c hc => by rw [List.mem_replicate] at hc; omega) (by simp)
    have c_ut := cvt_up _ _ HC0.ut
    have c_uf := cvt_up _ _ HC0.uf
    have c_us := cvt_up _ _ HC0.us
    have c_a1 := run_op (P := Try.prog) HC0.a1
    have c_a2 := run_op (P := Try.prog) HC0.a2
    have c_c1 := HC0.c1
    have c_c2 := HC0.c2
    clear HC0
    have EC := Lib.hid (fun (h : Nat) (a : Nat) => (rfl : h + a = h + a))
    have i1 : IntKind.i64.wrap (2 * (ma : Int)) = (sa : Int) := by
      have e : (2 : Int) * (ma : Int) = (sa : Int) := by have := HSA.out.1; omega
      rw [e]; exact IntWalk.i64_in _ (by have := HSA.out.1; omega)
    have i2 : IntKind.i64.wrap ((ma : Int) * 2) = (sb : Int) := by
      have e : (ma : Int) * 2 = (sb : Int) := by have := HSA.out.2; omega
      rw [e]; exact IntWalk.i64_in _ (by have := HSA.out.2; omega)
    have n1 : ((sa : Int) != (sa : Int)) = false := by simp
    have n2 : ((sb : Int) != (sb : Int)) = false := by simp
    have n3 : (sa != sa) = false := by simp
    have n4 : (sb != sb) = false := by simp
    clear EC
    obtain ⟨tT, htT⟩ : ∃ x, tdW (rwL cs) (chL (rwsL ra) (rwsL rb) ma 2 2) 2 2 = x := ⟨_, rfl⟩
    obtain ⟨tF, htF⟩ : ∃ x, tdW (rwL cs) (rwsL ra) 2 ma = x := ⟨_, rfl⟩
    obtain ⟨tS, htS⟩ : ∃ x, tdW (thL (rwL cs) (rwsL ra) 2 ma ma) (rwsL rb) ma 2 = x := ⟨_, rfl⟩
    simp only [htT, htF, htS] at c_ut c_uf c_us c_a1 c_a2 c_c1 c_c2 HC ⊢
    clear htT htF htS
    generalize fadd .f64 (fup tF) 4562254508917369340 = s1 at *
    generalize fadd .f64 (fup tS) 4562254508917369340 = s2 at *
    obtain ⟨uT, huT⟩ : ∃ x, fup tT = x := ⟨_, rfl⟩
    obtain ⟨uF, huF⟩ : ∃ x, fup tF = x := ⟨_, rfl⟩
    obtain ⟨uS, huS⟩ : ∃ x, fup tS = x := ⟨_, rfl⟩
    rw [huT] at c_ut c_c1 c_c2
    rw [huF] at c_uf c_a1
    rw [huS] at c_us c_a2
    have HUF := Lib.hid huF
    clear huT huF huS
    obtain ⟨a0, a1, a2⟩ := PA.out
    obtain ⟨b0, b1, b2⟩ := PB.out
    obtain ⟨c0, c1, c2⟩ := PC.out
    obtain ⟨d0, d1, d2⟩ := PD.out
    go_wp2_with (first | simp only [c_ut] | simp only [c_uf] | simp only [c_us] | simp only [c_a1] | simp only [c_a2] | simp only [c_c1] | simp only [c_c2] | simp only [i1] | simp only [i2] | simp only [n1] | simp only [n2] | fail)
    clear c_ut c_us c_a1 c_a2 c_c1 c_c2 i1 i2 n1 n2 n3 n4 hW10
    clear a0 a1 a2 b0 b1 b2 c0 c1 c2 d0 d1 d2
    refine (b10Chs_any _ z0 ma _ (H0.out.below Hb11.out) (by omega) (by omega) (by omega)).mono ?_
    rintro e w11 ⟨vo, co, rfl, hoo, hcl, hcp, hb⟩
    have Hco := Lib.hid (And.intro hcp hcl)
    have hol : (rwL co).length = ma := by rw [rwL_len]; exact hcl
    have hoo' := hoo.rg
    obtain ⟨ao, co', rfl⟩ := hoo.rg.shape
    rw [hol] at hoo' ⊢
    obtain ⟨bo, fo, rfl, -⟩ := getD_cell hoo' 0 (by omega)
    have Ho := Lib.hid hoo'
    have Hol := Lib.hid hol
    have Hd := Lib.hid (Hd.out.below hb)
    have PD := Lib.hid (PD.out.below hb)
    have Hr := Lib.hid (Hr.out.below hb)
    have Ha := Lib.hid (Ha.out.below hb)
    have Hb := Lib.hid (Hb.out.below hb)
    have PA := Lib.hid (PA.out.below hb)
    have PB := Lib.hid (PB.out.below hb)
    have PC := Lib.hid (PC.out.below hb)
    have Hb12 := Lib.hid (bnext Hb11.out hb)
    clear hcp hcl hoo hoo' hol hb Hb11
    have T4 := Lib.hid (tld_side DA.out DB.out Hcs.out.1 Hcs.out.2 Hco.out.1 Hco.out.2 hm3)
    have T5 := Lib.hid (tld_drawn DB.out Hco.out.1 Hco.out.2 (by omega) (by omega) (by omega))
    have HC := Lib.hid (HC.out co Hco.out.1 Hco.out.2)
    obtain ⟨f, hf⟩ : ∃ f, bothF (rwL cs) (rwL co) = f := ⟨_, rfl⟩
    have Hf := Lib.hid (fun i k (hi : i < 2) (hk : k < ma) => (ch_mul (row_ch T2.out.rowk T2.out.rl i hi) (row_ch T5.out.rowk T5.out.rl k hk)).1)
    have Hfe := Lib.hid (fun i k => (congrFun (congrFun hf i) k).symm)
    rw [hf] at T4 HC
    clear hf
    have HE := Lib.hid (ownF_empty w11 w11.heap.size (Nat.le_refl _))
    have HBe : Below w11.heap.size w11 (w11.alloc (.cells #[] 36)) := by go_grown
    have HBe := Lib.hid HBe
    go_wp2_with fail
    go_loopw [21, 22, 23, 149] (fun bv _ _ iv wr => ∃ i : Nat, iv = .int .i64 i ∧ i ≤ 2 ∧ OwnF w11.heap.size wr bv (gridL f ma i 0) ∧ Below w11.heap.size w11 wr) (fun _ _ _ iv _ => 2 - (intOf iv).toNat)
    case atStart => exact ⟨0, rfl, Nat.zero_le _, HE.out, HBe.out⟩
    case round =>
      clear HE HBe
      obtain ⟨i, rfl, hi, hown, hB⟩ := hrel
      obtain ⟨a6, c6, rfl⟩ := hown.shape
      by_cases hin : i < 2
      · have hiI : (i : Int) < 2 := by omega
        have HO := Lib.hid hown
        have HB := Lib.hid hB
        clear hown hB
        go_wp2_with fail
        go_loopw [21, 23, 154] (fun bv _ kv wk => ∃ k : Nat, kv = .int .i64 k ∧ k ≤ ma ∧ OwnF w11.heap.size wk bv (gridL f ma i k) ∧ Below w11.heap.size w11 wk) (fun _ _ kv _ => ma - (intOf kv).toNat)
        case atStart => exact ⟨0, rfl, Nat.zero_le _, HO.out, HB.out⟩
        case round =>
          clear HO HB
          obtain ⟨k, rfl, hk, hown, hB⟩ := hrel
          obtain ⟨a7, c7, rfl⟩ := hown.shape
          have Hlen := Lib.hid (grid_len f ma i k)
          by_cases hkm : k < ma
          · have hsz : w11.heap.size ≤ wr.heap.size := hB.size
            have HBO := Lib.hid (bnext Hb12.out hB)
            obtain ⟨b9, o9, e9, cA0⟩ := getD_cell Hr.out i (by have := T2.out.rl; omega)
            simp only [Option.some.injEq, Addr.mk.injEq, and_true] at e9
            obtain ⟨rfl, rfl⟩ := e9
            obtain ⟨b9, o9, e9, cB0⟩ := getD_cell Ho.out k (by have := Hol.out; omega)
            simp only [Option.some.injEq, Addr.mk.injEq, and_true] at e9
            obtain ⟨rfl, rfl⟩ := e9
            have cA := cnext hB cA0
            have cB := cnext hB cB0
            have hmul := Hf.out i k hin hkm
            have hfe := Hfe.out i k
            unfold bothF at hfe
            rw [← hfe] at hmul
            have Hsn := Lib.hid (grid_snoc f ma i k)
            have o1 := run_op (P := Try.prog) hmul
            generalize f i k = z at *
            generalize (rwL cs).getD i 0 = x at *
            generalize (rwL co).getD k 0 = y at *
            have HO := Lib.hid hown
            have hkI : (k : Int) < (ma : Int) := by omega
            have hbb : Below wr.heap.size wr wr.drew := (Below.refl _ _).drew
            have hbb2 : Below w11.heap.size wr wr.drew := (Below.refl _ _).drew
            clear hmul hfe hown
            go_wp2_with fail
            have hba : Below wr.heap.size wr (wr.alloc (.cells #[eF z] 36)).drew := (alloc_below wr _).drew
            refine wp_region_held_tail 12 (S := fun W' => W'.cell? ⟨br, fr + i, none⟩ = some (eF x) ∧ W'.cell? ⟨bo, fo + k, none⟩ = some (eF y) ∧ Below w11.heap.size w11 W') (by kernel_rfl) (by decide +kernel) ?_ (fun hHeld => ?_)
            · (go_split_ands; refine ⟨?_, ?_, ?_⟩ <;> first | assumption | exact cnext (by assumption) (by assumption) | exact bnext (by assumption) (by assumption))
            simp only [List.take_succ_cons, List.take_zero, List.drop_succ_cons, List.drop_zero, List.length_cons, List.length_nil, Nat.reduceAdd]
            refine wpAnyH_tk (i := 0) (v := ?_) (some 157) rfl rfl (by kernel_rfl) (by decide +kernel) (by decide +kernel) (fun _ _ _ h => h) (by kernel_rfl) ?_ hHeld ?_
            rotate_left
            · (intro w hSw; (try dsimp only at hSw); go_simp <;> with_reducible rfl)
            (try simp only [Act.put, List.setIfInBounds_toArray, List.set_cons_zero, List.set_cons_succ])
            refine wpAnyH_tk (i := 1) (v := ?_) (some 158) rfl rfl (by kernel_rfl) (by decide +kernel) (by decide +kernel) (fun _ _ _ h => h) (by kernel_rfl) ?_ hHeld ?_
            rotate_left
            · (intro w hSw; (try dsimp only at hSw); go_simp <;> with_reducible rfl)
            (try simp only [Act.put, List.setIfInBounds_toArray, List.set_cons_zero, List.set_cons_succ])
            refine wpAnyH_tk (i := 2) (v := ?_) (some 159) rfl rfl (by kernel_rfl) (by decide +kernel) (by decide +kernel) (fun _ _ _ h => h) (by kernel_rfl) ?_ hHeld ?_
            rotate_left
            · (intro w hSw; (try dsimp only at hSw); go_simp <;> with_reducible rfl)
            (try simp only [Act.put, List.setIfInBounds_toArray, List.set_cons_zero, List.set_cons_succ])
            refine wpAnyH_tk (i := 3) (v := ?_) (some 160) rfl rfl (by kernel_rfl) (by decide +kernel) (by decide +kernel) (fun _ _ _ h => h) (by kernel_rfl) ?_ hHeld ?_
            rotate_left
            · (intro w hSw; (try dsimp only at hSw); go_simp <;> with_reducible rfl)
            (try simp only [Act.put, List.setIfInBounds_toArray, List.set_cons_zero, List.set_cons_succ])
            refine wpAnyH_tk (i := 4) (v := ?_) (some 161) rfl rfl (by kernel_rfl) (by decide +kernel) (by decide +kernel) (fun _ _ _ h => h) (by kernel_rfl) ?_ hHeld ?_
            rotate_left
            · (intro w hSw; (try dsimp only at hSw); go_simp <;> with_reducible rfl)
            (try simp only [Act.put, List.setIfInBounds_toArray, List.set_cons_zero, List.set_cons_succ])
            refine wpAnyH_tk (i := 5) (v := ?_) (some 162) rfl rfl (by kernel_rfl) (by decide +kernel) (by decide +kernel) (fun _ _ _ h => h) (by kernel_rfl) ?_ hHeld ?_
            rotate_left
            · (intro w hSw; (try dsimp only at hSw); go_simp <;> with_reducible rfl)
            (try simp only [Act.put, List.setIfInBounds_toArray, List.set_cons_zero, List.set_cons_succ])
            refine wpAnyH_tk (i := 6) (v := ?_) (some 163) rfl rfl (by kernel_rfl) (by decide +kernel) (by decide +kernel) (fun _ _ _ h => h) (by kernel_rfl) ?_ hHeld ?_
            rotate_left
            · (intro w hSw; (try dsimp only at hSw); go_simp <;> with_reducible rfl)
            (try simp only [Act.put, List.setIfInBounds_toArray, List.set_cons_zero, List.set_cons_succ])
            refine wpAnyH_tk (i := 7) (v := ?_) (some 164) rfl rfl (by kernel_rfl) (by decide +kernel) (by decide +kernel) (fun _ _ _ h => h) (by kernel_rfl) ?_ hHeld ?_
            rotate_left
            · (intro w hSw; (try dsimp only at hSw); go_simp <;> with_reducible rfl)
            (try simp only [Act.put, List.setIfInBounds_toArray, List.set_cons_zero, List.set_cons_succ])
            refine wpAnyH_tk (i := 8) (v := ?_) (some 165) rfl rfl (by kernel_rfl) (by decide +kernel) (by decide +kernel) (fun _ _ _ h => h) (by kernel_rfl) ?_ hHeld ?_
            rotate_left
            · (intro w hSw; (try dsimp only at hSw); go_simp <;> with_reducible rfl)
            (try simp only [Act.put, List.setIfInBounds_toArray, List.set_cons_zero, List.set_cons_succ])
            refine wpAnyH_tk (i := 9) (v := ?_) (some 166) rfl rfl (by kernel_rfl) (by decide +kernel) (by decide +kernel) (fun _ _ _ h => h) (by kernel_rfl) ?_ hHeld ?_
            rotate_left
            · (intro w hSw; (try dsimp only at hSw); go_simp <;> with_reducible rfl)
            (try simp only [Act.put, List.setIfInBounds_toArray, List.set_cons_zero, List.set_cons_succ])
            refine wpAnyH_ready (rs := [10]) (by kernel_rfl) (by simp) ?_
            refine AllReadyH.cons rfl (fun K hK => ?_) AllReadyH.nil
            go_simp
            refine hK.out _ _ ?_ (fun hHeld => ?_)
            · exact ⟨cnext hba cA, cnext hba cB, bnext hB hba⟩
            clear hK K
            (try simp only [Act.put, List.setIfInBounds_toArray, List.set_cons_zero, List.set_cons_succ])
            refine wpAnyH_ready (rs := [11]) (by kernel_rfl) (by simp) ?_
            refine AllReadyH.cons rfl (fun K hK => ?_) AllReadyH.nil
            refine step_appF rfl (.tmp 157) (.tmp 167) rfl w11.heap.size w11.heap.size (Nat.le_refl _) (.slice a7 (gridL f ma i k).length c7) (gridL f ma i k) (by simp [Act.eval, Act.put]) (own_below hba HO.out) hHeld.2.2 [z] ⟨wr.heap.size, 0, none⟩ 1 (by simp [Act.eval, Act.put]) (by exact one_cells wr z _) (by rw [Hlen.out]; have : i * ma ≤ 2 * 3 := Nat.mul_le_mul hi hm3; simp; omega) (by have := hHeld.2.2.size; omega) ?_
            intro v6 w6 hown6 hB6 hg6
            refine hK.out _ _ ?_ (fun hHeld => ?_)
            · exact ⟨cnext hB6 cA0, cnext hB6 cB0, hB6⟩
            clear hK K
            (try simp only [Act.put, List.setIfInBounds_toArray, List.set_cons_zero, List.set_cons_succ])
            refine wpAnyH_done (by kernel_rfl) ?_ _
            show wpList _ _ _ _ _ _
            rw [← Hsn.out] at hown6
            obtain ⟨a8, c8, rfl⟩ := hown6.shape
            have HN := Lib.hid (And.intro hown6 hB6)
            clear hHeld hown6 hB6 hg6 hbb hbb2 hba cA cB cA0 cB0 o1 HO
            go_wp2
            go_roundw
            case rel => exact ⟨k + 1, by go_num, by omega, HN.out⟩
            case measure => simp [intOf]; omega
          · obtain rfl : k = ma := by omega
            have HN := Lib.hid (show OwnF w11.heap.size wr _ (gridL f k (i + 1) 0) ∧ Below w11.heap.size w11 wr by rw [← grid_row]; exact ⟨hown, hB⟩)
            clear hown hB
            go_wp2
            go_roundw
            case rel => exact ⟨i + 1, by go_num, by omega, HN.out⟩
            case measure => simp [intOf]; omega
      · obtain rfl : i = 2 := by omega
        have HX := Lib.hid (show Rg eF wr _ (gridA f 2 ma) from hown.og.rg)
        have hgl : (gridL f ma 2 0).length = (gridA f 2 ma).length := rfl
        rw [hgl] at HX ⊢
        have Hd := Lib.hid (Hd.out.below hB)
        have PD := Lib.hid (PD.out.below hB)
        have Hb := Lib.hid (Hb.out.below hB)
        have PB := Lib.hid (PB.out.below hB)
        have Ho := Lib.hid (Ho.out.below hB)
        have HBw := Lib.hid (bnext Hb12.out hB)
        have t4 := T4.out
        have hc := HC.out
        rw [HSA.out.1, HSA.out.2] at t4 hc
        have T4 := Lib.hid t4
        obtain ⟨x, y, hx, hy, hab⟩ := hc.g
        have c_uu := cvt_up _ _ hc.uu
        have c_ua := cvt_up _ _ hc.ua
        have c_a3 := run_op (P := Try.prog) hc.a3
        have c_c3 := hc.c3
        rw [HUF.out] at c_a3 c_c3 hy
        have HG := Lib.hid (fun W => gap_any _ _ x y W hx hy (hab.more (by decide +kernel)))
        clear hc t4 hx hy hab hown hB HC
        have HT := Lib.hid (fun W v u hv hu => told_t T4.out v u W hv hu)
        have HS := Lib.hid (fun W v u hv hu => toldS_t T5.out v u W hv hu)
        clear T4 T5
        generalize tdW (gridA f 2 ma) (gridA (sdF (rwsL ra) (rwsL rb) ma ma 2) sa sb) sa sb = tU at *
        generalize tdW (rwL co) (rwsL rb) ma 2 = tA at *
        generalize fadd .f64 uF (fup tA) = s3 at *
        generalize gapW (fup tU) s3 = s4 at *
        generalize fup tU = uU at *
        generalize fup tA = uA at *
        obtain ⟨b0, b1, b2⟩ := PB.out
        obtain ⟨d0, d1, d2⟩ := PD.out
        go_wp2_with fail
        refine (HT.out _ _ _ Hd.out HX.out).mono ?_
        rintro e w12 ⟨rfl, hb12⟩
        have Hb := Lib.hid (Hb.out.below hb12)
        have PB := Lib.hid (PB.out.below hb12)
        have Ho := Lib.hid (Ho.out.below hb12)
        have HBw := Lib.hid (bnext HBw.out hb12)
        clear b0 b1 b2 d0 d1 d2 hb12
        obtain ⟨b0, b1, b2⟩ := PB.out
        go_wp2_with fail
        refine (HS.out _ _ _ Hb.out Ho.out).mono ?_
        rintro e w13 ⟨rfl, hb13⟩
        have HBw := Lib.hid (bnext HBw.out hb13)
        clear b0 b1 b2 hb13
        go_wp2_with (first | simp only [c_uu] | simp only [c_ua] | simp only [c_uf] | simp only [c_a3] | fail)
        refine (HG.out _).mono ?_
        rintro e w14 ⟨rfl, rfl⟩
        go_wp2_with (first | simp only [c_c3] | fail)
        go_ret
        exact ⟨rfl, HBw.out⟩

set_option maxRecDepth 100000 in
theorem lifted (os : Os) (started : os.Started) (H : Type) (enc : TypeId × Value → H) :
    ReturnsInHanded {} Try.checked os 4 .any (Rows.fnChainedSpec.pre6 enc Try.prog Try.f4 Rows.fnChainedRow.domain false) (Rows.fnChainedSpec.post enc Try.prog Try.f4 false true false false) := by
  refine returnsInHanded_of_change (C := Try.checked) own started (by kernel_rfl) Try.func4
    (ChangeSpec.witness6 (enc := enc) (C := Try.checked) false ⟨#[], #[.slice none 0 0, .slice none 0 0], []⟩ 8 (by kernel_rfl) (by kernel_rfl) (by kernel_rfl) (by kernel_rfl)) ?_
  intro W base args ds gs before hval0 hW hcnd _
  have hval : ∀ (j : Nat) t v, Try.f4.params[j]? = some t → args[j]? = some v → Value.okWide Try.prog W .any base t v := hval0
  have hW' := hW
  obtain ⟨p, q, hA0, hV, rfl, hfz, hnd⟩ := hW
  have hA : DataW.TrodAll enc Try.prog W 0 (fun _ => true) true Try.f4.params.toList args.toList ds p := hA0
  rw [Try.params4] at hA hval
  obtain ⟨v0, vs0, d0, ds0, p0, q0, hargs, rfl, rfl, h0, r0⟩ := trodAll_cons hA
  obtain ⟨v1, vs1, d1, ds1, p1, q1, rfl, rfl, rfl, h1, r1⟩ := trodAll_cons r0
  obtain ⟨rfl, rfl, rfl⟩ := trodAll_nil r1
  obtain rfl : args = #[v0, v1] := by cases args; simp_all
  obtain ⟨rfl, rfl⟩ := trodVars_none hV
  have k0 := h0
  have lt0 : ∀ x ∈ p0, x.block < W.heap.size := by obtain ⟨m, hm⟩ := k0; exact DataW.trod_lt m _ _ _ hm
  obtain ⟨z0, w0⟩ := view_bytes (hval 0 22 v0 rfl rfl) h0
  have k1 := h1
  have lt1 : ∀ x ∈ p1, x.block < W.heap.size := by obtain ⟨m, hm⟩ := k1; exact DataW.trod_lt m _ _ _ hm
  obtain ⟨z1, w1⟩ := view_bytes (hval 1 22 v1 rfl rfl) h1
  clear hA0 hval0
  refine (walk v0 z0 v1 z1 W w0 w1).mono fun e W' ⟨he, bel⟩ => ?_
  subst he
  exact ⟨_, rfl, _, _, _, [], _, [], hW', trodAll_mk1 (shut_bool Try.underlying4 _), (trodAll_cons_mk (Below.trod laidOut (by kernel_rfl) (of_decide_eq_true (by kernel_rfl)) k0 bel lt0) (trodAll_cons_mk (Below.trod laidOut (by kernel_rfl) (of_decide_eq_true (by kernel_rfl)) k1 bel lt1) trodAll_mk0)), rfl, bel.frame _, fun h => by cases h⟩

theorem over : Rows.fnChainedRow.holds Try.pinned (OpenSpec.ofChange Rows.fnChainedSpec) :=
  OpenClaim.holds_of_wide 4 Try.f4 rfl rfl rfl rfl rfl rfl rfl ⟨rfl, rfl, rfl, rfl, rfl⟩ rfl rfl rfl rfl rfl (by kernel_rfl) Try.func4 (by kernel_rfl)
    (of_decide_eq_true (by kernel_rfl)) (by unfold Func.isWrapper; first | (rw [if_pos (by decide +kernel)]; kernel_rfl) | (rw [if_neg (by decide +kernel)]; exact ⟨rfl, rfl⟩))
    (fun os started H enc _ => lifted os started H enc)

theorem proved : Rows.FnChainedSaid := over
end Go.Proofs.Ytiejljlmbpgbiaa.fnChained
