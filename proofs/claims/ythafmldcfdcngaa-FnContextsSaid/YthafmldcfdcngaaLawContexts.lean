/- 'laws.FnContexts' returns true for all arguments: weighed contexts cost little more than the best ones, nearly, and learned weights make the bit that came no less likely, nearly. No conditions. -/
import Derived.Test.YthafmldcfdcngaaFcQ
import Derived.Test.YthafmldcfdcngaaBoo
import Derived.Test.YthafmldcfdcngaaTwF
import Derived.Test.YthafmldcfdcngaaMxX
import Derived.Test.YthafmldcfdcngaaWgI
import Derived.Test.YthafmldcfdcngaaFrame
import Derived.Test.YthafmldcfdcngaaState
namespace Go.Proofs.Ythafmldcfdcngaa.fnContexts
open Go.ChangeShapes Go.WideShapes Go.ChangeAt Go.RowKit
set_option maxRecDepth 100000
set_option linter.unusedVariables false
set_option linter.unusedSimpArgs false

set_option maxHeartbeats 8000000 in
theorem walk (v0 : Value) (z0 : List Int) (v1 : Value) (z1 : List Int) (w : World) (h0 : RB w v0 z0) (h1 : RB w v1 z1) :
    Calls Try.prog 3 #[v0, v1] w fun e w' => e = .returned (.bool true) ∧ Below w.heap.size w w' := by
  by_cases hlong : (decide (1048576 < z0.length) || decide (1048576 < z1.length)) = true
  · go_enter Try.func3, Try.ntmps3
    go_wp2_with fail
    refine (b10Long_any _ _ z0 z1 _ h0 h1).mono ?_
    rw [hlong]
    rintro e w1 ⟨rfl, rfl⟩
    go_wp2
    go_ret
    exact ⟨rfl, Below.refl _ _⟩
  · have hlong : (decide (1048576 < z0.length) || decide (1048576 < z1.length)) = false := by simpa using hlong
    have hl0 : z0.length ≤ 1048576 := by
      rcases Nat.lt_or_ge 1048576 z0.length with h | h
      · rw [decide_eq_true h] at hlong; simp at hlong
      · exact h
    have hl1 : z1.length ≤ 1048576 := by
      rcases Nat.lt_or_ge 1048576 z1.length with h | h
      · rw [decide_eq_true h] at hlong; simp at hlong
      · exact h
    have H0 := Lib.hid h0
    have H1 := Lib.hid h1
    have Hlong := Lib.hid hlong
    clear h0 h1 hlong
    go_enter Try.func3, Try.ntmps3
    go_wp2_with fail
    refine (b10Long_any _ _ z0 z1 _ H0.out H1.out).mono ?_
    rw [Hlong.out]
    rintro e w1 ⟨rfl, rfl⟩
    go_wp2_with fail
    refine (b10At_any _ z1 0 40 _ H1.out (by omega) (by omega) (by omega)).mono ?_
    rintro e w1 ⟨a, ha0, ha1, rfl, rfl⟩
    obtain ⟨nb, rfl⟩ := Int.eq_ofNat_of_zero_le ha0
    go_wp2_with fail
    refine (b10Bools_any _ z0 nb _ H0.out (by omega) (by omega)).mono ?_
    rintro e w2 ⟨vb, bits, rfl, hob, hbl, hB2⟩
    have hb40 : bits.length ≤ 40 := by omega
    have Hob := Lib.hid hob.og.rg
    obtain ⟨ab, pb, rfl⟩ := hob.shape
    clear hob hbl
    go_wp2_with fail
    refine (b10At_any _ z1 1 4 _ (H1.out.below hB2) (by omega) (by omega) (by omega)).mono ?_
    rintro e w3 ⟨b, hb0, hb1, rfl, rfl⟩
    obtain ⟨d, rfl⟩ := Int.eq_ofNat_of_zero_le hb0
    have hd3 : d ≤ 3 := by omega
    clear hb0 hb1 ha0 ha1
    have ht : tld bits (d : Int) = true := by simp [tld, inB]; omega
    have ht0 : tld bits 0 = true := by simp [tld, inB]; omega
    have hwv : wbV bits (d : Int) = wbW bits d := by simp [wbV, ht]
    have hgv : gbV bits (d : Int) = alW bits d bits.length := by simp [gbV, ht]
    have hgv0 : gbV bits 0 = alW bits 0 bits.length := by simp [gbV, ht0]
    obtain ⟨cw, hcw⟩ : ∃ x, wbW bits d = x := ⟨_, rfl⟩
    obtain ⟨cb, hcb⟩ : ∃ x, alW bits d bits.length = x := ⟨_, rfl⟩
    obtain ⟨cp, hcp⟩ : ∃ x, alW bits 0 bits.length = x := ⟨_, rfl⟩
    have HC := Lib.hid (show CostOk cw cb cp d by
      obtain ⟨W, B, P, n1, n2, n3, p1, p2, p3, q1, q2, q3, r1, r2⟩ := wb_near bits d hb40 hd3
      rw [← hcw, ← hcb, ← hcp]
      exact cost_ok n1 n2 n3 p1 p2 p3 q1 q2 q3 hd3 r1 r2)
    have HW := Lib.hid (And.intro ht (hwv.trans hcw))
    have HG := Lib.hid (And.intro ht (hgv.trans hcb))
    have HG0 := Lib.hid (And.intro ht0 (hgv0.trans hcp))
    clear ht ht0 hwv hgv hgv0 hcw hcb hcp
    go_wp2_with fail
    refine (implWg_any _ bits d _ Hob.out).mono ?_
    rw [HW.out.1, HW.out.2]
    rintro e w4 ⟨rfl, hb4⟩
    have Hob := Lib.hid (Hob.out.below hb4)
    have hB4 := bnext hB2 hb4
    clear hB2 hb4 HW
    go_wp2_with fail
    refine (implGb_any _ bits d _ Hob.out).mono ?_
    rw [HG.out.1, HG.out.2]
    rintro e w5 ⟨rfl, hb5⟩
    have Hob := Lib.hid (Hob.out.below hb5)
    have hB5 := bnext hB4 hb5
    clear hB4 hb5 HG
    go_wp2_with fail
    refine (implGb_any _ bits 0 _ Hob.out).mono ?_
    rw [HG0.out.1, HG0.out.2]
    rintro e w6 ⟨rfl, hb6⟩
    have hB6 := Lib.hid (bnext hB5 hb6)
    clear hB5 hb6 HG0
    have c_b0 := HC.out.b0
    have c_p0 := HC.out.p0
    have c_w1 := cvt_up _ _ HC.out.w1
    have c_b1 := cvt_up _ _ HC.out.b1
    have c_p1 := cvt_up _ _ HC.out.p1
    have c_c0 := HC.out.c0
    have c_a1 := run_op (P := Try.prog) HC.out.a1
    have c_c1 := HC.out.c1
    have c_a2 : ∀ t w, (binOp .add t (.float .f64 (fup cb)) (.float .f64 (floatOfInt .f64 ((2 : Int) ^ d - 1)))).run Try.prog w = .ok (.float .f64 (fadd .f64 (fup cb) (Fi ((2 : Int) ^ d - 1)))) w := run_op (P := Try.prog) HC.out.a2
    have c_a3 := run_op (P := Try.prog) HC.out.a3
    have c_c2 := HC.out.c2
    generalize fadd .f64 (fup cp) 4607227454796291113 = s1 at *
    generalize fadd .f64 (fadd .f64 (fup cb) (Fi ((2 : Int) ^ d - 1))) 4576918229304087675 = s3 at *
    generalize fadd .f64 (fup cb) (Fi ((2 : Int) ^ d - 1)) = s2 at *
    generalize fup cw = uw at *
    generalize fup cb = ub at *
    generalize fup cp = up at *
    clear HC
    have hpw : (1 : Int) ≤ 2 ^ d ∧ (2 : Int) ^ d ≤ 8 := by
      have h1 : 2 ^ d ≤ 2 ^ 3 := Nat.pow_le_pow_right (by decide) hd3
      have h2 : 1 ≤ 2 ^ d := Nat.one_le_two_pow
      have e : (2 : Int) ^ d = ((2 ^ d : Nat) : Int) := by simp
      rw [e]; omega
    have hpw1 := hpw.1
    have hpw2 := hpw.2
    clear hpw
    go_wp2_with (first | simp only [c_w1] | simp only [c_b1] | simp only [c_p1] | simp only [c_a1] | simp only [c_a2] | simp only [c_a3] | simp only [c_b0] | simp only [c_p0] | simp only [c_c0] | simp only [c_c1] | simp only [c_c2] | fail)
    clear c_b0 c_p0 c_w1 c_b1 c_p1 c_c0 c_a1 c_c1 c_a2 c_a3 c_c2 hpw1 hpw2 Hob hb40
    obtain ⟨x2, hx2⟩ : ∃ x2, b10F z1 2 4 = x2 := ⟨_, rfl⟩
    obtain ⟨n, hn⟩ : ∃ n : Nat, (1 : Int) + x2 = n := ⟨(1 + x2).toNat, by have := b10F_bd z1 2 (n := 4) (by decide); omega⟩
    have Hn := Lib.hid (show 1 ≤ n ∧ n ≤ 4 by have := b10F_bd z1 2 (n := 4) (by decide); omega)
    have Hx2 := Lib.hid hx2
    have hx20 : 0 ≤ x2 := by have := b10F_bd z1 2 (n := 4) (by decide); omega
    have hx23 : x2 ≤ 3 := by have := b10F_bd z1 2 (n := 4) (by decide); omega
    clear hx2
    have HT := Lib.hid (twoF_new w6 w6.heap.size (Nat.le_refl _))
    have HBa : Below w6.heap.size w6 ((w6.alloc (.cells #[] 27)).alloc (.cells #[] 27)) := by go_grown
    have HBa := Lib.hid HBa
    go_loopw [13, 14, 15] (fun v13 v14 kv wr => ∃ k : Nat, kv = .int .i64 k ∧ k ≤ n ∧ TwoF w6.heap.size wr v13 v14 (fcW z0 k) (fcP z1 k) ∧ Below w6.heap.size w6 wr) (fun _ _ kv _ => n - (intOf kv).toNat)
    case atStart => exact ⟨0, rfl, Nat.zero_le _, HT.out, HBa.out⟩
    case round =>
      clear HT HBa
      obtain ⟨k, rfl, hk, htw, hB⟩ := hrel
      obtain ⟨ao1, cap1, rfl⟩ := htw.a.shape
      obtain ⟨ao2, cap2, rfl⟩ := htw.b.shape
      rw [fcW_len, fcP_len] at htw ⊢
      have HT := Lib.hid htw
      have HB := Lib.hid hB
      have hs1 := hB.size
      clear htw hB
      have h1r := H1.out.below (bnext hB6.out HB.out)
      have hA := b10At_f _ z1 2 4 wr h1r (by omega) (by omega) (by omega)
      rw [show ((4 : Nat) : Int) = 4 from rfl, Hx2.out] at hA
      have HA := Lib.hid hA
      clear h1r hA
      go_wp2_with fail
      refine HA.out.mono ?_
      rintro e w7 ⟨rfl, rfl⟩
      clear HA
      by_cases hkn : k < n
      · have hkI : (k : Int) < 1 + x2 := by omega
        have hkJ : (k : Int) < (n : Int) := by omega
        have h0r := H0.out.below (bnext hB6.out HB.out)
        have hA := b10At_f _ z0 k 9 wr h0r (by have := Hn.out; omega) (by omega) (by omega)
        rw [show ((9 : Nat) : Int) = 9 from rfl] at hA
        have Hs := Lib.hid (fcW_snoc z0 k)
        have hbd := b10F_bd z0 k (n := 9) (by decide)
        generalize b10F z0 k 9 = c at *
        have o1 := run_op (P := Try.prog) (wt_num (c - 4) (by omega) (by omega)).1
        have HA := Lib.hid hA
        clear h0r hA
        have hc0 := hbd.1
        have hc1 := hbd.2
        clear hbd
        go_wp2_with fail
        refine HA.out.mono ?_
        rintro e w7 ⟨rfl, rfl⟩
        clear HA
        have hkl : k ≤ 4 := by have := Hn.out; omega
        go_wp2_with (first | simp only [o1] | (at_builtin; go_must (refine app_flt_at rfl _ _ rfl w6.heap.size w6.heap.size (Nat.le_refl _) (.slice ao1 k cap1) (fcW z0 k) rfl HT.out.a HB.out _ _ [wtI (c - 4)] rfl rfl (by rw [fcW_len]; simp; omega) hs1 ?_)))
        intro v8 w8 hown8 hB8 hg8 hat8
        rw [← Hs.out] at hown8
        have htw := HT.out.first hown8 hg8 hat8
        obtain ⟨ao3, cap3, rfl⟩ := hown8.shape
        rw [fcW_len] at htw ⊢
        have HT := Lib.hid htw
        have HB := Lib.hid hB8
        have hs1 := hB8.size
        clear hown8 hg8 hat8 htw hB8 Hs o1
        obtain ⟨j, hj⟩ : ∃ j : Nat, 3 + k = j := ⟨_, rfl⟩
        have hj2 : (3 : Int) + (k : Int) = (j : Int) := by omega
        have h1r := H1.out.below (bnext hB6.out HB.out)
        have hA := b10At_f _ z1 j 15 w8 h1r (by omega) (by omega) (by omega)
        rw [show ((15 : Nat) : Int) = 15 from rfl] at hA
        have hs := fcP_snoc z1 k
        rw [hj] at hs
        have Hs := Lib.hid hs
        have hbd := b10F_bd z1 j (n := 15) (by decide)
        clear hs hj
        generalize b10F z1 j 15 = c2 at *
        have o1 := run_op (P := Try.prog) (pc_all (1 + c2) (by omega) (by omega)).1
        have HA := Lib.hid hA
        clear h1r hA
        have hd0 := hbd.1
        have hd1 := hbd.2
        clear hbd
        go_wp2_with fail
        refine HA.out.mono ?_
        rintro e w7 ⟨rfl, rfl⟩
        clear HA
        go_wp2_with (first | simp only [o1] | (at_builtin; go_must (refine app_flt_at rfl _ _ rfl w6.heap.size w6.heap.size (Nat.le_refl _) (.slice ao2 k cap2) (fcP z1 k) rfl HT.out.b HB.out _ _ [pcI (1 + c2)] rfl rfl (by rw [fcP_len]; simp; omega) hs1 ?_)))
        intro v9 w9 hown9 hB9 hg9 hat9
        rw [← Hs.out] at hown9
        have htw := HT.out.second hown9 hg9 hat9
        have HT := Lib.hid htw
        obtain ⟨ao4, cap4, rfl⟩ := hown9.shape
        clear hown9 hg9 hat9 htw Hs o1 HB
        go_wp2
        go_roundw
        case rel => exact ⟨k + 1, by go_num, by omega, by first | exact HT.out | (have := HT.out; rw [fcP_len] at this ⊢; exact this), hB9⟩
        case measure => simp [intOf]; omega
      · have hkI : ¬ (k : Int) < 1 + x2 := by omega
        have hkJ : ¬ (k : Int) < (n : Int) := by omega
        obtain ⟨n', hnk⟩ : ∃ n', k = n' := ⟨_, rfl⟩
        have hnn : n = n' := by omega
        have Hnk := Lib.hid hnk
        have HT := Lib.hid (show TwoF _ _ _ _ (fcW z0 n') (fcP z1 n') by rw [← hnk]; exact HT.out)
        clear hnk
        obtain ⟨ok1, ok2⟩ := Hn.out
        have hF := fun bit => fc_all bit z0 z1 n ok1 ok2
        rw [hnn] at hF
        have HW0 := Lib.hid (fcW_len z0 n')
        have HP0 := Lib.hid (fcP_len z1 n')
        generalize fcW z0 n' = ws at *
        generalize fcP z1 n' = ps at *
        clear hnn
        have HF := Lib.hid hF
        have h1r := H1.out.below (bnext hB6.out HB.out)
        have hbd := b10F_bd z1 9 (n := 2) (by decide)
        have hA := b10At_f _ z1 9 2 wr h1r (by omega) (by omega) (by omega)
        rw [show ((2 : Nat) : Int) = 2 from rfl] at hA
        have HA := Lib.hid hA
        clear h1r hA hF
        have Hbd := Lib.hid hbd
        clear hbd
        generalize b10F z1 9 2 = x9 at *
        go_wp2_with fail
        refine HA.out.mono ?_
        rintro e w7 ⟨rfl, rfl⟩
        clear HA hkI hkJ
        obtain ⟨bit, hbit⟩ : ∃ bit : Bool, (x9 == 0) = bit := ⟨_, rfl⟩
        have hFb := HF.out bit
        obtain ⟨us, hus⟩ : ∃ us, ulP ws (ps.map stW) (msW bit (mcW ws ps)) n' = us := ⟨_, rfl⟩
        obtain ⟨m0, hm0⟩ : ∃ x, mcW ws ps = x := ⟨_, rfl⟩
        obtain ⟨m1, hm1⟩ : ∃ x, mcW us ps = x := ⟨_, rfl⟩
        rw [hus, hm0, hm1] at hFb
        have HM1 := Lib.hid hFb.1
        have HL := Lib.hid hFb.2.1
        have HM2 := Lib.hid hFb.2.2.1
        have HN := Lib.hid hFb.2.2.2
        have Hus := Lib.hid hus
        have Hm0 := Lib.hid hm0
        have Hm1 := Lib.hid hm1
        have hul : us.length = n' := by rw [← hus, ulP_len]
        have Hul := Lib.hid hul
        clear hFb HF hus hm0 hm1 hul
        have Hrw := Lib.hid HT.out.a.og.rg
        have Hrp := Lib.hid HT.out.b.og.rg
        clear HT
        go_wp2_with fail
        refine (mixChance_any _ _ ws ps _ Hrw.out Hrp.out HM1.out).mono ?_
        rw [Hm0.out]
        rintro e w10 ⟨rfl, hb10⟩
        have Hrw := Lib.hid (Hrw.out.below hb10)
        have Hrp := Lib.hid (Hrp.out.below hb10)
        have HB10 := Lib.hid (bnext HB.out hb10)
        clear hb10
        go_wp2_with fail
        refine (mixLearn_any _ _ ws ps bit _ Hrw.out Hrp.out HM1.out HL.out).mono ?_
        have hwl : ws.length = n' := HW0.out
        rw [Hm0.out, hwl]
        clear hwl
        rintro e w11 ⟨v11, rfl, ho11, hb11⟩
        have hus := Hus.out
        rw [Hm0.out] at hus
        rw [hus] at ho11
        obtain ⟨ao11, cap11, rfl⟩ := ho11.shape
        have Hru := Lib.hid ho11.og.rg
        have Hrp := Lib.hid (Hrp.out.below hb11)
        have HB11 := Lib.hid (bnext HB10.out hb11)
        have hlen : ((us.length : Int) != (k : Int)) = false := by
          have h1 := Hul.out
          have h2 := Hnk.out
          rw [h1, h2]; simp
        clear hus ho11 hb11
        have c0 := HN.out.m0
        have c1 := HN.out.m1
        go_wp2_with (first | simp only [c0] | simp only [c1] | fail)
        refine (mixChance_any _ _ us ps _ Hru.out Hrp.out HM2.out).mono ?_
        rw [Hm1.out]
        rintro e w12 ⟨rfl, hb12⟩
        have Hru := Lib.hid (Hru.out.below hb12)
        have Hrp := Lib.hid (Hrp.out.below hb12)
        have HB12 := Lib.hid (bnext HB11.out hb12)
        clear hb12 hlen c0 c1
        go_wp2_with fail
        refine (mixChanceS_any _ _ us ps _ Hru.out Hrp.out HM2.out).mono ?_
        rw [Hm1.out]
        rintro e w13 ⟨rfl, hb13⟩
        have HB13 := Lib.hid (bnext HB12.out hb13)
        clear hb13
        have hmlt : m1 < 4294967296 := by have := Hm1.out; rw [← this]; exact mcW_lt _ _
        have c_um := cvt_up _ _ HN.out.um
        have c_un := cvt_up _ _ HN.out.un
        have c_s := run_op (P := Try.prog) HN.out.s
        have c_a := run_op (P := Try.prog) HN.out.a
        have c_g := HN.out.g
        have c_l := HN.out.l
        have HS := Lib.hid (fun W => sameNum_same m1 _ HN.out.nn.choose_spec hmlt W)
        generalize fsub .f64 (fup m0) 4547007122018943789 = s4 at *
        generalize fadd .f64 (fup m0) 4547007122018943789 = s5 at *
        generalize fup m0 = um at *
        generalize fup m1 = un at *
        clear HN hmlt
        cases bit with
        | true =>
          have c_g := c_g rfl
          clear c_l
          go_wp2_with (first | simp only [c_um] | simp only [c_un] | simp only [c_s] | simp only [c_a] | simp only [c_g] | (go_at_call 12; refine (HS.out _).mono ?_; rintro e w' ⟨rfl, n13, rfl⟩) | fail)
          go_ret
          exact ⟨by simp, bnext hB6.out (bnext HB13.out (below_drewN _ _))⟩
        | false =>
          have c_l := c_l rfl
          clear c_g
          go_wp2_with (first | simp only [c_um] | simp only [c_un] | simp only [c_s] | simp only [c_a] | simp only [c_l] | (go_at_call 12; refine (HS.out _).mono ?_; rintro e w' ⟨rfl, n13, rfl⟩) | fail)
          go_ret
          exact ⟨by simp, bnext hB6.out (bnext HB13.out (below_drewN _ _))⟩

set_option maxRecDepth 100000 in
theorem lifted (os : Os) (started : os.Started) (H : Type) (enc : TypeId × Value → H) :
    ReturnsInHanded {} Try.checked os 3 .any (Rows.fnContextsSpec.pre6 enc Try.prog Try.f3 Rows.fnContextsRow.domain false) (Rows.fnContextsSpec.post enc Try.prog Try.f3 false true false false) := by
  refine returnsInHanded_of_change (C := Try.checked) own started (by kernel_rfl) Try.func3
    (ChangeSpec.witness6 (enc := enc) (C := Try.checked) false ⟨#[], #[.slice none 0 0, .slice none 0 0], []⟩ 8 (by kernel_rfl) (by kernel_rfl) (by kernel_rfl) (by kernel_rfl)) ?_
  intro W base args ds gs before hval0 hW hcnd _
  have hval : ∀ (j : Nat) t v, Try.f3.params[j]? = some t → args[j]? = some v → Value.okWide Try.prog W .any base t v := hval0
  have hW' := hW
  obtain ⟨p, q, hA0, hV, rfl, hfz, hnd⟩ := hW
  have hA : DataW.TrodAll enc Try.prog W 0 (fun _ => true) true Try.f3.params.toList args.toList ds p := hA0
  rw [Try.params3] at hA hval
  obtain ⟨v0, vs0, d0, ds0, p0, q0, hargs, rfl, rfl, h0, r0⟩ := trodAll_cons hA
  obtain ⟨v1, vs1, d1, ds1, p1, q1, rfl, rfl, rfl, h1, r1⟩ := trodAll_cons r0
  obtain ⟨rfl, rfl, rfl⟩ := trodAll_nil r1
  obtain rfl : args = #[v0, v1] := by cases args; simp_all
  obtain ⟨rfl, rfl⟩ := trodVars_none hV
  have k0 := h0
  have lt0 : ∀ x ∈ p0, x.block < W.heap.size := by obtain ⟨m, hm⟩ := k0; exact DataW.trod_lt m _ _ _ hm
  obtain ⟨z0, w0⟩ := view_bytes (hval 0 22 v0 rfl rfl) h0
  have k1 := h1
  have lt1 : ∀ x ∈ p1, x.block < W.heap.size := by obtain ⟨m, hm⟩ := k1; exact DataW.trod_lt m _ _ _ hm
  obtain ⟨z1, w1⟩ := view_bytes (hval 1 22 v1 rfl rfl) h1
  clear hA0 hval0
  refine (walk v0 z0 v1 z1 W w0 w1).mono fun e W' ⟨he, bel⟩ => ?_
  subst he
  exact ⟨_, rfl, _, _, _, [], _, [], hW', trodAll_mk1 (shut_bool Try.underlying4 _), (trodAll_cons_mk (Below.trod laidOut (by kernel_rfl) (of_decide_eq_true (by kernel_rfl)) k0 bel lt0) (trodAll_cons_mk (Below.trod laidOut (by kernel_rfl) (of_decide_eq_true (by kernel_rfl)) k1 bel lt1) trodAll_mk0)), rfl, bel.frame _, fun h => by cases h⟩

theorem over : Rows.fnContextsRow.holds Try.pinned (OpenSpec.ofChange Rows.fnContextsSpec) :=
  OpenClaim.holds_of_wide 3 Try.f3 rfl rfl rfl rfl rfl rfl rfl ⟨rfl, rfl, rfl, rfl, rfl⟩ rfl rfl rfl rfl rfl (by kernel_rfl) Try.func3 (by kernel_rfl)
    (of_decide_eq_true (by kernel_rfl)) (by unfold Func.isWrapper; first | (rw [if_pos (by decide +kernel)]; kernel_rfl) | (rw [if_neg (by decide +kernel)]; exact ⟨rfl, rfl⟩))
    (fun os started H enc _ => lifted os started H enc)

theorem proved : Rows.FnContextsSaid := over
end Go.Proofs.Ythafmldcfdcngaa.fnContexts
