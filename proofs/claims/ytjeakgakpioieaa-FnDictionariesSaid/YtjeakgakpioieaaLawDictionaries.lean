/- 'laws.FnDictionaries' returns true for all arguments: texts come back from grown pairs, from sliding triples, and from merged letters. No conditions. -/
import Derived.Test.YtjeakgakpioieaaDicP
import Derived.Test.YtjeakgakpioieaaSrc
import Derived.Test.YtjeakgakpioieaaEq
import Derived.Test.YtjeakgakpioieaaGtI
import Derived.Test.YtjeakgakpioieaaSldI
import Derived.Test.YtjeakgakpioieaaSlideS
import Derived.Test.YtjeakgakpioieaaMeS
import Derived.Test.YtjeakgakpioieaaUnm
import Derived.Test.YtjeakgakpioieaaFrame
namespace Go.Proofs.Ytjeakgakpioieaa.fnDictionaries
open Go.ChangeShapes Go.WideShapes Go.ChangeAt Go.RowKit
set_option maxRecDepth 100000
set_option linter.unusedVariables false
set_option linter.unusedSimpArgs false

set_option maxHeartbeats 8000000 in
theorem walk (v0 : Value) (z0 : List Int) (v1 : Value) (z1 : List Int) (w : World) (h0 : RB w v0 z0) (h1 : RB w v1 z1) :
    Calls Try.prog 3 #[v0, v1] w fun e w' => e = .returned (.bool true) ∧ Below w.heap.size w w' := by
  by_cases hlong : (decide (1048576 < z0.length) || decide (1048576 < z1.length)) = true
  · go_enter Try.func3, Try.ntmps3
    go_wp2_with fail
    refine (b10Long_any _ _ z0 z1 _ h0 h1).mono ?_
    rw [hlong]
    rintro e w1 ⟨rfl, rfl⟩
    go_wp2
    go_ret
    exact ⟨rfl, Below.refl _ _⟩
  · have hlong : (decide (1048576 < z0.length) || decide (1048576 < z1.length)) = false := by simpa using hlong
    have hl0 : z0.length ≤ 1048576 := by
      rcases Nat.lt_or_ge 1048576 z0.length with h | h
      · rw [decide_eq_true h] at hlong; simp at hlong
      · exact h
    have H0 := Lib.hid h0
    have H1 := Lib.hid h1
    have Hlong := Lib.hid hlong
    clear h0 h1 hlong
    go_enter Try.func3, Try.ntmps3
    go_wp2_with fail
    refine (b10Long_any _ _ z0 z1 _ H0.out H1.out).mono ?_
    rw [Hlong.out]
    rintro e w1 ⟨rfl, rfl⟩
    go_wp2_with fail
    refine (b10At_any _ z1 0 5 _ H1.out (by omega) (by omega) (by omega)).mono ?_
    rintro e w1 ⟨a, ha0, ha1, rfl, rfl⟩
    obtain ⟨A, rfl⟩ := Int.eq_ofNat_of_zero_le ha0
    go_wp2_with fail
    refine (b10At_any _ z1 1 50 _ H1.out (by omega) (by omega) (by omega)).mono ?_
    rintro e w1 ⟨b, hb0, hb1, rfl, rfl⟩
    obtain ⟨nn, rfl⟩ := Int.eq_ofNat_of_zero_le hb0
    have e2 : (2 : Int) + (A : Int) = ((2 + A : Nat) : Int) := by omega
    obtain ⟨l, hl⟩ : ∃ l, 2 + A = l := ⟨_, rfl⟩
    rw [hl] at e2
    have hl2 : 2 ≤ l := by omega
    have hl6 : l ≤ 6 := by omega
    go_wp2_with fail
    refine (b10Letters_any _ z0 l nn _ H0.out (by omega) (by omega) (by omega) (by omega)).mono ?_
    rintro e w2 ⟨vt, ts, rfl, ht, htl, htz, hB2⟩
    have htx : txt ts (l : Int) = true := by
      simp only [txt, sgn, inB, Bool.and_eq_true, decide_eq_true_eq, allIn_iff]
      exact ⟨⟨⟨by omega, by omega⟩, by omega⟩, fun z hz => by have := htz z hz; omega⟩
    have Htx := Lib.hid htx
    have Ht := Lib.hid ht
    clear ht htl htz htx hl
    -- grown pairs
    go_wp2_with fail
    refine (implGp_any _ ts l _ Ht.out.ri).mono ?_
    rw [Htx.out]
    rintro e w101 ⟨v3, rfl, ho3, hb101⟩
    have Ht := Lib.hid (Ht.out.below hb101)
    have hB102 := bnext hB2 hb101
    clear hb101 hB2
    have H3 := Lib.hid ho3
    clear ho3
    go_wp2_with fail
    refine (specGp_any _ ts l _ Ht.out.ri).mono ?_
    rw [Htx.out]
    rintro e w103 ⟨v4, rfl, ho4, hb103⟩
    have Ht := Lib.hid (Ht.out.below hb103)
    have H3 := Lib.hid (H3.out.below hb103)
    have hB104 := bnext hB102 hb103
    clear hb103 hB102
    have H4 := Lib.hid ho4
    clear ho4
    have Hgb := Lib.hid (gt_some (grown_back Htx.out))
    go_wp2_with fail
    refine (implGt_any _ (gpZ ts l) l _ H3.out.ri).mono ?_
    rw [Hgb.out.1, Hgb.out.2]
    rintro e w105 ⟨v5, rfl, ho5, hb105⟩
    have Ht := Lib.hid (Ht.out.below hb105)
    have H3 := Lib.hid (H3.out.below hb105)
    have H4 := Lib.hid (H4.out.below hb105)
    have hB106 := bnext hB104 hb105
    clear hb105 hB104
    have H5 := Lib.hid ho5
    clear ho5
    go_wp2_with fail
    refine (b10At_any _ z1 2 20 _ (H1.out.below hB106) (by omega) (by omega) (by omega)).mono ?_
    rintro e w1 ⟨c, hc0, hc1, rfl, rfl⟩
    have hwin : inB (1 + c) 1 64 = true := by simp only [inB, Bool.and_eq_true, decide_eq_true_eq]; omega
    have Hsok := Lib.hid (show slOk ts l (1 + c) = true by rw [slOk, Htx.out, hwin]; rfl)
    have Hsb := Lib.hid (sd_some (slid_back Htx.out hwin))
    clear hwin
    go_wp2_with fail
    refine (implSlide_any _ ts l (1 + c) _ Ht.out.ri).mono ?_
    rw [Hsok.out]
    rintro e w107 ⟨v6, rfl, ho6, hb107⟩
    have Ht := Lib.hid (Ht.out.below hb107)
    have H3 := Lib.hid (H3.out.below hb107)
    have H4 := Lib.hid (H4.out.below hb107)
    have H5 := Lib.hid (H5.out.below hb107)
    have hB108 := bnext hB106 hb107
    clear hb107 hB106
    have H6 := Lib.hid ho6
    clear ho6
    go_wp2_with fail
    refine (specSlide_any _ ts l (1 + c) _ Ht.out.ri).mono ?_
    rw [Hsok.out]
    rintro e w109 ⟨v7, rfl, ho7, hb109⟩
    have Ht := Lib.hid (Ht.out.below hb109)
    have H3 := Lib.hid (H3.out.below hb109)
    have H4 := Lib.hid (H4.out.below hb109)
    have H5 := Lib.hid (H5.out.below hb109)
    have H6 := Lib.hid (H6.out.below hb109)
    have hB110 := bnext hB108 hb109
    clear hb109 hB108
    have H7 := Lib.hid ho7
    clear ho7
    go_wp2_with fail
    refine (implSd_any _ (slZ ts l (1 + c)) l _ H6.out.ri).mono ?_
    rw [Hsb.out.1, Hsb.out.2]
    rintro e w111 ⟨v8, rfl, ho8, hb111⟩
    have Ht := Lib.hid (Ht.out.below hb111)
    have H3 := Lib.hid (H3.out.below hb111)
    have H4 := Lib.hid (H4.out.below hb111)
    have H5 := Lib.hid (H5.out.below hb111)
    have H6 := Lib.hid (H6.out.below hb111)
    have H7 := Lib.hid (H7.out.below hb111)
    have hB112 := bnext hB110 hb111
    clear hb111 hB110
    have H8 := Lib.hid ho8
    clear ho8
    go_wp2_with fail
    refine (b10At_any _ z1 3 9 _ (H1.out.below hB112) (by omega) (by omega) (by omega)).mono ?_
    rintro e w1 ⟨d, hd0, hd1, rfl, rfl⟩
    have Hmok := Lib.hid (show meOk ts l d = true by rw [meOk, Htx.out]; simp only [inB, Bool.true_and, Bool.and_eq_true, decide_eq_true_eq]; omega)
    have Hmb := Lib.hid (merged_back Hmok.out)
    go_wp2_with fail
    refine (implMe_any _ ts l d _ Ht.out.ri).mono ?_
    rw [Hmok.out]
    rintro e w113 ⟨v9, v10, rfl, ho9, ho10, -, hb113⟩
    have Ht := Lib.hid (Ht.out.below hb113)
    have H3 := Lib.hid (H3.out.below hb113)
    have H4 := Lib.hid (H4.out.below hb113)
    have H5 := Lib.hid (H5.out.below hb113)
    have H6 := Lib.hid (H6.out.below hb113)
    have H7 := Lib.hid (H7.out.below hb113)
    have H8 := Lib.hid (H8.out.below hb113)
    have hB114 := bnext hB112 hb113
    clear hb113 hB112
    have H9 := Lib.hid ho9
    clear ho9
    have H10 := Lib.hid ho10
    clear ho10
    go_wp2_with fail
    refine (specMe_any _ ts l d _ Ht.out.ri).mono ?_
    rw [Hmok.out]
    rintro e w115 ⟨v11, v12, rfl, ho11, ho12, -, hb115⟩
    have Ht := Lib.hid (Ht.out.below hb115)
    have H3 := Lib.hid (H3.out.below hb115)
    have H4 := Lib.hid (H4.out.below hb115)
    have H5 := Lib.hid (H5.out.below hb115)
    have H6 := Lib.hid (H6.out.below hb115)
    have H7 := Lib.hid (H7.out.below hb115)
    have H8 := Lib.hid (H8.out.below hb115)
    have H9 := Lib.hid (H9.out.below hb115)
    have H10 := Lib.hid (H10.out.below hb115)
    have hB116 := bnext hB114 hb115
    clear hb115 hB114
    have H11 := Lib.hid ho11
    clear ho11
    have H12 := Lib.hid ho12
    clear ho12
    have hml := Hmb.out.2.2
    obtain ⟨aot, cpt, rfl⟩ := Ht.out.shape
    obtain ⟨ao3, cp3, rfl⟩ := H3.out.shape
    obtain ⟨ao4, cp4, rfl⟩ := H4.out.shape
    obtain ⟨ao5, cp5, rfl⟩ := H5.out.shape
    obtain ⟨ao6, cp6, rfl⟩ := H6.out.shape
    obtain ⟨ao7, cp7, rfl⟩ := H7.out.shape
    obtain ⟨ao8, cp8, rfl⟩ := H8.out.shape
    obtain ⟨ao9, cp9, rfl⟩ := H9.out.shape
    obtain ⟨ao10, cp10, rfl⟩ := H10.out.shape
    obtain ⟨ao11, cp11, rfl⟩ := H11.out.shape
    obtain ⟨ao12, cp12, rfl⟩ := H12.out.shape
    go_wp2_with fail
    refine (implUnm_any _ (meZ ts l d) _ (meR ts l d) l _ H9.out.ri H10.out.ri).mono ?_
    rw [Hmb.out.1, Hmb.out.2.1]
    rintro e w117 ⟨v13, rfl, ho13, hb117⟩
    have Ht := Lib.hid (Ht.out.below hb117)
    have H3 := Lib.hid (H3.out.below hb117)
    have H4 := Lib.hid (H4.out.below hb117)
    have H5 := Lib.hid (H5.out.below hb117)
    have H6 := Lib.hid (H6.out.below hb117)
    have H7 := Lib.hid (H7.out.below hb117)
    have H8 := Lib.hid (H8.out.below hb117)
    have H9 := Lib.hid (H9.out.below hb117)
    have H10 := Lib.hid (H10.out.below hb117)
    have H11 := Lib.hid (H11.out.below hb117)
    have H12 := Lib.hid (H12.out.below hb117)
    have hB118 := bnext hB116 hb117
    clear hb117 hB116
    have H13 := Lib.hid ho13
    clear ho13
    have hselfs : ∀ xs : List Int, eqL xs xs = true := eqL_self
    have Hself := Lib.hid hselfs
    clear hselfs
    go_wp2_with fail
    refine (b10Ints_any _ _ (gpZ ts l) (gpZ ts l) _ H3.out.ri H4.out.ri).mono ?_
    rw [Hself.out]
    rintro e w119 ⟨rfl, m119, hw119⟩
    have hb119 := below_of_drew hw119
    clear hw119
    have Ht := Lib.hid (Ht.out.below hb119)
    have H3 := Lib.hid (H3.out.below hb119)
    have H4 := Lib.hid (H4.out.below hb119)
    have H5 := Lib.hid (H5.out.below hb119)
    have H6 := Lib.hid (H6.out.below hb119)
    have H7 := Lib.hid (H7.out.below hb119)
    have H8 := Lib.hid (H8.out.below hb119)
    have H9 := Lib.hid (H9.out.below hb119)
    have H10 := Lib.hid (H10.out.below hb119)
    have H11 := Lib.hid (H11.out.below hb119)
    have H12 := Lib.hid (H12.out.below hb119)
    have H13 := Lib.hid (H13.out.below hb119)
    have hB120 := bnext hB118 hb119
    clear hb119 hB118
    go_wp2_with fail
    refine (b10Ints_any _ _ ts ts _ H5.out.ri Ht.out.ri).mono ?_
    rw [Hself.out]
    rintro e w121 ⟨rfl, m121, hw121⟩
    have hb121 := below_of_drew hw121
    clear hw121
    have Ht := Lib.hid (Ht.out.below hb121)
    have H3 := Lib.hid (H3.out.below hb121)
    have H4 := Lib.hid (H4.out.below hb121)
    have H5 := Lib.hid (H5.out.below hb121)
    have H6 := Lib.hid (H6.out.below hb121)
    have H7 := Lib.hid (H7.out.below hb121)
    have H8 := Lib.hid (H8.out.below hb121)
    have H9 := Lib.hid (H9.out.below hb121)
    have H10 := Lib.hid (H10.out.below hb121)
    have H11 := Lib.hid (H11.out.below hb121)
    have H12 := Lib.hid (H12.out.below hb121)
    have H13 := Lib.hid (H13.out.below hb121)
    have hB122 := bnext hB120 hb121
    clear hb121 hB120
    go_wp2_with fail
    refine (b10Ints_any _ _ (slZ ts l (1 + c)) (slZ ts l (1 + c)) _ H6.out.ri H7.out.ri).mono ?_
    rw [Hself.out]
    rintro e w123 ⟨rfl, m123, hw123⟩
    have hb123 := below_of_drew hw123
    clear hw123
    have Ht := Lib.hid (Ht.out.below hb123)
    have H3 := Lib.hid (H3.out.below hb123)
    have H4 := Lib.hid (H4.out.below hb123)
    have H5 := Lib.hid (H5.out.below hb123)
    have H6 := Lib.hid (H6.out.below hb123)
    have H7 := Lib.hid (H7.out.below hb123)
    have H8 := Lib.hid (H8.out.below hb123)
    have H9 := Lib.hid (H9.out.below hb123)
    have H10 := Lib.hid (H10.out.below hb123)
    have H11 := Lib.hid (H11.out.below hb123)
    have H12 := Lib.hid (H12.out.below hb123)
    have H13 := Lib.hid (H13.out.below hb123)
    have hB124 := bnext hB122 hb123
    clear hb123 hB122
    go_wp2_with fail
    refine (b10Ints_any _ _ ts ts _ H8.out.ri Ht.out.ri).mono ?_
    rw [Hself.out]
    rintro e w125 ⟨rfl, m125, hw125⟩
    have hb125 := below_of_drew hw125
    clear hw125
    have Ht := Lib.hid (Ht.out.below hb125)
    have H3 := Lib.hid (H3.out.below hb125)
    have H4 := Lib.hid (H4.out.below hb125)
    have H5 := Lib.hid (H5.out.below hb125)
    have H6 := Lib.hid (H6.out.below hb125)
    have H7 := Lib.hid (H7.out.below hb125)
    have H8 := Lib.hid (H8.out.below hb125)
    have H9 := Lib.hid (H9.out.below hb125)
    have H10 := Lib.hid (H10.out.below hb125)
    have H11 := Lib.hid (H11.out.below hb125)
    have H12 := Lib.hid (H12.out.below hb125)
    have H13 := Lib.hid (H13.out.below hb125)
    have hB126 := bnext hB124 hb125
    clear hb125 hB124
    go_wp2_with fail
    refine (b10Ints_any _ _ (meZ ts l d) (meZ ts l d) _ H9.out.ri H11.out.ri).mono ?_
    rw [Hself.out]
    rintro e w127 ⟨rfl, m127, hw127⟩
    have hb127 := below_of_drew hw127
    clear hw127
    have Ht := Lib.hid (Ht.out.below hb127)
    have H3 := Lib.hid (H3.out.below hb127)
    have H4 := Lib.hid (H4.out.below hb127)
    have H5 := Lib.hid (H5.out.below hb127)
    have H6 := Lib.hid (H6.out.below hb127)
    have H7 := Lib.hid (H7.out.below hb127)
    have H8 := Lib.hid (H8.out.below hb127)
    have H9 := Lib.hid (H9.out.below hb127)
    have H10 := Lib.hid (H10.out.below hb127)
    have H11 := Lib.hid (H11.out.below hb127)
    have H12 := Lib.hid (H12.out.below hb127)
    have H13 := Lib.hid (H13.out.below hb127)
    have hB128 := bnext hB126 hb127
    clear hb127 hB126
    go_wp2_with fail
    refine (b10Ints_any _ _ (meR ts l d) (meR ts l d) _ H10.out.ri H12.out.ri).mono ?_
    rw [Hself.out]
    rintro e w129 ⟨rfl, m129, hw129⟩
    have hb129 := below_of_drew hw129
    clear hw129
    have Ht := Lib.hid (Ht.out.below hb129)
    have H3 := Lib.hid (H3.out.below hb129)
    have H4 := Lib.hid (H4.out.below hb129)
    have H5 := Lib.hid (H5.out.below hb129)
    have H6 := Lib.hid (H6.out.below hb129)
    have H7 := Lib.hid (H7.out.below hb129)
    have H8 := Lib.hid (H8.out.below hb129)
    have H9 := Lib.hid (H9.out.below hb129)
    have H10 := Lib.hid (H10.out.below hb129)
    have H11 := Lib.hid (H11.out.below hb129)
    have H12 := Lib.hid (H12.out.below hb129)
    have H13 := Lib.hid (H13.out.below hb129)
    have hB130 := bnext hB128 hb129
    clear hb129 hB128
    go_wp2_with fail
    refine (b10Ints_any _ _ ts ts _ H13.out.ri Ht.out.ri).mono ?_
    rw [Hself.out]
    rintro e w131 ⟨rfl, m131, hw131⟩
    have hb131 := below_of_drew hw131
    clear hw131
    have Ht := Lib.hid (Ht.out.below hb131)
    have H3 := Lib.hid (H3.out.below hb131)
    have H4 := Lib.hid (H4.out.below hb131)
    have H5 := Lib.hid (H5.out.below hb131)
    have H6 := Lib.hid (H6.out.below hb131)
    have H7 := Lib.hid (H7.out.below hb131)
    have H8 := Lib.hid (H8.out.below hb131)
    have H9 := Lib.hid (H9.out.below hb131)
    have H10 := Lib.hid (H10.out.below hb131)
    have H11 := Lib.hid (H11.out.below hb131)
    have H12 := Lib.hid (H12.out.below hb131)
    have H13 := Lib.hid (H13.out.below hb131)
    have hB132 := bnext hB130 hb131
    clear hb131 hB130
    have hmlI : ((meZ ts l d).length : Int) ≤ (ts.length : Int) := by omega
    go_wp2
    go_ret
    exact ⟨rfl, hB132⟩

set_option maxRecDepth 100000 in
theorem lifted (os : Os) (started : os.Started) (H : Type) (enc : TypeId × Value → H) :
    ReturnsInHanded {} Try.checked os 3 .any (Rows.fnDictionariesSpec.pre6 enc Try.prog Try.f3 Rows.fnDictionariesRow.domain false) (Rows.fnDictionariesSpec.post enc Try.prog Try.f3 false true false false) := by
  refine returnsInHanded_of_change (C := Try.checked) own started (by kernel_rfl) Try.func3
    (ChangeSpec.witness6 (enc := enc) (C := Try.checked) false ⟨#[], #[.slice none 0 0, .slice none 0 0], []⟩ 8 (by kernel_rfl) (by kernel_rfl) (by kernel_rfl) (by kernel_rfl)) ?_
  intro W base args ds gs before hval0 hW hcnd _
  have hval : ∀ (j : Nat) t v, Try.f3.params[j]? = some t → args[j]? = some v → Value.okWide Try.prog W .any base t v := hval0
  have hW' := hW
  obtain ⟨p, q, hA0, hV, rfl, hfz, hnd⟩ := hW
  have hA : DataW.TrodAll enc Try.prog W 0 (fun _ => true) true Try.f3.params.toList args.toList ds p := hA0
  rw [Try.params3] at hA hval
  obtain ⟨v0, vs0, d0, ds0, p0, q0, hargs, rfl, rfl, h0, r0⟩ := trodAll_cons hA
  obtain ⟨v1, vs1, d1, ds1, p1, q1, rfl, rfl, rfl, h1, r1⟩ := trodAll_cons r0
  obtain ⟨rfl, rfl, rfl⟩ := trodAll_nil r1
  obtain rfl : args = #[v0, v1] := by cases args; simp_all
  obtain ⟨rfl, rfl⟩ := trodVars_none hV
  have k0 := h0
  have lt0 : ∀ x ∈ p0, x.block < W.heap.size := by obtain ⟨m, hm⟩ := k0; exact DataW.trod_lt m _ _ _ hm
  obtain ⟨z0, w0⟩ := view_bytes (hval 0 22 v0 rfl rfl) h0
  have k1 := h1
  have lt1 : ∀ x ∈ p1, x.block < W.heap.size := by obtain ⟨m, hm⟩ := k1; exact DataW.trod_lt m _ _ _ hm
  obtain ⟨z1, w1⟩ := view_bytes (hval 1 22 v1 rfl rfl) h1
  clear hA0 hval0
  refine (walk v0 z0 v1 z1 W w0 w1).mono fun e W' ⟨he, bel⟩ => ?_
  subst he
  exact ⟨_, rfl, _, _, _, [], _, [], hW', trodAll_mk1 (shut_bool Try.underlying4 _), (trodAll_cons_mk (Below.trod laidOut (by kernel_rfl) (of_decide_eq_true (by kernel_rfl)) k0 bel lt0) (trodAll_cons_mk (Below.trod laidOut (by kernel_rfl) (of_decide_eq_true (by kernel_rfl)) k1 bel lt1) trodAll_mk0)), rfl, bel.frame _, fun h => by cases h⟩

theorem over : Rows.fnDictionariesRow.holds Try.pinned (OpenSpec.ofChange Rows.fnDictionariesSpec) :=
  OpenClaim.holds_of_wide 3 Try.f3 rfl rfl rfl rfl rfl rfl rfl ⟨rfl, rfl, rfl, rfl, rfl⟩ rfl rfl rfl rfl rfl (by kernel_rfl) Try.func3 (by kernel_rfl)
    (of_decide_eq_true (by kernel_rfl)) (by unfold Func.isWrapper; first | (rw [if_pos (by decide +kernel)]; kernel_rfl) | (rw [if_neg (by decide +kernel)]; exact ⟨rfl, rfl⟩))
    (fun os started H enc _ => lifted os started H enc)

theorem proved : Rows.FnDictionariesSaid := over
end Go.Proofs.Ytjeakgakpioieaa.fnDictionaries
