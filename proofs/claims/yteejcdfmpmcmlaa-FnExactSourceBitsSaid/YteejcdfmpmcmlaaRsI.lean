/- RestRow in the program. No conditions but that the slice reads. -/
import Derived.Test.YteejcdfmpmcmlaaRsS
import Derived.Test.YteejcdfmpmcmlaaRep
namespace Go.Proofs.Yteejcdfmpmcmlaa
open Go.RowKit
set_option maxRecDepth 100000
set_option linter.unusedVariables false
set_option linter.unusedSimpArgs false

theorem in32 (n : Nat) (h1 : 1 ≤ n) (h8 : n ≤ 8) : inB n 1 32 = true := by simp only [inB, Bool.and_eq_true, decide_eq_true_eq]; omega
set_option maxHeartbeats 1000000 in
theorem EvenRow_any (n : Nat) (h1 : 1 ≤ n) (h8 : n ≤ 8) (w : World) :
    Calls Try.prog 44 #[.int .i64 n] w fun e w' => ∃ v', e = .returned (.tuple #[v', .bool true]) ∧ Og eF w.heap.size w' v' (evL n) ∧ Below w.heap.size w w' := by
  obtain ⟨g, hrow⟩ := ev_op n h1 h8
  have o1 := run_op (P := Try.prog) g
  have hin := in32 n h1 h8
  have hb : ∀ o, Below w.heap.size w (w.alloc o) := fun o => by go_grown
  clear g
  go_enter Try.func44, Try.ntmps44
  go_wp2_with (first | simp only [o1] | (go_at_call 43; refine (within_any _ _ _ _).mono ?_; rw [hin]; rintro e w' ⟨rfl, rfl⟩))
  refine (repeatF_any (evW n) _ n (by omega) h1 _ (by simp [go_sem])).mono ?_
  rintro e w1 ⟨v1, rfl, ho, hb1⟩
  have hB := bnext (hb _) hb1
  have ho' : Og eF w.heap.size w1 v1 (evL n) := ho.mono (by simp)
  have hro := asRow_any v1 (evL n) w1 ho'.rg
  simp only [hrow, if_true] at hro
  clear ho
  go_wp2_with fail
  refine hro.mono ?_
  rintro e w2 ⟨rfl, k2, hw2⟩
  have hb2 := drew_below hw2
  clear hw2
  go_wp2
  go_ret2
  exact ⟨_, rfl, ho'.below hb2, bnext hB hb2⟩
set_option maxHeartbeats 4000000 in
theorem implRs_any (n m : Int) (v : Value) (xs : List Nat) (near : Nat) (most : Int) (w : World) (h : Rg eF w v xs) :
    Calls Try.prog 21 #[.agg #[.int .i64 n, .int .i64 m, v], .float .f32 near, .int .i64 most] w fun e w' => ∃ v', e = .returned (.tuple #[v', .int .i64 (rsN n m xs near most), .bool (rsOk n m xs near most)]) ∧ Og eF w.heap.size w' v' (rsZ n m xs near most) ∧ Below w.heap.size w w' := by
  have hb : ∀ o, Below w.heap.size w (w.alloc o) := fun o => by go_grown
  obtain ⟨ao, cap, rfl⟩ := h.shape
  have G := Lib.hid h
  obtain ⟨W0, hW0⟩ : ∃ W0, W0 = w.alloc (.cells #[.int .i64 n, .int .i64 m, .slice ao xs.length cap] 28) := ⟨_, rfl⟩
  have hB0 : Below w.heap.size w W0 := by rw [hW0]; exact hb _
  have hA : ChP W0 w.heap.size n m (.slice ao xs.length cap) := by rw [hW0]; exact ⟨by simp [go_sem], by simp [go_sem], by simp [go_sem]⟩
  have hi := implChan_any n m _ xs W0 (h.below hB0)
  have hfi := isFin_any near
  have hwi := within_any most 1 200
  have HB0 := Lib.hid hB0
  have HA := Lib.hid hA
  clear h hB0 hA
  have hdef : rsC n m xs near most = (chanW n m xs && decide (n = m) && finW near && geZ near && inB most 1 200) := rfl
  have hR : rsR n m xs near most = if rsC n m xs near most = true then rsGo xs n.toNat near most.toNat 0 (evL n.toNat) else none := rfl
  have hge : (FloatKind.f32.format.order near 0 == some .gt || FloatKind.f32.format.order near 0 == some .eq) = geZ near := rfl
  cases hc : chanW n m xs
  · rw [hc] at hdef hi
    have hcf : rsC n m xs near most = false := hdef
    have Hno := Lib.hid (rs_no (show rsR n m xs near most = none by rw [hR, hcf]; rfl))
    clear hdef hR hcf hge
    go_enter Try.func21, Try.ntmps21
    go_wp2_with fail
    rw [← hW0]
    clear hW0
    refine hi.mono ?_
    rintro e w1 ⟨rfl, hb1⟩
    have hbF := bnext HB0.out hb1
    go_wp2
    go_ret3
    exact ⟨.slice none 0 0, ret3 rfl (vi Hno.out.2.2.symm) (vb Hno.out.1.symm), by rw [Hno.out.2.1]; exact og_nil _, hbF⟩
  · rw [hc] at hdef hi
    obtain ⟨a, b, rfl, rfl, hok⟩ := chan_ok hc
    by_cases hm : a = b
    · subst hm
      have hdef2 : rsC a a xs near most = (finW near && geZ near && inB most 1 200) := by rw [hdef]; simp
      have hne : (a != a) = false := by simp
      have hne' : ((a : Int) != (a : Int)) = false := by simp
      clear hdef
      cases hf : finW near
      · rw [hf] at hdef2 hfi
        have Hno := Lib.hid (rs_no (show rsR a a xs near most = none by rw [hR, hdef2]; rfl))
        clear hR hdef2 hge
        go_enter Try.func21, Try.ntmps21
        go_wp2_with fail
        rw [← hW0]
        clear hW0
        refine hi.mono ?_
        rintro e w1 ⟨rfl, hb1⟩
        obtain ⟨a0, a1, a2⟩ := HA.out.below hb1
        go_wp2_with fail
        refine (hfi _).mono ?_
        rintro e w2 ⟨rfl, k2, hw2⟩
        have hbF := bnext HB0.out (bnext hb1 (drew_below hw2))
        clear hw2
        go_wp2
        go_ret3
        exact ⟨.slice none 0 0, ret3 rfl (vi Hno.out.2.2.symm) (vb Hno.out.1.symm), by rw [Hno.out.2.1]; exact og_nil _, hbF⟩
      · rw [hf] at hdef2 hfi
        cases hg : geZ near
        · rw [hg] at hdef2 hge
          have Hno := Lib.hid (rs_no (show rsR a a xs near most = none by rw [hR, hdef2]; rfl))
          clear hR hdef2
          go_enter Try.func21, Try.ntmps21
          go_wp2_with fail
          rw [← hW0]
          clear hW0
          refine hi.mono ?_
          rintro e w1 ⟨rfl, hb1⟩
          obtain ⟨a0, a1, a2⟩ := HA.out.below hb1
          go_wp2_with fail
          refine (hfi _).mono ?_
          rintro e w2 ⟨rfl, k2, hw2⟩
          have hbF := bnext HB0.out (bnext hb1 (drew_below hw2))
          clear hw2
          go_wp2
          go_ret3
          exact ⟨.slice none 0 0, ret3 rfl (vi Hno.out.2.2.symm) (vb Hno.out.1.symm), by rw [Hno.out.2.1]; exact og_nil _, hbF⟩
        · rw [hg] at hdef2 hge
          cases hinb : inB most 1 200
          · rw [hinb] at hdef2 hwi
            have Hno := Lib.hid (rs_no (show rsR a a xs near most = none by rw [hR, hdef2]; rfl))
            clear hR hdef2
            go_enter Try.func21, Try.ntmps21
            go_wp2_with fail
            rw [← hW0]
            clear hW0
            refine hi.mono ?_
            rintro e w1 ⟨rfl, hb1⟩
            obtain ⟨a0, a1, a2⟩ := HA.out.below hb1
            go_wp2_with fail
            refine (hfi _).mono ?_
            rintro e w2 ⟨rfl, k2, hw2⟩
            have hbF := bnext HB0.out (bnext hb1 (drew_below hw2))
            clear hw2
            go_wp2_with (go_at_call 43; refine (hwi _).mono ?_; rintro e w' ⟨rfl, rfl⟩)
            go_ret3
            exact ⟨.slice none 0 0, ret3 rfl (vi Hno.out.2.2.symm) (vb Hno.out.1.symm), by rw [Hno.out.2.1]; exact og_nil _, hbF⟩
          · rw [hinb] at hdef2 hwi
            have hR2 : rsR a a xs near most = rsGo xs a near most.toNat 0 (evL a) := by rw [hR, hdef2]; simp
            obtain ⟨mo, rfl⟩ : ∃ mo : Nat, most = mo := by
              simp only [inB, Bool.and_eq_true, decide_eq_true_eq] at hinb
              exact ⟨most.toNat, by omega⟩
            have hmo : mo ≤ 200 := by
              simp only [inB, Bool.and_eq_true, decide_eq_true_eq] at hinb; omega
            rw [Int.toNat_natCast] at hR2
            have HR := Lib.hid hR2
            have HC := Lib.hid hok
            have a8 := hok.n8
            have a1' := hok.n1
            clear hR hR2 hdef2 hok hinb
            go_enter Try.func21, Try.ntmps21
            go_wp2_with fail
            rw [← hW0]
            clear hW0
            refine hi.mono ?_
            rintro e w1 ⟨rfl, hb1⟩
            obtain ⟨a0, a1, a2⟩ := HA.out.below hb1
            go_wp2_with fail
            refine (hfi _).mono ?_
            rintro e w2 ⟨rfl, k2, hw2⟩
            have hb2 := bnext hb1 (drew_below hw2)
            clear hw2 a0 a1 a2
            obtain ⟨a0, a1, a2⟩ := HA.out.below hb2
            go_wp2_with (go_at_call 43; refine (hwi _).mono ?_; rintro e w' ⟨rfl, rfl⟩)
            refine (EvenRow_any a a1' a8 _).mono ?_
            rintro e w3 ⟨v3, rfl, ho3, hb3⟩
            have hb3' := bnext hb2 hb3
            have hA3 := HA.out.below hb3'
            have hB3 := bnext HB0.out hb3'
            have ho3' := ho3.mono (bnext HB0.out hb2).size
            clear ho3 a0 a1 a2 hge
            go_wp2
            go_loopw [9, 49] (fun rv kv wr => ∃ (r : Nat) (row : List Nat), kv = .int .i64 (r : Int) ∧ r ≤ mo ∧ Og eF w.heap.size wr rv row ∧ isRowW row = true ∧ row.length = a ∧ rsGo xs a near (mo - r) r row = rsGo xs a near mo 0 (evL a) ∧ ChP wr w.heap.size a a (.slice ao xs.length cap) ∧ Below w.heap.size w wr) (fun _ kv _ => mo - (intOf kv).toNat)
            case atStart => exact ⟨0, evL a, rfl, Nat.zero_le _, ho3', (ev_op a a1' a8).2, evL_len a, rfl, hA3, hB3⟩
            case round =>
              clear ho3' hA3 hB3
              obtain ⟨r, row, rfl, hr, ho, hrw, hl, hgo, hA, hB⟩ := hrel
              obtain ⟨ao9, cap9, rfl⟩ := ho.rg.shape
              obtain ⟨a0, a1, a2⟩ := hA
              have HA9 := Lib.hid (show ChP wr w.heap.size a a (.slice ao xs.length cap) from ⟨a0, a1, a2⟩)
              have Hgo := Lib.hid hgo
              have Hrow := Lib.hid (row_ch hrw hl)
              have Hl := Lib.hid hl
              have HO := Lib.hid ho
              have HB := Lib.hid hB
              by_cases hlt : r < mo
              · have hto := to_row HC.out hrw hl
                have hth := implThr_any a a _ xs _ row wr (G.out.below HB.out) HO.out.rg
                obtain ⟨f, hf⟩ : ∃ f, mo - r = f + 1 := ⟨mo - r - 1, by omega⟩
                have Hf := Lib.hid hf
                have Hlen4 := Lib.hid (thL_len row xs a a a)
                clear hf hgo hrw hl ho hB
                cases hiw : isRowW (thL row xs a a a)
                · have h1 : toOk a a xs row = false := by rw [hto.1, hiw]
                  have h2 : toZ a a xs row = [] := by rw [hto.2, hiw]; rfl
                  rw [h1, h2] at hth
                  have Hno := Lib.hid (rs_no (show rsR a a xs near mo = none by rw [HR.out, ← Hgo.out, Hf.out, rs_none hiw]))
                  clear hto h1 h2
                  go_wp2_with fail
                  refine hth.mono ?_
                  rintro e w4 ⟨v4, rfl, ho4, hb4⟩
                  have hbF := bnext HB.out hb4
                  go_wp2
                  go_ret3
                  exact ⟨.slice none 0 0, ret3 rfl (vi Hno.out.2.2.symm) (vb Hno.out.1.symm), by rw [Hno.out.2.1]; exact og_nil _, hbF⟩
                · have h1 : toOk a a xs row = true := by rw [hto.1, hiw]
                  have h2 : toZ a a xs row = thL row xs a a a := by rw [hto.2, hiw]; rfl
                  rw [h1, h2] at hth
                  have Hch := Lib.hid (row_ch hiw (thL_len row xs a a a))
                  have Hiw := Lib.hid hiw
                  clear hiw hto h1 h2
                  generalize hN : thL row xs a a a = next at *
                  go_wp2_with fail
                  refine hth.mono ?_
                  rintro e w5 ⟨v4, rfl, ho4, hb5⟩
                  obtain ⟨ao4, cap4, rfl⟩ := ho4.rg.shape
                  have H4 := Lib.hid (ho4.mono HB.out.size)
                  have H9 := Lib.hid (HO.out.below hb5)
                  have HA5 := Lib.hid (HA9.out.below hb5)
                  have HB5 := Lib.hid (bnext HB.out hb5)
                  have hln : next.length ≤ 9223372036854775807 := by rw [Hlen4.out]; omega
                  clear a0 a1 a2 ho4 hth
                  go_wp2
                  go_loop [14, 62] (fun sv iv => ∃ k : Nat, iv = .int .i64 k ∧ k ≤ a ∧ sv = .float .f32 (chg next row k)) (fun _ iv => a - (intOf iv).toNat)
                  case atStart => exact ⟨0, rfl, Nat.zero_le _, rfl⟩
                  case round =>
                    obtain ⟨k, rfl, hk, rfl⟩ := hrel
                    by_cases hka : k < a
                    · obtain ⟨b4, of4, rfl, c4⟩ := getD_cell H4.out.rg k (by rw [Hlen4.out]; exact hka)
                      obtain ⟨b9, of9, rfl, c9⟩ := getD_cell H9.out.rg k (by rw [Hl.out]; exact hka)
                      have hkn : k < next.length := by rw [Hlen4.out]; exact hka
                      have hkr : k < row.length := by rw [Hl.out]; exact hka
                      obtain ⟨gs, -⟩ := df_num (Hch.out k hka) (Hrow.out k hka)
                      have hdf : dfW next row k = absW (fsub .f32 (next.getD k 0) (row.getD k 0)) := rfl
                      have hmx := max_chg Hch.out Hrow.out k hka Try.prog
                      rw [hdf] at hmx
                      have o1 := run_op (P := Try.prog) gs
                      clear gs hdf
                      generalize next.getD k 0 = x at *
                      generalize row.getD k 0 = y at *
                      generalize fsub .f32 x y = d at *
                      generalize hcc : chg next row (k + 1) = c1 at *
                      generalize chg next row k = c at *
                      go_wp2_with (first | simp only [o1, hmx] | (go_at_call 45; refine (absolute_any _ _).mono ?_; rintro e w' ⟨rfl, rfl⟩))
                      go_round
                      case rel => exact ⟨k + 1, by go_num, by omega, fl_eq hcc.symm⟩
                      case measure => simp [intOf]; omega
                    · have hk0 : k = a := by omega
                      have hkn : ¬ k < next.length := by rw [Hlen4.out]; exact hka
                      have hlw : leW (chg next row k) near = (FloatKind.f32.format.order (chg next row k) near == some .lt || FloatKind.f32.format.order (chg next row k) near == some .eq) := rfl
                      rw [hk0] at hlw
                      rw [hk0]
                      clear hk0
                      cases hle : leW (chg next row a) near
                      · rw [hle] at hlw
                        have hlw' := hlw.symm
                        have HG := Lib.hid (show rsGo xs a near (mo - (r + 1)) (r + 1) next = rsGo xs a near mo 0 (evL a) by
                          rw [← Hgo.out, Hf.out, rs_more (by rw [hN]; exact Hiw.out) (by rw [hN]; exact hle), hN, show mo - (r + 1) = f by have := Hf.out; omega])
                        clear hlw
                        go_wp2
                        go_roundw
                        case rel => exact ⟨r + 1, next, by go_num, by omega, H4.out, Hiw.out, Hlen4.out, HG.out, HA5.out, HB5.out⟩
                        case measure => simp [intOf]; omega
                      · rw [hle] at hlw
                        have hlw' := hlw.symm
                        have HY := Lib.hid (rs_yes (show rsR a a xs near mo = some (next, r + 1) by rw [HR.out, ← Hgo.out, Hf.out, rs_some (by rw [hN]; exact Hiw.out) (by rw [hN]; exact hle), hN]))
                        clear hlw
                        go_wp2
                        go_ret3
                        exact ⟨_, ret3 rfl (vi (by rw [HY.out.2.2]; rfl)) (vb HY.out.1.symm), by rw [HY.out.2.1]; exact H4.out, HB5.out⟩
              · have hr0 : r = mo := by omega
                have Hno := Lib.hid (rs_no (show rsR a a xs near mo = none by rw [HR.out, ← Hgo.out, hr0, Nat.sub_self]; rfl))
                clear hr0 hgo hrw hl ho hB
                go_wp2
                go_ret3
                exact ⟨.slice none 0 0, ret3 rfl (vi Hno.out.2.2.symm) (vb Hno.out.1.symm), by rw [Hno.out.2.1]; exact og_nil _, HB.out⟩
    · have hcf : rsC a b xs near most = false := by rw [hdef, decide_eq_false (show ¬ (a : Int) = b by omega)]; rfl
      have Hno := Lib.hid (rs_no (show rsR a b xs near most = none by rw [hR, hcf]; rfl))
      have hne : (a != b) = true := by simp [hm]
      have hne' : ((a : Int) != (b : Int)) = true := by simp; omega
      clear hdef hR hcf hge
      go_enter Try.func21, Try.ntmps21
      go_wp2_with fail
      rw [← hW0]
      clear hW0
      refine hi.mono ?_
      rintro e w1 ⟨rfl, hb1⟩
      obtain ⟨a0, a1, a2⟩ := HA.out.below hb1
      have hbF := bnext HB0.out hb1
      go_wp2
      go_ret3
      exact ⟨.slice none 0 0, ret3 rfl (vi Hno.out.2.2.symm) (vb Hno.out.1.symm), by rw [Hno.out.2.1]; exact og_nil _, hbF⟩
end Go.Proofs.Yteejcdfmpmcmlaa
