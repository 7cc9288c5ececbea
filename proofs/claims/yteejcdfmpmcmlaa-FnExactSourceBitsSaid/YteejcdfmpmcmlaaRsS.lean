/- RestRow in the reference. No conditions but that the slice reads. -/
import Derived.Test.YteejcdfmpmcmlaaRsP
namespace Go.Proofs.Yteejcdfmpmcmlaa
open Go.RowKit
set_option maxRecDepth 100000
set_option linter.unusedVariables false
set_option linter.unusedSimpArgs false

def evP (n i : Nat) : List Nat := List.replicate i (evW n)
theorem evP_len (n i : Nat) : (evP n i).length = i := by simp [evP]
theorem evP_snoc (n i : Nat) : evP n i ++ [evW n] = evP n (i + 1) := by unfold evP; rw [← List.replicate_succ']
theorem drew_below {W w1 : World} {n : Nat} (h : w1 = W.drewN n) : Below W.heap.size W w1 := by rw [h]; exact below_drewN _ _
set_option maxHeartbeats 1000000 in
theorem l03Even_any (n : Nat) (h1 : 1 ≤ n) (h8 : n ≤ 8) (w : World) :
    Calls Try.prog 40 #[.int .i64 n] w fun e w' => ∃ v', e = .returned v' ∧ OwnF w.heap.size w' v' (evL n) ∧ Below w.heap.size w w' := by
  have o1 := run_op (P := Try.prog) (ev_op n h1 h8).1
  go_enter Try.func40, Try.ntmps40
  go_wp2
  go_loopw [3, 4] (fun o iv wr => ∃ i : Nat, iv = .int .i64 i ∧ i ≤ n ∧ OwnF w.heap.size wr o (evP n i) ∧ Below w.heap.size w wr) (fun _ iv _ => n - (intOf iv).toNat)
  case atStart => exact ⟨0, rfl, Nat.zero_le _, ownF_empty w _ (Nat.le_refl _), by go_grown⟩
  case round =>
    obtain ⟨i, rfl, hi, hown, hB⟩ := hrel
    obtain ⟨ao1, cap1, rfl⟩ := hown.shape
    have hs1 := hB.size
    have Hl := Lib.hid (evP_len n i)
    by_cases hin : i < n
    · have Hsn := Lib.hid (evP_snoc n i)
      have HO := Lib.hid hown
      go_wp2_with (first | simp only [o1] | (at_builtin; go_must (refine app_flts rfl _ _ rfl w.heap.size w.heap.size (Nat.le_refl _) (.slice ao1 (evP n i).length cap1) (evP n i) rfl HO.out hB _ _ [evW n] rfl rfl (by rw [Hl.out]; simp; omega) hs1 ?_)))
      intro v' w' hown' hB' hg'
      rw [Hsn.out] at hown'
      obtain ⟨ao2, cap2, rfl⟩ := hown'.shape
      clear hg' hown hB HO
      go_wp2
      go_roundw
      case rel => exact ⟨i + 1, by go_num, by omega, hown', hB'⟩
      case measure => simp [intOf]; omega
    · obtain rfl : i = n := by omega
      go_wp2
      go_ret
      exact ⟨_, rfl, hown, hB⟩
set_option maxHeartbeats 400000 in
theorem l03Rounds_any (near : Nat) (most : Int) (w : World) : Calls Try.prog 39 #[.float .f32 near, .int .i64 most] w fun e w' => e = .returned (.bool (finW near && geZ near && inB most 1 200)) ∧ ∃ n, w' = w.drewN n := by
  have hl := l02Least_any near
  have hd : leastW near = (finW near && geZ near) := rfl
  rw [hd] at hl
  cases h : (finW near && geZ near)
  · rw [h] at hl
    go_enter Try.func39, Try.ntmps39
    go_wp2_with (go_at_call 53; refine (hl _).mono ?_; rintro e w' ⟨rfl, n, rfl⟩)
    go_ret
    exact ⟨rfl, _, rfl⟩
  · rw [h] at hl
    go_enter Try.func39, Try.ntmps39
    go_wp2_with (first | (go_at_call 53; refine (hl _).mono ?_; rintro e w' ⟨rfl, n, rfl⟩) | (go_at_call 51; refine (l00In_any _ _ _ _).mono ?_; rintro e w' ⟨rfl, rfl⟩))
    go_ret
    exact ⟨ret_bool (by simp), _, rfl⟩
set_option maxHeartbeats 4000000 in
theorem specRs_any (n m : Int) (v : Value) (xs : List Nat) (near : Nat) (most : Int) (w : World) (h : Rg eF w v xs) :
    Calls Try.prog 20 #[.agg #[.int .i64 n, .int .i64 m, v], .float .f32 near, .int .i64 most] w fun e w' => ∃ v', e = .returned (.tuple #[v', .int .i64 (rsN n m xs near most), .bool (rsOk n m xs near most)]) ∧ Og eF w.heap.size w' v' (rsZ n m xs near most) ∧ Below w.heap.size w w' := by
  have hb : ∀ o, Below w.heap.size w (w.alloc o) := fun o => by go_grown
  obtain ⟨ao, cap, rfl⟩ := h.shape
  have G := Lib.hid h
  obtain ⟨W0, hW0⟩ : ∃ W0, W0 = w.alloc (.cells #[.int .i64 n, .int .i64 m, .slice ao xs.length cap] 28) := ⟨_, rfl⟩
  have hB0 : Below w.heap.size w W0 := by rw [hW0]; exact hb _
  have hA : ChP W0 w.heap.size n m (.slice ao xs.length cap) := by rw [hW0]; exact ⟨by simp [go_sem], by simp [go_sem], by simp [go_sem]⟩
  have hi := l03Is_any w.heap.size n m _ xs W0 hA (h.below hB0)
  have hro := l03Rounds_any near most
  have HB0 := Lib.hid hB0
  have HA := Lib.hid hA
  clear h hB0 hA
  have hdef : rsC n m xs near most = (chanW n m xs && decide (n = m) && finW near && geZ near && inB most 1 200) := rfl
  have hR : rsR n m xs near most = if rsC n m xs near most = true then rsGo xs n.toNat near most.toNat 0 (evL n.toNat) else none := rfl
  cases hc : chanW n m xs
  · rw [hc] at hdef hi
    have hcf : rsC n m xs near most = false := hdef
    have Hno := Lib.hid (rs_no (show rsR n m xs near most = none by rw [hR, hcf]; rfl))
    clear hdef hR hcf
    go_enter Try.func20, Try.ntmps20
    go_wp2_with fail
    rw [← hW0]
    clear hW0
    refine hi.mono ?_
    rintro e w1 ⟨rfl, k1, hw1⟩
    have hbF := bnext HB0.out (drew_below hw1)
    clear hw1
    go_wp2
    go_ret3
    exact ⟨.slice none 0 0, ret3 rfl (vi Hno.out.2.2.symm) (vb Hno.out.1.symm), by rw [Hno.out.2.1]; exact og_nil _, hbF⟩
  · rw [hc] at hdef hi
    obtain ⟨a, b, rfl, rfl, hok⟩ := chan_ok hc
    by_cases hm : a = b
    · subst hm
      have hdef2 : rsC a a xs near most = (finW near && geZ near && inB most 1 200) := by rw [hdef]; simp
      have hne : (a != a) = false := by simp
      have hne' : ((a : Int) != (a : Int)) = false := by simp
      clear hdef
      cases hr : (finW near && geZ near && inB most 1 200)
      · rw [hr] at hdef2 hro
        have Hno := Lib.hid (rs_no (show rsR a a xs near most = none by rw [hR, hdef2]; rfl))
        clear hR hdef2
        go_enter Try.func20, Try.ntmps20
        go_wp2_with fail
        rw [← hW0]
        clear hW0
        refine hi.mono ?_
        rintro e w1 ⟨rfl, k1, hw1⟩
        have hb1 := drew_below hw1
        obtain ⟨a0, a1, a2⟩ := HA.out.below hb1
        clear hw1
        go_wp2_with fail
        refine (hro _).mono ?_
        rintro e w2 ⟨rfl, k2, hw2⟩
        have hbF := bnext HB0.out (bnext hb1 (drew_below hw2))
        clear hw2
        go_wp2
        go_ret3
        exact ⟨.slice none 0 0, ret3 rfl (vi Hno.out.2.2.symm) (vb Hno.out.1.symm), by rw [Hno.out.2.1]; exact og_nil _, hbF⟩
      · rw [hr] at hdef2 hro
        have hR2 : rsR a a xs near most = rsGo xs a near most.toNat 0 (evL a) := by rw [hR, hdef2]; simp
        have hinb : inB most 1 200 = true := by
          rw [Bool.and_eq_true] at hr; exact hr.2
        obtain ⟨mo, rfl⟩ : ∃ mo : Nat, most = mo := by
          simp only [inB, Bool.and_eq_true, decide_eq_true_eq] at hinb
          exact ⟨most.toNat, by omega⟩
        have hmo : mo ≤ 200 := by
          simp only [inB, Bool.and_eq_true, decide_eq_true_eq] at hinb; omega
        rw [Int.toNat_natCast] at hR2
        have HR := Lib.hid hR2
        have HC := Lib.hid hok
        have a8 := hok.n8
        have a1' := hok.n1
        clear hR hR2 hdef2 hinb hok hr
        go_enter Try.func20, Try.ntmps20
        go_wp2_with fail
        rw [← hW0]
        clear hW0
        refine hi.mono ?_
        rintro e w1 ⟨rfl, k1, hw1⟩
        have hb1 := drew_below hw1
        obtain ⟨a0, a1, a2⟩ := HA.out.below hb1
        clear hw1
        go_wp2_with fail
        refine (hro _).mono ?_
        rintro e w2 ⟨rfl, k2, hw2⟩
        have hb2 := bnext hb1 (drew_below hw2)
        clear a0 a1 a2 hw2
        obtain ⟨a0, a1, a2⟩ := HA.out.below hb2
        go_wp2_with fail
        refine (l03Even_any a a1' a8 _).mono ?_
        rintro e w3 ⟨v3, rfl, ho3, hb3⟩
        have hb3' := bnext hb2 hb3
        have hA3 := HA.out.below hb3'
        have hB3 := bnext HB0.out hb3'
        have ho3' := ho3.og.mono (bnext HB0.out hb2).size
        clear ho3 a0 a1 a2
        go_wp2
        go_loopw [9, 10] (fun rv kv wr => ∃ (r : Nat) (row : List Nat), kv = .int .i64 ((r : Int) + 1) ∧ r ≤ mo ∧ Og eF w.heap.size wr rv row ∧ isRowW row = true ∧ row.length = a ∧ rsGo xs a near (mo - r) r row = rsGo xs a near mo 0 (evL a) ∧ ChP wr w.heap.size a a (.slice ao xs.length cap) ∧ Below w.heap.size w wr) (fun _ kv _ => mo + 1 - (intOf kv).toNat)
        case atStart => exact ⟨0, evL a, rfl, Nat.zero_le _, ho3', (ev_op a a1' a8).2, evL_len a, rfl, hA3, hB3⟩
        case round =>
          clear ho3' hA3 hB3
          obtain ⟨r, row, rfl, hr, ho, hrw, hl, hgo, hA, hB⟩ := hrel
          obtain ⟨ao9, cap9, rfl⟩ := ho.rg.shape
          obtain ⟨a0, a1, a2⟩ := hA
          have HA9 := Lib.hid (show ChP wr w.heap.size a a (.slice ao xs.length cap) from ⟨a0, a1, a2⟩)
          have Hgo := Lib.hid hgo
          have Hrow := Lib.hid (row_ch hrw hl)
          have Hl := Lib.hid hl
          have HO := Lib.hid ho
          have HB := Lib.hid hB
          clear hgo hrw hl ho hB
          by_cases hlt : r < mo
          · have hth := l03Through_any w.heap.size a a _ xs _ row wr HA9.out (G.out.below HB.out) HO.out.rg HC.out Hl.out Hrow.out
            obtain ⟨f, hf⟩ : ∃ f, mo - r = f + 1 := ⟨mo - r - 1, by omega⟩
            have Hf := Lib.hid hf
            clear hf
            go_wp2_with fail
            refine hth.mono ?_
            rintro e w4 ⟨v4, rfl, ho4, hb4⟩
            have hog4 := ho4.og
            obtain ⟨ao4, cap4, rfl⟩ := ho4.shape
            have hrr := l02Row_any _ _ w4 hog4.rg
            have hlen4 := Lib.hid (thL_len row xs a a a)
            clear ho4 hth
            cases hiw : isRowW (thL row xs a a a)
            · rw [hiw] at hrr
              have Hno := Lib.hid (rs_no (show rsR a a xs near mo = none by rw [HR.out, ← Hgo.out, Hf.out, rs_none hiw]))
              go_wp2_with fail
              refine hrr.mono ?_
              rintro e w5 ⟨rfl, k5, hw5⟩
              have hbF := bnext HB.out (bnext hb4 (drew_below hw5))
              clear hw5
              go_wp2
              go_ret3
              exact ⟨.slice none 0 0, ret3 rfl (vi Hno.out.2.2.symm) (vb Hno.out.1.symm), by rw [Hno.out.2.1]; exact og_nil _, hbF⟩
            · rw [hiw] at hrr
              have Hch := Lib.hid (row_ch hiw (thL_len row xs a a a))
              have Hiw := Lib.hid hiw
              clear hiw
              go_wp2_with fail
              refine hrr.mono ?_
              rintro e w5 ⟨rfl, k5, hw5⟩
              have hb5 := bnext hb4 (drew_below hw5)
              have hog5 := (hog4.below (drew_below hw5))
              have hrow5 := HO.out.below hb5
              have hA5 := HA9.out.below hb5
              have hB5 := bnext HB.out hb5
              have H4 := Lib.hid (hog5.mono HB.out.size)
              have H9 := Lib.hid hrow5
              have HA5 := Lib.hid hA5
              have HB5 := Lib.hid hB5
              clear hw5 hog4 hog5 hrow5 hA5 hB5 a0 a1 a2
              generalize hN : thL row xs a a a = next at *
              go_wp2
              go_loopw [12, 45] (fun sv iv w6 => ∃ k : Nat, iv = .int .i64 k ∧ k ≤ a ∧ sv = .float .f32 (chg next row k) ∧ ∃ q, w6 = w5.drewN q) (fun _ iv _ => a - (intOf iv).toNat)
              case atStart => exact ⟨0, rfl, Nat.zero_le _, rfl, 0, rfl⟩
              case round =>
                obtain ⟨k, rfl, hk, rfl, q, rfl⟩ := hrel
                by_cases hka : k < a
                · obtain ⟨b4, of4, rfl, c4⟩ := getD_cell H4.out.rg k (by rw [hlen4.out]; exact hka)
                  obtain ⟨b9, of9, rfl, c9⟩ := getD_cell H9.out.rg k (by rw [Hl.out]; exact hka)
                  have hkn : k < next.length := by rw [hlen4.out]; exact hka
                  have hkr : k < row.length := by rw [Hl.out]; exact hka
                  have hln : next.length ≤ 9223372036854775807 := by rw [hlen4.out]; omega
                  obtain ⟨gs, -⟩ := df_num (Hch.out k hka) (Hrow.out k hka)
                  have hdf : dfW next row k = absW (fsub .f32 (next.getD k 0) (row.getD k 0)) := rfl
                  have hst : chg next row (k + 1) = if gtW (dfW next row k) (chg next row k) = true then dfW next row k else chg next row k := rfl
                  rw [hdf] at hst
                  have o1 := run_op (P := Try.prog) gs
                  have o0 := run_neg (P := Try.prog)
                  clear gs hdf
                  generalize next.getD k 0 = x at *
                  generalize row.getD k 0 = y at *
                  generalize fsub .f32 x y = d at *
                  have Hst := Lib.hid hst
                  clear hst
                  generalize hcc : chg next row k = c at *
                  cases hb : (FloatKind.f32.format.order d 0 == some .lt)
                  · have ha : absW d = d := by unfold absW; rw [hb]; rfl
                    rw [ha] at Hst
                    cases hg : (FloatKind.f32.format.order d c == some .gt)
                    · have HF := Lib.hid (show chg next row (k + 1) = c by rw [Hst.out]; unfold gtW; rw [hg]; rfl)
                      go_wp2
                      go_quiet (fail)
                      go_wp2
                      go_roundw
                      case rel => exact ⟨k + 1, by go_num, by omega, fl_eq HF.out.symm, q + nq, by simp⟩
                      case measure => simp [intOf]; omega
                    · have HF := Lib.hid (show chg next row (k + 1) = d by rw [Hst.out]; unfold gtW; rw [hg]; rfl)
                      go_wp2
                      go_quiet (fail)
                      go_wp2
                      go_roundw
                      case rel => exact ⟨k + 1, by go_num, by omega, fl_eq HF.out.symm, q + nq, by simp⟩
                      case measure => simp [intOf]; omega
                  · have ha : absW d = fneg d := by unfold absW; rw [hb]; rfl
                    rw [ha] at Hst
                    cases hg : (FloatKind.f32.format.order (fneg d) c == some .gt)
                    · have HF := Lib.hid (show chg next row (k + 1) = c by rw [Hst.out]; unfold gtW; rw [hg]; rfl)
                      go_wp2
                      go_quiet (fail)
                      go_wp2_with (simp only [o0])
                      go_roundw
                      case rel => exact ⟨k + 1, by go_num, by omega, fl_eq HF.out.symm, q + nq, by simp⟩
                      case measure => simp [intOf]; omega
                    · have HF := Lib.hid (show chg next row (k + 1) = fneg d by rw [Hst.out]; unfold gtW; rw [hg]; rfl)
                      go_wp2
                      go_quiet (fail)
                      go_wp2_with (simp only [o0])
                      go_roundw
                      case rel => exact ⟨k + 1, by go_num, by omega, fl_eq HF.out.symm, q + nq, by simp⟩
                      case measure => simp [intOf]; omega
                · have hk0 : k = a := by omega
                  have hkn : ¬ k < next.length := by rw [hlen4.out]; exact hka
                  have hln : next.length ≤ 9223372036854775807 := by rw [hlen4.out]; omega
                  have hBq := below_drewN w5 q
                  have H4q := Lib.hid (H4.out.below hBq)
                  have HAq := Lib.hid (HA5.out.below hBq)
                  have HBq := Lib.hid (bnext HB5.out hBq)
                  have hlw : leW (chg next row k) near = (FloatKind.f32.format.order (chg next row k) near == some .lt || FloatKind.f32.format.order (chg next row k) near == some .eq) := rfl
                  rw [hk0] at hlw
                  have Hk0 := Lib.hid hk0
                  rw [hk0]
                  clear hk0 hBq
                  generalize w5.drewN q = w6 at *
                  cases hle : leW (chg next row a) near
                  · rw [hle] at hlw
                    have hlw' := hlw.symm
                    have HG := Lib.hid (show rsGo xs a near (mo - (r + 1)) (r + 1) next = rsGo xs a near mo 0 (evL a) by
                      rw [← Hgo.out, Hf.out, rs_more (by rw [hN]; exact Hiw.out) (by rw [hN]; exact hle), hN, show mo - (r + 1) = f by have := Hf.out; omega])
                    clear hlw
                    go_wp2
                    go_roundw
                    case rel => exact ⟨r + 1, next, by go_num, by omega, H4q.out, Hiw.out, hlen4.out, HG.out, HAq.out, HBq.out⟩
                    case measure => simp [intOf]; omega
                  · rw [hle] at hlw
                    have hlw' := hlw.symm
                    have HY := Lib.hid (rs_yes (show rsR a a xs near mo = some (next, r + 1) by rw [HR.out, ← Hgo.out, Hf.out, rs_some (by rw [hN]; exact Hiw.out) (by rw [hN]; exact hle), hN]))
                    clear hlw
                    go_wp2
                    go_ret3
                    exact ⟨_, ret3 rfl (vi (by rw [HY.out.2.2]; rfl)) (vb HY.out.1.symm), by rw [HY.out.2.1]; exact H4q.out, HBq.out⟩
          · have hr0 : r = mo := by omega
            have Hno := Lib.hid (rs_no (show rsR a a xs near mo = none by rw [HR.out, ← Hgo.out, hr0, Nat.sub_self]; rfl))
            clear hr0
            go_wp2
            go_ret3
            exact ⟨.slice none 0 0, ret3 rfl (vi Hno.out.2.2.symm) (vb Hno.out.1.symm), by rw [Hno.out.2.1]; exact og_nil _, HB.out⟩
    · have hcf : rsC a b xs near most = false := by rw [hdef, decide_eq_false (show ¬ (a : Int) = b by omega)]; rfl
      have Hno := Lib.hid (rs_no (show rsR a b xs near most = none by rw [hR, hcf]; rfl))
      have hne : (a != b) = true := by simp [hm]
      have hne' : ((a : Int) != (b : Int)) = true := by simp; omega
      clear hdef hR hcf
      go_enter Try.func20, Try.ntmps20
      go_wp2_with fail
      rw [← hW0]
      clear hW0
      refine hi.mono ?_
      rintro e w1 ⟨rfl, k1, hw1⟩
      have hb1 := drew_below hw1
      have hbF := bnext HB0.out hb1
      obtain ⟨a0, a1, a2⟩ := HA.out.below hb1
      clear hw1
      go_wp2
      go_ret3
      exact ⟨.slice none 0 0, ret3 rfl (vi Hno.out.2.2.symm) (vb Hno.out.1.symm), by rw [Hno.out.2.1]; exact og_nil _, hbF⟩
end Go.Proofs.Yteejcdfmpmcmlaa
