/- 'laws.FnThrough' returns true for all arguments: what comes out is a row of sums, what is told is between nothing and both entropies, nearly, and channels that flip halves tell nothing, nearly. No conditions. -/
import Derived.Test.YtiejljlmbpgbiaaFix
import Derived.Test.YtiejljlmbpgbiaaFrame
import Derived.Test.YtiejljlmbpgbiaaState
namespace Go.Proofs.Ytiejljlmbpgbiaa.fnThrough
open Go.ChangeShapes Go.WideShapes Go.ChangeAt Go.RowKit
set_option maxRecDepth 100000
set_option linter.unusedVariables false
set_option linter.unusedSimpArgs false

set_option maxHeartbeats 8000000 in
theorem walk (v0 : Value) (z0 : List Int) (v1 : Value) (z1 : List Int) (w : World) (h0 : RB w v0 z0) (h1 : RB w v1 z1) :
    Calls Try.prog 3 #[v0, v1] w fun e w' => e = .returned (.bool true) ∧ Below w.heap.size w w' := by
  by_cases hlong : (decide (1048576 < z0.length) || decide (1048576 < z1.length)) = true
  · go_enter Try.func3, Try.ntmps3
    go_wp2_with fail
    refine (b10Long_any _ _ z0 z1 _ h0 h1).mono ?_
    rw [hlong]
    rintro e w1 ⟨rfl, rfl⟩
    go_wp2
    go_ret
    exact ⟨rfl, Below.refl _ _⟩
  · have hlong : (decide (1048576 < z0.length) || decide (1048576 < z1.length)) = false := by simpa using hlong
    have hl0 : z0.length ≤ 1048576 := by
      rcases Nat.lt_or_ge 1048576 z0.length with h | h
      · rw [decide_eq_true h] at hlong; simp at hlong
      · exact h
    have hl1 : z1.length ≤ 1048576 := by
      rcases Nat.lt_or_ge 1048576 z1.length with h | h
      · rw [decide_eq_true h] at hlong; simp at hlong
      · exact h
    have H0 := Lib.hid h0
    have H1 := Lib.hid h1
    have Hlong := Lib.hid hlong
    clear h0 h1 hlong
    go_enter Try.func3, Try.ntmps3
    go_wp2_with fail
    refine (b10Long_any _ _ z0 z1 _ H0.out H1.out).mono ?_
    rw [Hlong.out]
    rintro e w1 ⟨rfl, rfl⟩
    go_wp2_with fail
    refine (b10At_any _ z1 0 3 _ H1.out (by omega) (by omega) (by omega)).mono ?_
    rintro e w1 ⟨n0, hn0, hn1, rfl, rfl⟩
    obtain ⟨n, hne⟩ : ∃ n : Nat, (2 : Int) + n0 = n := ⟨(2 + n0).toNat, by omega⟩
    have hn2 : 2 ≤ n := by omega
    have hn4 : n ≤ 4 := by omega
    have hwr : IntKind.i64.wrap (2 + n0) = (n : Int) := by rw [hne]; exact IntWalk.i64_in _ (by omega)
    go_wp2_with fail
    refine (b10At_any _ z1 1 3 _ H1.out (by omega) (by omega) (by omega)).mono ?_
    rintro e w1 ⟨m0, hm0, hm1, rfl, rfl⟩
    obtain ⟨m, hme⟩ : ∃ m : Nat, (2 : Int) + m0 = m := ⟨(2 + m0).toNat, by omega⟩
    have hm2 : 2 ≤ m := by omega
    have hm4 : m ≤ 4 := by omega
    have hwr2 : IntKind.i64.wrap (2 + m0) = (m : Int) := by rw [hme]; exact IntWalk.i64_in _ (by omega)
    clear hne hme hn0 hn1 hm0 hm1
    go_wp2_with fail
    clear hwr hwr2
    refine (b10Cha_any _ z0 n m _ H0.out (by omega) (by omega) (by omega) (by omega) (by omega)).mono ?_
    rintro e w2 ⟨va, ra, rfl, hoa, hra, hra', hb2⟩
    have DA := Lib.hid (show Dr ra n m from ⟨hra, hra', by omega, by omega⟩)
    have hal : (rwsL ra).length = n * m := DA.out.len
    have hoa' := hoa.rg
    obtain ⟨aa, ca, rfl⟩ := hoa.rg.shape
    have hpos : 0 < n * m := Nat.mul_pos (by omega) (by omega)
    obtain ⟨ba, fa, rfl, -⟩ := getD_cell hoa' 0 (by omega)
    clear hra hra' hoa hpos
    obtain ⟨W2, hW2⟩ : ∃ W, w2.alloc (.cells #[.int .i64 n, .int .i64 m, .slice (some ⟨ba, fa, none⟩) (rwsL ra).length ca] 27) = W := ⟨_, rfl⟩
    have hbA : Below w2.heap.size w2 W2 := by rw [← hW2]; go_grown
    have PA := Lib.hid (show ChP W2 w2.heap.size n m (.slice (some ⟨ba, fa, none⟩) (rwsL ra).length ca) by rw [← hW2]; exact ⟨by simp [go_sem], by simp [go_sem], by simp [go_sem]⟩)
    have Hb2 := Lib.hid (bnext hb2 hbA)
    have Ha := Lib.hid (hoa'.below hbA)
    have HAL := Lib.hid hal
    clear hb2 hbA hoa' hal
    go_wp2_with fail
    clear hW2
    refine (b10Chs_any _ z1 n _ (H1.out.below Hb2.out) (by omega) (by omega) (by omega)).mono ?_
    rintro e w4 ⟨vr, cs, rfl, hor, hcl, hcp, hb⟩
    have Hcs := Lib.hid (And.intro hcp hcl)
    have hrl : (rwL cs).length = n := by rw [rwL_len]; exact hcl
    have hor' := hor.rg
    obtain ⟨ar, cr, rfl⟩ := hor.rg.shape
    rw [hrl] at hor' ⊢
    obtain ⟨br, fr, rfl, -⟩ := getD_cell hor' 0 (by omega)
    have Hr := Lib.hid hor'
    have HRL := Lib.hid hrl
    have Ha := Lib.hid (Ha.out.below hb)
    have PA := Lib.hid (PA.out.below hb)
    have Hb4 := Lib.hid (bnext Hb2.out hb)
    clear hcp hcl hor hor' hrl hb Hb2
    have T1 := Lib.hid (tld_drawn DA.out Hcs.out.1 Hcs.out.2 (by omega) (by omega) (by have := Nat.mul_le_mul hn4 hm4; omega))
    obtain ⟨a0, a1, a2⟩ := PA.out
    go_wp2_with fail
    refine (thrI_t T1.out _ _ _ Ha.out Hr.out).mono ?_
    rintro e w5 ⟨vo, rfl, hoo, hb⟩
    have hol : (thL (rwL cs) (rwsL ra) n m m).length = m := thL_len _ _ _ _ _
    have hoo' := hoo.rg
    obtain ⟨ao, co, rfl⟩ := hoo.rg.shape
    rw [hol] at hoo' ⊢
    obtain ⟨bo, fo, rfl, -⟩ := getD_cell hoo' 0 (by omega)
    have Ho := Lib.hid hoo'
    have HOL := Lib.hid hol
    have Ha := Lib.hid (Ha.out.below hb)
    have Hr := Lib.hid (Hr.out.below hb)
    have PA := Lib.hid (PA.out.below hb)
    have Hb5 := Lib.hid (bnext Hb4.out hb)
    clear hoo hoo' hol hb Hb4
    clear a0 a1 a2
    obtain ⟨a0, a1, a2⟩ := PA.out
    go_wp2_with fail
    refine (joint_yes n m _ _ _ _ _ Ha.out Hr.out T1.out.chan T1.out.rowk T1.out.rl T1.out.tab T1.out.one).mono ?_
    rintro e w6 ⟨vj, rfl, hoj, hb⟩
    have hjl : (jL (rwL cs) (rwsL ra) n m).length = n * m := jL_len _ _ _ _
    have hoj' := hoj.rg
    obtain ⟨aj, cj, rfl⟩ := hoj.rg.shape
    have hpos : 0 < n * m := Nat.mul_pos (by omega) (by omega)
    obtain ⟨bj, fj, rfl, -⟩ := getD_cell hoj' 0 (by omega)
    obtain ⟨W6, hW6⟩ : ∃ W, w6.alloc (.cells #[.int .i64 n, .int .i64 m, .slice (some ⟨bj, fj, none⟩) (jL (rwL cs) (rwsL ra) n m).length cj] 33) = W := ⟨_, rfl⟩
    have hbJ : Below w6.heap.size w6 W6 := by rw [← hW6]; go_grown
    have PJ := Lib.hid (show ChP W6 w6.heap.size n m (.slice (some ⟨bj, fj, none⟩) (jL (rwL cs) (rwsL ra) n m).length cj) by rw [← hW6]; exact ⟨by simp [go_sem], by simp [go_sem], by simp [go_sem]⟩)
    have Hj := Lib.hid (hoj'.below hbJ)
    have HJL := Lib.hid hjl
    have hb' := bnext hb hbJ
    have Ha := Lib.hid (Ha.out.below hb')
    have Hr := Lib.hid (Hr.out.below hb')
    have Ho := Lib.hid (Ho.out.below hb')
    have PA := Lib.hid (PA.out.below hb')
    have Hb6 := Lib.hid (bnext Hb5.out hb')
    clear hoj hoj' hjl hb hbJ hb' Hb5 hpos
    clear a0 a1 a2
    obtain ⟨a0, a1, a2⟩ := PA.out
    obtain ⟨j0, j1, j2⟩ := PJ.out
    go_wp2_with fail
    clear hW6
    refine (told_t T1.out _ _ _ Ha.out Hr.out).mono ?_
    rintro e w7 ⟨rfl, hb⟩
    have Ha := Lib.hid (Ha.out.below hb)
    have Hr := Lib.hid (Hr.out.below hb)
    have Ho := Lib.hid (Ho.out.below hb)
    have Hj := Lib.hid (Hj.out.below hb)
    have PA := Lib.hid (PA.out.below hb)
    have PJ := Lib.hid (PJ.out.below hb)
    have Hb7 := Lib.hid (bnext Hb6.out hb)
    clear hb Hb6
    clear a0 a1 a2 j0 j1 j2
    obtain ⟨a0, a1, a2⟩ := PA.out
    obtain ⟨j0, j1, j2⟩ := PJ.out
    go_wp2_with fail
    refine (implChan_any n m _ _ _ Ha.out).mono ?_
    rw [chan_of T1.out.chan]
    rintro e w8 ⟨rfl, hb⟩
    have Ha := Lib.hid (Ha.out.below hb)
    have Hr := Lib.hid (Hr.out.below hb)
    have Ho := Lib.hid (Ho.out.below hb)
    have Hj := Lib.hid (Hj.out.below hb)
    have PA := Lib.hid (PA.out.below hb)
    have PJ := Lib.hid (PJ.out.below hb)
    have Hb8 := Lib.hid (bnext Hb7.out hb)
    clear hb Hb7
    clear a0 a1 a2 j0 j1 j2
    obtain ⟨a0, a1, a2⟩ := PA.out
    obtain ⟨j0, j1, j2⟩ := PJ.out
    go_wp2_with fail
    refine (sameCh_self n m _ _ _ Ha.out (fun x hx => by
      obtain ⟨i, hi, e⟩ := List.getElem_of_mem hx
      have hnm : i < n * m := by have := HAL.out; omega
      obtain ⟨q1, q2⟩ := div_lt' hnm
      obtain ⟨a, ha, -⟩ := T1.out.x _ _ q1 q2
      rw [show i / m * m + i % m = i by have := Nat.div_add_mod i m; rw [Nat.mul_comm] at this; exact this, List.getD_eq_getElem?_getD, List.getElem?_eq_getElem hi, Option.getD_some, e] at ha
      exact ⟨a, ha⟩)).mono ?_
    rintro e w9 ⟨rfl, hb⟩
    have Ha := Lib.hid (Ha.out.below hb)
    have Hr := Lib.hid (Hr.out.below hb)
    have Ho := Lib.hid (Ho.out.below hb)
    have Hj := Lib.hid (Hj.out.below hb)
    have PA := Lib.hid (PA.out.below hb)
    have PJ := Lib.hid (PJ.out.below hb)
    have Hb9 := Lib.hid (bnext Hb8.out hb)
    clear hb Hb8
    clear a0 a1 a2 j0 j1 j2
    obtain ⟨a0, a1, a2⟩ := PA.out
    obtain ⟨j0, j1, j2⟩ := PJ.out
    have i1 : IntKind.i64.wrap ((n : Int) * (m : Int)) = ((n * m : Nat) : Int) := by rw [← Int.natCast_mul]; exact IntWalk.i64_in _ (by have := Nat.mul_le_mul hn4 hm4; omega)
    have n1 : ((m : Int) != (m : Int)) = false := by simp
    have n2 : ((n : Int) != (n : Int)) = false := by simp
    have n3 : (((jL (rwL cs) (rwsL ra) n m).length : Int) != ((n * m : Nat) : Int)) = false := by rw [HJL.out]; simp
    go_wp2_with (first | simp only [i1] | simp only [n1] | simp only [n2] | simp only [n3] | fail)
    clear i1 n1 n2 n3
    clear a0 a1 a2 j0 j1 j2
    have HB9 := Hb9
    go_loopw [15, 16, 17] (fun kv _ _ wr => ∃ k : Nat, kv = .int .i64 k ∧ k ≤ m ∧ Below w9.heap.size w9 wr) (fun kv _ _ _ => m - (intOf kv).toNat)
    case atStart => exact ⟨0, rfl, Nat.zero_le _, Below.refl _ _⟩
    case round =>
      obtain ⟨k, rfl, hk, hB⟩ := hrel
      by_cases hkm : k < m
      · have hkI : (k : Int) < (m : Int) := by omega
        have HB := Lib.hid hB
        clear hB
        go_wp2_with fail
        go_loopw [16, 17] (fun sv iv wk => ∃ i : Nat, iv = .int .i64 i ∧ sv = .float .f64 (smW (rwL cs) (rwsL ra) m k i) ∧ i ≤ n ∧ Below w9.heap.size w9 wk) (fun _ iv _ => n - (intOf iv).toNat)
        case atStart => exact ⟨0, rfl, rfl, Nat.zero_le _, HB.out⟩
        case round =>
          clear HB
          obtain ⟨i, rfl, rfl, hi, hB⟩ := hrel
          by_cases hin : i < n
          · have hiI : (i : Int) < (n : Int) := by omega
            obtain ⟨lo, hlo, l1, l2, e1, -⟩ := row_nums (n := n) (m := m) hin (by omega) (by omega)
            have hxl : lo + k < (rwsL ra).length := by rw [HAL.out, hlo]; exact at_lt hin hkm
            have hxj : lo + k < (jL (rwL cs) (rwsL ra) n m).length := by rw [HJL.out, hlo]; exact at_lt hin hkm
            obtain ⟨b9, o9, e9, cA⟩ := getD_cell (Ha.out.below hB) (lo + k) hxl
            simp only [Option.some.injEq, Addr.mk.injEq, and_true] at e9
            obtain ⟨rfl, rfl⟩ := e9
            obtain ⟨b9, o9, e9, cJ⟩ := getD_cell (Hj.out.below hB) (lo + k) hxj
            simp only [Option.some.injEq, Addr.mk.injEq, and_true] at e9
            obtain ⟨rfl, rfl⟩ := e9
            obtain ⟨b9, o9, e9, cR⟩ := getD_cell (Hr.out.below hB) i (by have := HRL.out; omega)
            simp only [Option.some.injEq, Addr.mk.injEq, and_true] at e9
            obtain ⟨rfl, rfl⟩ := e9
            have ej : (jL (rwL cs) (rwsL ra) n m).getD (lo + k) 0 = jF (rwL cs) (rwsL ra) m i k := by rw [hlo]; exact gridA_get _ _ _ _ _ hin hkm
            rw [ej] at cJ
            have pr := T1.out.pr i k hin hkm
            have ha := (T1.out.sums k hkm n (Nat.le_refl _)).2 i hin
            have u2 := pr.u2
            have pp := pr.p
            rw [← hlo] at u2 pp
            obtain ⟨qa, qb, na, nb, ab⟩ := pr.g.n
            have HG := fun W => gap_q _ _ qa qb na nb ab W
            have c_g := pr.g.g
            have c_u1 := cvt_up _ _ pr.u1
            have c_u2 := cvt_up _ _ u2
            have c_j := cvt_up _ _ pr.j
            have o_p := run_op (P := Try.prog) pp
            have o_a := run_op (P := Try.prog) ha
            obtain ⟨s1, hs1⟩ : ∃ s, smW (rwL cs) (rwsL ra) m k (i + 1) = s := ⟨_, rfl⟩
            rw [hs1] at o_a
            have Hs1 := Lib.hid hs1
            obtain ⟨p0, p1, p2⟩ := PA.out.below hB
            obtain ⟨j0, j1, j2⟩ := PJ.out.below hB
            rw [← Nat.add_assoc] at cA cJ
            have HB := Lib.hid hB
            have hxl' := HAL.out
            clear pr ha u2 pp na nb ab ej hs1 hlo hB
            generalize smW (rwL cs) (rwsL ra) m k i = s at *
            generalize pW (rwL cs) (rwsL ra) m k i = pz at *
            generalize jF (rwL cs) (rwsL ra) m i k = y at *
            generalize (rwsL ra).getD (lo + k) 0 = x at *
            generalize (rwL cs).getD i 0 = r at *
            generalize gapW (fup y) pz = gz at *
            generalize fup y = uy at *
            generalize fup x = ux at *
            generalize fup r = ur at *
            have wq1 : IntKind.i64.wrap (lo : Int) = (lo : Int) := IntWalk.i64_in _ (by omega)
            have wq2 : IntKind.i64.wrap ((lo : Int) + (k : Int)) = (lo : Int) + (k : Int) := IntWalk.i64_in _ (by omega)
            have wq3 : (0 : Int) ≤ (lo : Int) + (k : Int) := by omega
            have wq6 : (lo : Int) + (k : Int) < ((rwsL ra).length : Int) := by omega
            have wq7 : (lo : Int) + (k : Int) < ((jL (rwL cs) (rwsL ra) n m).length : Int) := by omega
            have wq4 : ((lo : Int) + (k : Int)).toNat = lo + k := by omega
            have wq5 : fa + (lo + k) = fa + lo + k := (Nat.add_assoc _ _ _).symm
            have wq8 : fj + (lo + k) = fj + lo + k := (Nat.add_assoc _ _ _).symm
            clear hxl'
            go_wp2_with fail
            go_quiet (fail)
            go_wp2_with fail
            go_quiet ((go_at_call 14; refine (HG _).mono ?_; rintro e w' ⟨rfl, rfl⟩; exact ⟨rfl, _, rfl⟩))
            go_wp2_with (first | simp only [c_g] | fail)
            go_roundw
            case rel => exact ⟨i + 1, by go_num, by rw [Hs1.out], by omega, by first | exact bnext HB.out (below_drewN _ _) | exact HB.out⟩
            case measure => simp [intOf]; omega
          · obtain rfl : i = n := by omega
            obtain ⟨b9, o9, e9, cO⟩ := getD_cell (Ho.out.below hB) k (by have := HOL.out; omega)
            simp only [Option.some.injEq, Addr.mk.injEq, and_true] at e9
            obtain ⟨rfl, rfl⟩ := e9
            rw [thL_gd _ _ _ _ _ hkm] at cO
            obtain ⟨uo, go⟩ := T1.out.outGp k hkm
            obtain ⟨qa, qb, na, nb, ab⟩ := go.n
            have HG := Lib.hid (fun W => gap_any _ _ qa qb W na nb ab)
            have c_g := go.g
            have c_u := cvt_up _ _ uo
            have HB := Lib.hid hB
            clear uo go na nb ab hB
            generalize thS (rwL cs) (rwsL ra) m k i = y at *
            generalize smW (rwL cs) (rwsL ra) m k i = s at *
            generalize gapW s (fup y) = gz at *
            generalize fup y = uy at *
            go_wp2_with (first | simp only [c_u] | fail)
            refine (HG.out _).mono ?_
            rintro e w10 ⟨rfl, rfl⟩
            go_wp2_with (first | simp only [c_g] | fail)
            go_roundw
            case rel => exact ⟨k + 1, by go_num, by omega, HB.out⟩
            case measure => simp [intOf]; omega
      · obtain rfl : k = m := by omega
        clear hkm
        have HB := Lib.hid hB
        have HE := Lib.hid (trp_all DA.out Hcs.out.1 Hcs.out.2 (by omega) hn4 hm4)
        have Hr := Lib.hid (Hr.out.below hB)
        have Ho := Lib.hid (Ho.out.below hB)
        clear hB
        have HEr := Lib.hid (fun W v h => entS_any v (rwL cs) W h T1.out.rowk HE.out.2.1)
        have HEo := Lib.hid (fun W v h => entS_any v (thL (rwL cs) (rwsL ra) n k k) W h T1.out.outR HE.out.2.2)
        have HT := Lib.hid HE.out.1
        clear HE
        generalize tdW (rwL cs) (rwsL ra) n k = tT at *
        generalize entW (rwL cs) = tB at *
        generalize entW (thL (rwL cs) (rwsL ra) n k k) = tO at *
        go_wp2_with fail
        refine (HEr.out _ _ Hr.out).mono ?_
        rintro e w11 ⟨rfl, hb⟩
        have Ho := Lib.hid (Ho.out.below hb)
        have HB := Lib.hid (bnext HB.out hb)
        clear hb
        go_wp2_with fail
        refine (HEo.out _ _ Ho.out).mono ?_
        rintro e w12 ⟨rfl, hb⟩
        have HBw := Lib.hid (bnext HB9.out (bnext HB.out hb))
        clear hb HB
        go_wp2_with fail
        refine (flip_yes flip_ch _).mono ?_
        rintro e u1 ⟨v1, rfl, ho, hb⟩
        obtain ⟨a1, c1, rfl⟩ := ho.rg.shape
        have HF := Lib.hid ho.rg
        have HBw := Lib.hid (bnext HBw.out hb)
        clear ho hb
        obtain ⟨U1, hU1⟩ : ∃ W, u1.alloc (.cells #[.int .i64 2, .int .i64 2, .slice a1 (gridA flipF 2 2).length c1] 27) = W := ⟨_, rfl⟩
        have hb1 : Below u1.heap.size u1 U1 := by rw [← hU1]; go_grown
        have PF := Lib.hid (show ChP U1 u1.heap.size 2 2 (.slice a1 (gridA flipF 2 2).length c1) by rw [← hU1]; exact ⟨by simp [go_sem], by simp [go_sem], by simp [go_sem]⟩)
        obtain ⟨f0, f1, f2⟩ := PF.out
        obtain ⟨U2, hU2⟩ : ∃ W, U1.alloc (.cells #[.float .f32 1048576000, .float .f32 1061158912] 36) = W := ⟨_, rfl⟩
        have hb2 : Below U1.heap.size U1 U2 := by rw [← hU2]; go_grown
        have HL := Lib.hid (show Rg eF U2 (.slice (some ⟨U1.heap.size, 0, none⟩) 2 2) [1048576000, 1061158912] by rw [← hU2]; exact rg_lit U1 [1048576000, 1061158912] 36 (by decide))
        have HF := Lib.hid (HF.out.below (bnext hb1 hb2))
        have HBw := Lib.hid (bnext HBw.out (bnext hb1 hb2))
        clear hb1 hb2
        go_wp2_with fail
        clear hU1 hU2 f0 f1 f2
        refine (flip_told _ _ _ HF.out HL.out).mono ?_
        rintro e u2 ⟨rfl, hb⟩
        have HBw := Lib.hid (bnext HBw.out hb)
        clear hb HF HL PF
        go_wp2_with fail
        refine (lose_yes lose_ch _).mono ?_
        rintro e u1 ⟨v1, rfl, ho, hb⟩
        obtain ⟨a1, c1, rfl⟩ := ho.rg.shape
        have HF := Lib.hid ho.rg
        have HBw := Lib.hid (bnext HBw.out hb)
        clear ho hb
        obtain ⟨U1, hU1⟩ : ∃ W, u1.alloc (.cells #[.int .i64 2, .int .i64 3, .slice a1 (gridA loseF 2 3).length c1] 27) = W := ⟨_, rfl⟩
        have hb1 : Below u1.heap.size u1 U1 := by rw [← hU1]; go_grown
        have PF := Lib.hid (show ChP U1 u1.heap.size 2 3 (.slice a1 (gridA loseF 2 3).length c1) by rw [← hU1]; exact ⟨by simp [go_sem], by simp [go_sem], by simp [go_sem]⟩)
        obtain ⟨f0, f1, f2⟩ := PF.out
        obtain ⟨U2, hU2⟩ : ∃ W, U1.alloc (.cells #[.float .f32 1056964608, .float .f32 1056964608] 36) = W := ⟨_, rfl⟩
        have hb2 : Below U1.heap.size U1 U2 := by rw [← hU2]; go_grown
        have HL := Lib.hid (show Rg eF U2 (.slice (some ⟨U1.heap.size, 0, none⟩) 2 2) [1056964608, 1056964608] by rw [← hU2]; exact rg_lit U1 [1056964608, 1056964608] 36 (by decide))
        have HF := Lib.hid (HF.out.below (bnext hb1 hb2))
        have HBw := Lib.hid (bnext HBw.out (bnext hb1 hb2))
        clear hb1 hb2
        go_wp2_with fail
        clear hU1 hU2 f0 f1 f2
        refine (lose_told _ _ _ HF.out HL.out).mono ?_
        rintro e u2 ⟨rfl, hb⟩
        have HBw := Lib.hid (bnext HBw.out hb)
        clear hb HF HL PF
        go_wp2_with fail
        refine (next_yes next_ch _).mono ?_
        rintro e u1 ⟨v1, rfl, ho, hb⟩
        obtain ⟨a1, c1, rfl⟩ := ho.rg.shape
        have HF := Lib.hid ho.rg
        have HBw := Lib.hid (bnext HBw.out hb)
        clear ho hb
        obtain ⟨U1, hU1⟩ : ∃ W, u1.alloc (.cells #[.int .i64 4, .int .i64 4, .slice a1 (gridA nextF 4 4).length c1] 27) = W := ⟨_, rfl⟩
        have hb1 : Below u1.heap.size u1 U1 := by rw [← hU1]; go_grown
        have PF := Lib.hid (show ChP U1 u1.heap.size 4 4 (.slice a1 (gridA nextF 4 4).length c1) by rw [← hU1]; exact ⟨by simp [go_sem], by simp [go_sem], by simp [go_sem]⟩)
        obtain ⟨f0, f1, f2⟩ := PF.out
        obtain ⟨U2, hU2⟩ : ∃ W, U1.alloc (.cells #[.float .f32 1048576000, .float .f32 1048576000, .float .f32 1048576000, .float .f32 1048576000] 36) = W := ⟨_, rfl⟩
        have hb2 : Below U1.heap.size U1 U2 := by rw [← hU2]; go_grown
        have HL := Lib.hid (show Rg eF U2 (.slice (some ⟨U1.heap.size, 0, none⟩) 4 4) [1048576000, 1048576000, 1048576000, 1048576000] by rw [← hU2]; exact rg_lit U1 [1048576000, 1048576000, 1048576000, 1048576000] 36 (by decide))
        have HF := Lib.hid (HF.out.below (bnext hb1 hb2))
        have HBw := Lib.hid (bnext HBw.out (bnext hb1 hb2))
        clear hb1 hb2
        go_wp2_with fail
        clear hU1 hU2 f0 f1 f2
        refine (next_told _ _ _ HF.out HL.out).mono ?_
        rintro e u2 ⟨rfl, hb⟩
        have HBw := Lib.hid (bnext HBw.out hb)
        clear hb HF HL PF
        go_wp2_with fail
        have c_ut := cvt_up _ _ HT.out.ut
        have c_ub := cvt_up _ _ HT.out.ub
        have c_uo := cvt_up _ _ HT.out.uo
        have c_f0 := cvt_up _ _ fix_up.1
        have c_f1 := cvt_up _ _ fix_up.2.1
        have c_f2 := cvt_up _ _ fix_up.2.2
        have c_a1 := run_op (P := Try.prog) HT.out.a1
        have c_a2 := run_op (P := Try.prog) HT.out.a2
        have c_g0 := HT.out.g0
        have c_l1 := HT.out.l1
        have c_l2 := HT.out.l2
        have hg0 := fun W => fix_gap 0 0 (num_zero .f64) W
        have hg1 := fun W => fix_gap 4604930618986332160 (3 / 4) num_34 W
        have hg2 := fun W => fix_gap 4611686018427387904 2 num_two W
        obtain ⟨c_h0, c_h1, c_h2⟩ := fix_lt
        generalize gapW 0 0 = y0 at *
        generalize gapW 4604930618986332160 4604930618986332160 = y1 at *
        generalize gapW 4611686018427387904 4611686018427387904 = y2 at *
        generalize fadd .f64 (fup tB) 4562254508917369340 = s1 at *
        generalize fadd .f64 (fup tO) 4562254508917369340 = s2 at *
        generalize fup tT = uT at *
        generalize fup tB = uB at *
        generalize fup tO = uO at *
        go_wp2_with (first | simp only [c_ut] | simp only [c_ub] | simp only [c_uo] | simp only [c_f0] | simp only [c_f1] | simp only [c_f2] | simp only [c_a1] | simp only [c_a2] | simp only [c_g0] | simp only [c_l1] | simp only [c_l2] | simp only [c_h0] | simp only [c_h1] | simp only [c_h2] | fail)
        refine (hg0 _).mono ?_
        rintro e w' ⟨rfl, rfl⟩
        go_wp2_with (first | simp only [c_ut] | simp only [c_ub] | simp only [c_uo] | simp only [c_f0] | simp only [c_f1] | simp only [c_f2] | simp only [c_a1] | simp only [c_a2] | simp only [c_g0] | simp only [c_l1] | simp only [c_l2] | simp only [c_h0] | simp only [c_h1] | simp only [c_h2] | fail)
        refine (hg1 _).mono ?_
        rintro e w' ⟨rfl, rfl⟩
        go_wp2_with (first | simp only [c_ut] | simp only [c_ub] | simp only [c_uo] | simp only [c_f0] | simp only [c_f1] | simp only [c_f2] | simp only [c_a1] | simp only [c_a2] | simp only [c_g0] | simp only [c_l1] | simp only [c_l2] | simp only [c_h0] | simp only [c_h1] | simp only [c_h2] | fail)
        refine (hg2 _).mono ?_
        rintro e w' ⟨rfl, rfl⟩
        go_wp2_with (first | simp only [c_ut] | simp only [c_ub] | simp only [c_uo] | simp only [c_f0] | simp only [c_f1] | simp only [c_f2] | simp only [c_a1] | simp only [c_a2] | simp only [c_g0] | simp only [c_l1] | simp only [c_l2] | simp only [c_h0] | simp only [c_h1] | simp only [c_h2] | fail)
        go_ret
        exact ⟨by simp, HBw.out⟩

set_option maxRecDepth 100000 in
theorem lifted (os : Os) (started : os.Started) (H : Type) (enc : TypeId × Value → H) :
    ReturnsInHanded {} Try.checked os 3 .any (Rows.fnThroughSpec.pre6 enc Try.prog Try.f3 Rows.fnThroughRow.domain false) (Rows.fnThroughSpec.post enc Try.prog Try.f3 false true false false) := by
  refine returnsInHanded_of_change (C := Try.checked) own started (by kernel_rfl) Try.func3
    (ChangeSpec.witness6 (enc := enc) (C := Try.checked) false ⟨#[], #[.slice none 0 0, .slice none 0 0], []⟩ 8 (by kernel_rfl) (by kernel_rfl) (by kernel_rfl) (by kernel_rfl)) ?_
  intro W base args ds gs before hval0 hW hcnd _
  have hval : ∀ (j : Nat) t v, Try.f3.params[j]? = some t → args[j]? = some v → Value.okWide Try.prog W .any base t v := hval0
  have hW' := hW
  obtain ⟨p, q, hA0, hV, rfl, hfz, hnd⟩ := hW
  have hA : DataW.TrodAll enc Try.prog W 0 (fun _ => true) true Try.f3.params.toList args.toList ds p := hA0
  rw [Try.params3] at hA hval
  obtain ⟨v0, vs0, d0, ds0, p0, q0, hargs, rfl, rfl, h0, r0⟩ := trodAll_cons hA
  obtain ⟨v1, vs1, d1, ds1, p1, q1, rfl, rfl, rfl, h1, r1⟩ := trodAll_cons r0
  obtain ⟨rfl, rfl, rfl⟩ := trodAll_nil r1
  obtain rfl : args = #[v0, v1] := by cases args; simp_all
  obtain ⟨rfl, rfl⟩ := trodVars_none hV
  have k0 := h0
  have lt0 : ∀ x ∈ p0, x.block < W.heap.size := by obtain ⟨m, hm⟩ := k0; exact DataW.trod_lt m _ _ _ hm
  obtain ⟨z0, w0⟩ := view_bytes (hval 0 22 v0 rfl rfl) h0
  have k1 := h1
  have lt1 : ∀ x ∈ p1, x.block < W.heap.size := by obtain ⟨m, hm⟩ := k1; exact DataW.trod_lt m _ _ _ hm
  obtain ⟨z1, w1⟩ := view_bytes (hval 1 22 v1 rfl rfl) h1
  clear hA0 hval0
  refine (walk v0 z0 v1 z1 W w0 w1).mono fun e W' ⟨he, bel⟩ => ?_
  subst he
  exact ⟨_, rfl, _, _, _, [], _, [], hW', trodAll_mk1 (shut_bool Try.underlying4 _), (trodAll_cons_mk (Below.trod laidOut (by kernel_rfl) (of_decide_eq_true (by kernel_rfl)) k0 bel lt0) (trodAll_cons_mk (Below.trod laidOut (by kernel_rfl) (of_decide_eq_true (by kernel_rfl)) k1 bel lt1) trodAll_mk0)), rfl, bel.frame _, fun h => by cases h⟩

theorem over : Rows.fnThroughRow.holds Try.pinned (OpenSpec.ofChange Rows.fnThroughSpec) :=
  OpenClaim.holds_of_wide 3 Try.f3 rfl rfl rfl rfl rfl rfl rfl ⟨rfl, rfl, rfl, rfl, rfl⟩ rfl rfl rfl rfl rfl (by kernel_rfl) Try.func3 (by kernel_rfl)
    (of_decide_eq_true (by kernel_rfl)) (by unfold Func.isWrapper; first | (rw [if_pos (by decide +kernel)]; kernel_rfl) | (rw [if_neg (by decide +kernel)]; exact ⟨rfl, rfl⟩))
    (fun os started H enc _ => lifted os started H enc)

theorem proved : Rows.FnThroughSaid := over
end Go.Proofs.Ytiejljlmbpgbiaa.fnThrough
