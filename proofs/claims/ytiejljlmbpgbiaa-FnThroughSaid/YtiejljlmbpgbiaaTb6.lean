/- What is told, in the reference. Conditions: a valid channel that takes the row, a valid table. -/
import Derived.Test.YtiejljlmbpgbiaaTb5
namespace Go.Proofs.Ytiejljlmbpgbiaa
open Go.RowKit
set_option maxRecDepth 100000
set_option linter.unusedVariables false
set_option linter.unusedSimpArgs false

set_option maxHeartbeats 400000 in
theorem l02Bits_any (x : Nat) (a : Rat) (h : Num .f32 x a) (h0 : 0 < a) (w : World) :
    Calls Try.prog 61 #[.float .f32 x] w fun e w' => e = .returned (.float .f32 (bW x)) ∧ w = w' := by
  have o1 := run_op (P := Try.prog) (bW_num h h0).1
  go_enter Try.func61, Try.ntmps61
  go_wp2_with (first | (go_at_call 78; refine (l01Log_any x a h h0 _).mono ?_; rintro e w' ⟨rfl, rfl⟩) | simp only [o1])
  go_ret
  exact ⟨rfl, rfl⟩
set_option maxHeartbeats 4000000 in
theorem commonS_any (n m : Nat) (v : Value) (xs : List Nat) (w : World) (h : Rg eF w v xs) (ht : TabN n m xs) (ho : oneW xs = true)
    (hk : CbOk n m xs (rsL xs n m) (rsL (turnL xs n m) m n)) :
    Calls Try.prog 45 #[.agg #[.int .i64 n, .int .i64 m, v]] w fun e w' => e = .returned (.tuple #[.float .f32 (cbN xs (rsL xs n m) (rsL (turnL xs n m) m n) m n), .bool true]) ∧ Below w.heap.size w w' := by
  obtain ⟨ao, cap, rfl⟩ := h.shape
  obtain ⟨w0, hw0⟩ : ∃ W, w.alloc (.cells #[.int .i64 n, .int .i64 m, .slice ao xs.length cap] 33) = W := ⟨_, rfl⟩
  have hb0 : Below w.heap.size w w0 := by rw [← hw0]; go_grown
  have hP : ChP w0 w.heap.size n m (.slice ao xs.length cap) := by rw [← hw0]; exact ⟨by simp [go_sem], by simp [go_sem], by simp [go_sem]⟩
  have H := Lib.hid (h.below hb0)
  have HP := Lib.hid hP
  have h1 := Lib.hid (l02Table_yes w.heap.size n m _ xs w0 hP H.out ht ho)
  have H2 := Lib.hid (fun W (hb : Below w0.heap.size w0 W) => l02Rows_any w.heap.size n m _ xs W (HP.out.below hb) (H.out.below hb) ht)
  have H3 := Lib.hid (fun W (hb : Below w0.heap.size w0 W) => l02Cols_any w.heap.size n m _ xs W (HP.out.below hb) (H.out.below hb) ht)
  have Ht := Lib.hid ht
  have HK := Lib.hid hk
  have hn8 := ht.n8
  have hm8 := ht.m8
  have hRl := rsL_len xs n m
  have hCl := rsL_len (turnL xs n m) m n
  clear h ht ho hk hP
  generalize rsL xs n m = R at *
  generalize rsL (turnL xs n m) m n = C at *
  have HRl := Lib.hid hRl
  have HCl := Lib.hid hCl
  clear hRl hCl
  go_enter Try.func45, Try.ntmps45
  go_wp2_with fail
  refine h1.out.mono ?_
  rintro e w1 ⟨rfl, k1, hk1⟩
  have hb1 : Below w0.heap.size w0 w1 := by rw [hk1]; exact below_drewN _ _
  have HB1 := Lib.hid hb1
  have hrw := Lib.hid (H2.out w1 hb1)
  clear hk1 hb1 hw0 h1 H2
  go_wp2_with fail
  refine hrw.out.mono ?_
  rintro e w2 ⟨vR, rfl, hoR, hb2⟩
  obtain ⟨aR, cR, rfl⟩ := hoR.shape
  have HoR := Lib.hid hoR.og.rg
  have HB2 := Lib.hid (bnext HB1.out hb2)
  have hcl := Lib.hid (H3.out w2 HB2.out)
  clear hoR hb2 hrw H3
  go_wp2_with fail
  refine hcl.out.mono ?_
  rintro e w3 ⟨vC, rfl, hoC, hb3⟩
  obtain ⟨aC, cC, rfl⟩ := hoC.shape
  have HoC := Lib.hid hoC.og.rg
  have HoR := Lib.hid (HoR.out.below hb3)
  have HB3 := Lib.hid (bnext HB2.out hb3)
  have H := Lib.hid (H.out.below HB3.out)
  have HP := Lib.hid (HP.out.below HB3.out)
  have HBw := Lib.hid (bnext hb0 HB3.out)
  clear hoC hb3 hcl hb0
  have e1 := HRl.out
  have e2 := HCl.out
  go_wp2_with fail
  go_loopw [6, 7] (fun sv iv wr => ∃ i : Nat, iv = .int .i64 i ∧ sv = .float .f32 (cbN xs R C m i) ∧ i ≤ n ∧ Below w3.heap.size w3 wr) (fun _ iv _ => n - (intOf iv).toNat)
  case atStart => exact ⟨0, rfl, rfl, Nat.zero_le _, Below.refl _ _⟩
  case round =>
    obtain ⟨i, rfl, rfl, hi, hB⟩ := hrel
    obtain ⟨p0, p1, p2⟩ := HP.out.below hB
    by_cases hin : i < n
    · have HB := Lib.hid hB
      obtain ⟨s0, hs0⟩ : ∃ s, cbN xs R C m i = s := ⟨_, rfl⟩
      have Hs0 := Lib.hid hs0
      rw [hs0]
      have hiI : (i : Int) < (n : Int) := by omega
      clear hB hs0
      go_wp2_with fail
      clear p0 p1 p2
      go_loopw [6, 8] (fun sv kv wk => ∃ k : Nat, kv = .int .i64 k ∧ sv = .float .f32 (cbK xs R C m i s0 k) ∧ k ≤ m ∧ Below wr.heap.size wr wk) (fun _ kv _ => m - (intOf kv).toNat)
      case atStart => exact ⟨0, rfl, rfl, Nat.zero_le _, Below.refl _ _⟩
      case round =>
        rename_i wo _ _ _
        obtain ⟨k, rfl, rfl, hk, hBk⟩ := hrel
        have hB := bnext HB.out hBk
        obtain ⟨p0, p1, p2⟩ := HP.out.below hB
        by_cases hkm : k < m
        · obtain ⟨lo, hlo, l1, l2, l3, -⟩ := row_nums (n := n) (m := m) hin hn8 hm8
          have hxl : lo + k < xs.length := by rw [Ht.out.len, hlo]; exact at_lt hin hkm
          obtain ⟨b4, o4, rfl, hc4⟩ := getD_cell (H.out.below hB) (lo + k) hxl
          obtain ⟨bR, oR, rfl, hcR⟩ := getD_cell (HoR.out.below hB) i (by omega)
          obtain ⟨bC, oC, rfl, hcC⟩ := getD_cell (HoC.out.below hB) k (by omega)
          have hch := HK.out.p i k hin hkm
          have htm := fun hp => (HK.out.tm hin hkm hp)
          have hq := HK.out.q i k hin hkm
          have had := HK.out.add hin hkm
          have hst : cbK xs R C m i s0 (k + 1) = cbStep (cbK xs R C m i s0 k) (xs.getD (i * m + k) 0) (R.getD i 0) (C.getD k 0) := rfl
          rw [Hs0.out] at had
          rw [← hlo] at had hq htm hst hch
          have hpw : (FloatKind.f32.format.order (xs.getD (lo + k) 0) 0 == some .gt) = posB (xs.getD (lo + k) 0) := rfl
          have HBk := Lib.hid hBk
          have hkI : (k : Int) < (m : Int) := by omega
          have hkC : (k : Int) < (C.length : Int) := by omega
          have hkC2 : k < C.length := by omega
          have hkR : (i : Int) < (R.length : Int) := by omega
          have hkR2 : i < R.length := by omega
          obtain ⟨s1, hs1⟩ : ∃ s, cbK xs R C m i s0 (k + 1) = s := ⟨_, rfl⟩
          rw [hs1] at had hst
          have Hs1 := Lib.hid hs1
          clear hB hBk hch hs1 hlo
          generalize cbK xs R C m i s0 k = s at *
          generalize xs.getD (lo + k) 0 = p at *
          generalize C.getD k 0 = c at *
          generalize R.getD i 0 = x at *
          cases hp : posB p
          · have hst2 : s1 = s := by rw [hst, cbStep, if_neg (by rw [hp]; simp)]
            rw [hp] at hpw
            have Hst2 := Lib.hid hst2
            clear hst htm hq had hst2 hcC hcR
            go_wp2
            go_roundw
            case rel => exact ⟨k + 1, by go_num, by rw [Hs1.out, Hst2.out], by omega, HBk.out⟩
            case measure => simp [intOf]; omega
          · rw [hp] at hpw
            obtain ⟨tm, a, na, a0⟩ := htm hp
            obtain ⟨⟨b, nb, b0⟩, d, nd, d0⟩ := hq hp
            have o1 := run_op (P := Try.prog) tm.d1
            have o2 := run_op (P := Try.prog) tm.d2
            have o3 := run_op (P := Try.prog) tm.t
            have o4 := run_op (P := Try.prog) (had hp)
            have Hb1 := fun W => l02Bits_any p a na a0 W
            have Hb2 := fun W => l02Bits_any x b nb b0 W
            have Hb3 := fun W => l02Bits_any c d nd d0 W
            clear hst htm hq had tm na nb nd
            go_wp2_with fail
            go_quiet ((go_at_call 61; first | with_reducible exact Calls.quiet_of (qi (Hb1 _)) | with_reducible exact Calls.quiet_of (qi (Hb2 _)) | with_reducible exact Calls.quiet_of (qi (Hb3 _))))
            go_wp2
            go_roundw
            case rel => exact ⟨k + 1, by go_num, by rw [Hs1.out], by omega, by first | exact bnext HBk.out (below_drewN _ _) | exact HBk.out⟩
            case measure => simp [intOf]; omega
        · have hkm2 : k = m := by omega
          have hfin : cbK xs R C m i s0 k = cbN xs R C m (i + 1) := by rw [hkm2, cbN, Hs0.out]
          have HF := Lib.hid hB
          have hkI : ¬ (k : Int) < (m : Int) := by omega
          rw [hfin]
          clear hfin hB hBk
          go_wp2
          go_roundw
          case rel => exact ⟨i + 1, by go_num, rfl, by omega, HF.out⟩
          case measure => simp [intOf]; omega
    · have hin2 : i = n := by omega
      have hiI : ¬ (i : Int) < (n : Int) := by omega
      obtain ⟨q, nq⟩ := HK.out.fin
      have hfin := fin_num nq
      have has := fun W => number_any (cbN xs R C m n) W
      have hnb : nbV (cbN xs R C m n) = cbN xs R C m n := by unfold nbV; rw [hfin]; rfl
      rw [hfin, hnb] at has
      rw [hin2]
      have HF := Lib.hid (bnext HBw.out hB)
      clear hnb hfin nq hB
      go_wp2_with (go_at_call 36; refine (has _).mono ?_; rintro e w4 ⟨rfl, k3, rfl⟩)
      go_ret2
      exact ⟨rfl, bnext HF.out (below_drewN _ _)⟩
set_option maxHeartbeats 2000000 in
theorem jointS_yes (n m : Nat) (v : Value) (xs : List Nat) (u : Value) (row : List Nat) (w : World) (h : Rg eF w v xs) (h' : Rg eF w u row) (hc : ChanOk n m xs) (hr : isRowW row = true) (hl : row.length = n)
    (ht : TabN n m (jL row xs n m)) (ho : oneW (jL row xs n m) = true) :
    Calls Try.prog 44 #[.agg #[.int .i64 n, .int .i64 m, v], u] w fun e w' => ∃ v', e = .returned (.tuple #[.agg #[.int .i64 n, .int .i64 m, v'], .bool true]) ∧ Og eF w.heap.size w' v' (jL row xs n m) ∧ Below w.heap.size w w' := by
  have hfit : fitW n m xs row = true := by unfold fitW; rw [chan_of hc, hr, hl]; simp
  obtain ⟨ao, cap, rfl⟩ := h.shape
  obtain ⟨ao', cap', rfl⟩ := h'.shape
  obtain ⟨w0, hw0⟩ : ∃ W, (w.alloc (.cells #[.int .i64 n, .int .i64 m, .slice ao xs.length cap] 27)).alloc (.cells #[.int .i64 0, .int .i64 0, .slice none 0 0] 33) = W := ⟨_, rfl⟩
  have hb0 : Below w.heap.size w w0 := by rw [← hw0]; go_grown
  have hP : ChP w0 w.heap.size n m (.slice ao xs.length cap) := by rw [← hw0]; exact ⟨by simp [go_sem], by simp [go_sem], by simp [go_sem]⟩
  have hQ : w0.heap[w.heap.size + 1]? = some (.cells #[.int .i64 0, .int .i64 0, .slice none 0 0] 33 (0, 0)) := by
    have := heap_alloc_new (w.alloc (.cells #[.int .i64 n, .int .i64 m, .slice ao xs.length cap] 27)) (.cells #[.int .i64 0, .int .i64 0, .slice none 0 0] 33)
    rw [World.size_alloc] at this; rw [← hw0]; exact this
  have H := Lib.hid (h.below hb0)
  have H' := Lib.hid (h'.below hb0)
  have HP := Lib.hid hP
  have HQ := Lib.hid hQ
  have HB0 := Lib.hid hb0
  have HC := Lib.hid (And.intro hc (And.intro hr hl))
  have HT := Lib.hid (And.intro ht ho)
  have hft := Lib.hid (l03Fits_any w.heap.size n m _ xs _ row w0 hP H.out H'.out)
  have hs0 : w.heap.size + 2 ≤ w0.heap.size := by rw [← hw0]; simp
  clear h h' hc hr ht ho hb0 hQ hl hP
  go_enter Try.func44, Try.ntmps44
  go_wp2_with fail
  refine hft.out.mono ?_
  rw [hfit]
  rintro e w1 ⟨rfl, k1, hk1⟩
  have hb1 : Below w0.heap.size w0 w1 := by rw [hk1]; exact below_drewN _ _
  have HB1 := Lib.hid hb1
  have hjo := Lib.hid (l03Joint_any w.heap.size n m _ xs _ row w1 (HP.out.below hb1) (H.out.below hb1) (H'.out.below hb1) HC.out.1 HC.out.2.1 HC.out.2.2)
  clear hk1 hb1 hw0 hft
  go_wp2_with fail
  refine hjo.out.mono ?_
  rintro e w2 ⟨v2, rfl, ho2, hb2⟩
  obtain ⟨a2, c2, rfl⟩ := ho2.rg.shape
  have HB2 := Lib.hid (bnext HB1.out hb2)
  obtain ⟨w3, hw3⟩ : ∃ W, w2.alloc (.cells #[.int .i64 n, .int .i64 m, .slice a2 (jL row xs n m).length c2] 33) = W := ⟨_, rfl⟩
  have hb3 : Below w2.heap.size w2 w3 := by rw [← hw3]; go_grown
  have hQ3 : ChP w3 w2.heap.size n m (.slice a2 (jL row xs n m).length c2) := by rw [← hw3]; exact ⟨by simp [go_sem], by simp [go_sem], by simp [go_sem]⟩
  have HB3 := Lib.hid (bnext HB2.out hb3)
  have HQ3 := Lib.hid hQ3
  have Ho3 := Lib.hid (ho2.below hb3)
  have hs1 := HB1.out.size
  have htb := Lib.hid (l02Table_yes w2.heap.size n m _ (jL row xs n m) w3 hQ3 Ho3.out.rg HT.out.1 HT.out.2)
  clear ho2 hb2 hb3 hQ3 hjo
  go_wp2_with fail
  refine htb.out.mono ?_
  rintro e w4 ⟨rfl, k4, hk4⟩
  have hb4 : Below w3.heap.size w3 w4 := by rw [hk4]; exact below_drewN _ _
  have HB4 := Lib.hid (bnext HB3.out hb4)
  have Ho4 := Lib.hid (Ho3.out.below hb4)
  obtain ⟨k0, k1, k2⟩ := HQ3.out.below hb4
  obtain ⟨r0, r1, r2, q0, q1, q2⟩ := cell3 (blk_next HB4.out HQ.out)
  have hfB := below3 (bnext HB0.out HB4.out) (w.heap.size + 1) (Nat.le_succ _) (.int .i64 n) (.int .i64 m) (.slice a2 (jL row xs n m).length c2)
  have hfO := Ho4.out.box3 (w.heap.size + 1) (by omega) (.int .i64 n) (.int .i64 m) (.slice a2 (jL row xs n m).length c2)
  have HF := Lib.hid (And.intro (Og.mono (show w.heap.size ≤ w1.heap.size by omega) hfO) hfB)
  clear hfB hfO hk4 hb4 hw3
  go_wp2
  exact bodyPost_ret (v := .tuple #[.agg #[.int .i64 n, .int .i64 m, .slice a2 (jL row xs n m).length c2], .bool true]) (by simp [results, Try.results44, go_sem, r0, r1, r2]) rfl ⟨_, rfl, HF.out.1, HF.out.2⟩
set_option maxHeartbeats 1000000 in
theorem toldS_yes (n m : Nat) (v : Value) (xs : List Nat) (u : Value) (row : List Nat) (w : World) (h : Rg eF w v xs) (h' : Rg eF w u row) (hc : ChanOk n m xs) (hr : isRowW row = true) (hl : row.length = n)
    (ht : TabN n m (jL row xs n m)) (ho : oneW (jL row xs n m) = true)
    (hk : CbOk n m (jL row xs n m) (rsL (jL row xs n m) n m) (rsL (turnL (jL row xs n m) n m) m n)) :
    Calls Try.prog 20 #[.agg #[.int .i64 n, .int .i64 m, v], u] w fun e w' => e = .returned (.tuple #[.float .f32 (cbN (jL row xs n m) (rsL (jL row xs n m) n m) (rsL (turnL (jL row xs n m) n m) m n) m n), .bool true]) ∧ Below w.heap.size w w' := by
  obtain ⟨ao, cap, rfl⟩ := h.shape
  obtain ⟨ao', cap', rfl⟩ := h'.shape
  obtain ⟨w0, hw0⟩ : ∃ W, w.alloc (.cells #[.int .i64 n, .int .i64 m, .slice ao xs.length cap] 27) = W := ⟨_, rfl⟩
  have hb0 : Below w.heap.size w w0 := by rw [← hw0]; go_grown
  have hP : ChP w0 w.heap.size n m (.slice ao xs.length cap) := by rw [← hw0]; exact ⟨by simp [go_sem], by simp [go_sem], by simp [go_sem]⟩
  have hj := Lib.hid (jointS_yes n m _ xs _ row w0 (h.below hb0) (h'.below hb0) hc hr hl ht ho)
  have HK := Lib.hid (fun W v (h : Rg eF W v (jL row xs n m)) => commonS_any n m v _ W h ht ho hk)
  obtain ⟨p0, p1, p2⟩ := hP
  have HB0 := Lib.hid hb0
  clear h h' hc hr ht ho hk hb0
  generalize jL row xs n m = J at *
  generalize cbN J (rsL J n m) (rsL (turnL J n m) m n) m n = s at *
  have Hl := Lib.hid hl
  clear hl
  go_enter Try.func20, Try.ntmps20
  go_wp2_with fail
  refine hj.out.mono ?_
  rintro e w1 ⟨v1, rfl, ho1, hb1⟩
  obtain ⟨a1, c1, rfl⟩ := ho1.rg.shape
  obtain ⟨w2, hw2⟩ : ∃ W, w1.alloc (.cells #[.int .i64 n, .int .i64 m, .slice a1 J.length c1] 33) = W := ⟨_, rfl⟩
  have hb2 : Below w1.heap.size w1 w2 := by rw [← hw2]; go_grown
  have hQ : ChP w2 w1.heap.size n m (.slice a1 J.length c1) := by rw [← hw2]; exact ⟨by simp [go_sem], by simp [go_sem], by simp [go_sem]⟩
  have hcm := Lib.hid (HK.out w2 _ (ho1.rg.below hb2))
  have HB2 := Lib.hid (bnext HB0.out (bnext hb1 hb2))
  clear p0 p1 p2 hw0 ho1 hb1 hb2
  obtain ⟨p0, p1, p2⟩ := hQ
  go_wp2_with fail
  refine hcm.out.mono ?_
  rintro e w3 ⟨rfl, hb3⟩
  have HB3 := Lib.hid (bnext HB2.out hb3)
  clear hb3 p0 p1 p2 hw2
  go_wp2
  go_ret2
  exact ⟨rfl, HB3.out⟩
end Go.Proofs.Ytiejljlmbpgbiaa
