/- The bits that rows and columns tell in common, in the program. Conditions: a valid table whose parts are rows. -/
import Derived.Test.YtiejljlmbpgbiaaTb2
import Derived.Test.YtiejljlmbpgbiaaCbP
import Derived.BigQuiet
namespace Go.Proofs.Ytiejljlmbpgbiaa
open Go.RowKit
set_option maxRecDepth 100000
set_option linter.unusedVariables false
set_option linter.unusedSimpArgs false

theorem getD_get {xs : List Nat} {i : Nat} (h : i < xs.length) : xs.getD i 0 = xs[i] := by rw [List.getD_eq_getElem?_getD, List.getElem?_eq_getElem h]; rfl
set_option maxHeartbeats 400000 in
theorem bitsOf_any (x : Nat) (a : Rat) (h : Num .f32 x a) (h0 : 0 < a) (w : World) :
    Calls Try.prog 55 #[.float .f32 x] w fun e w' => e = .returned (.float .f32 (bW x)) ∧ ∃ n, w' = w.drewN n := by
  have o1 := run_op (P := Try.prog) (bW_num h h0).1
  go_enter Try.func55, Try.ntmps55
  go_wp2_with (first | (go_at_call 71; refine (log_any x a h h0 _).mono ?_; rintro e w' ⟨rfl, n, rfl⟩) | simp only [o1])
  go_ret
  exact ⟨rfl, _, rfl⟩
set_option maxHeartbeats 4000000 in
theorem common_any (n m : Nat) (v : Value) (xs : List Nat) (w : World) (h : Rg eF w v xs) (ht : TabN n m xs) (ho : oneW xs = true) (hr : isRowW (rsL xs n m) = true) (hc : isRowW (rsL (turnL xs n m) m n) = true)
    (hk : CbOk n m xs (rsL xs n m) (rsL (turnL xs n m) m n)) :
    Calls Try.prog 30 #[.agg #[.int .i64 n, .int .i64 m, v]] w fun e w' => e = .returned (.tuple #[.float .f32 (cbN xs (rsL xs n m) (rsL (turnL xs n m) m n) m n), .bool true]) ∧ Below w.heap.size w w' := by
  obtain ⟨ao, cap, rfl⟩ := h.shape
  obtain ⟨w0, hw0⟩ : ∃ W, w.alloc (.cells #[.int .i64 n, .int .i64 m, .slice ao xs.length cap] 33) = W := ⟨_, rfl⟩
  have hb0 : Below w.heap.size w w0 := by rw [← hw0]; go_grown
  have hP : ChP w0 w.heap.size n m (.slice ao xs.length cap) := by rw [← hw0]; exact ⟨by simp [go_sem], by simp [go_sem], by simp [go_sem]⟩
  have H := Lib.hid (h.below hb0)
  have HP := Lib.hid hP
  have h1 := Lib.hid (rowPart_yes n m _ xs w0 H.out ht ho hr)
  have h2 := fun W (hb : Below w0.heap.size w0 W) => colPart_yes n m _ xs W (H.out.below hb) ht ho hc
  have H2 := Lib.hid h2
  have Ht := Lib.hid ht
  have HK := Lib.hid hk
  have hn8 := ht.n8
  have hm8 := ht.m8
  have hRl := rsL_len xs n m
  have hCl := rsL_len (turnL xs n m) m n
  obtain ⟨p0, p1, p2⟩ := hP
  clear h ht ho hr hc h2 hk
  generalize rsL xs n m = R at *
  generalize rsL (turnL xs n m) m n = C at *
  have HRl := Lib.hid hRl
  have HCl := Lib.hid hCl
  clear hRl hCl
  go_enter Try.func30, Try.ntmps30
  go_wp2_with fail
  refine h1.out.mono ?_
  rintro e w1 ⟨vR, rfl, hoR, hb1⟩
  clear p0 p1 p2 hw0 h1
  obtain ⟨p0, p1, p2⟩ := HP.out.below hb1
  obtain ⟨aR, cR, rfl⟩ := hoR.rg.shape
  have HoR := Lib.hid hoR.rg
  have HB1 := Lib.hid hb1
  have hcol := Lib.hid (H2.out _ hb1)
  clear hoR hb1 H2
  go_wp2_with fail
  refine hcol.out.mono ?_
  rintro e w2 ⟨vC, rfl, hoC, hb2⟩
  clear p0 p1 p2
  obtain ⟨aC, cC, rfl⟩ := hoC.rg.shape
  have HoC := Lib.hid hoC.rg
  have HoR := Lib.hid (HoR.out.below hb2)
  have HB2 := Lib.hid (bnext HB1.out hb2)
  have H := Lib.hid (H.out.below HB2.out)
  have HP := Lib.hid (HP.out.below HB2.out)
  have HBw := Lib.hid (bnext hb0 HB2.out)
  clear hoC hb2 hcol hb0
  have e1 := HRl.out
  have e2 := HCl.out
  go_wp2_with fail
  go_loopw [8, 31] (fun sv iv wr => ∃ i : Nat, iv = .int .i64 i ∧ sv = .float .f32 (cbN xs R C m i) ∧ i ≤ n ∧ Below w2.heap.size w2 wr) (fun _ iv _ => n - (intOf iv).toNat)
  case atStart => exact ⟨0, rfl, rfl, Nat.zero_le _, Below.refl _ _⟩
  case round =>
    obtain ⟨i, rfl, rfl, hi, hB⟩ := hrel
    by_cases hin : i < n
    · obtain ⟨p0, p1, p2⟩ := HP.out.below hB
      obtain ⟨bR, oR, rfl, hcR⟩ := getD_cell (HoR.out.below hB) i (by omega)
      have hrow := Lib.hid (tabRow_any n m i _ xs wr (H.out.below hB) Ht.out hin)
      have HB := Lib.hid hB
      obtain ⟨x, hx⟩ : ∃ x, R.getD i 0 = x := ⟨_, rfl⟩
      rw [hx] at hcR
      have Hx := Lib.hid hx
      clear hB hx
      have hiI : (i : Int) < (R.length : Int) := by omega
      have hiN : i < R.length := by omega
      go_wp2_with fail
      refine hrow.out.mono ?_
      rintro e w3 ⟨v3, rfl, hr3, ⟨a3, rfl⟩, hb3⟩
      have HB3 := Lib.hid (bnext HB.out hb3)
      have Hr3 := Lib.hid hr3
      have hl3 := Lib.hid (rowL_len Ht.out.len hin)
      obtain ⟨s0, hs0⟩ : ∃ s, cbN xs R C m i = s := ⟨_, rfl⟩
      have Hs0 := Lib.hid hs0
      rw [hs0]
      clear hrow hr3 hb3 HB p0 p1 p2 hcR hs0
      go_wp2_with fail
      go_loopw [8, 40] (fun sv kv wk => ∃ k : Nat, kv = .int .i64 k ∧ sv = .float .f32 (cbK xs R C m i s0 k) ∧ k ≤ m ∧ Below w3.heap.size w3 wk) (fun _ kv _ => m - (intOf kv).toNat)
      case atStart => exact ⟨0, rfl, rfl, Nat.zero_le _, Below.refl _ _⟩
      case round =>
        obtain ⟨k, rfl, rfl, hk, hB⟩ := hrel
        by_cases hkm : k < m
        · obtain ⟨b4, o4, rfl, hc4⟩ := getD_cell (Hr3.out.below hB) k (by rw [hl3.out]; exact hkm)
          obtain ⟨bC, oC, rfl, hcC⟩ := getD_cell (HoC.out.below (bnext HB3.out hB)) k (by omega)
          rw [show (rowL xs m i).getD k 0 = xs.getD (i * m + k) 0 by rw [List.getD_eq_getElem?_getD, rowL_get Ht.out.len hin hkm]; rfl] at hc4
          have hch := HK.out.p i k hin hkm
          have htm := fun hp => (HK.out.tm hin hkm hp)
          have hq := HK.out.q i k hin hkm
          have had := HK.out.add hin hkm
          have hst : cbK xs R C m i s0 (k + 1) = cbStep (cbK xs R C m i s0 k) (xs.getD (i * m + k) 0) (R.getD i 0) (C.getD k 0) := rfl
          rw [Hs0.out] at had
          rw [Hx.out] at had hq htm hst
          have hne := pos_ne hch
          have HB := Lib.hid hB
          have hkI : (k : Int) < (m : Int) := by omega
          have hkC : (k : Int) < (C.length : Int) := by omega
          have hkC2 : k < C.length := by omega
          obtain ⟨s1, hs1⟩ : ∃ s, cbK xs R C m i s0 (k + 1) = s := ⟨_, rfl⟩
          rw [hs1] at had hst
          have Hs1 := Lib.hid hs1
          clear hB hch hs1
          generalize cbK xs R C m i s0 k = s at *
          generalize xs.getD (i * m + k) 0 = p at *
          generalize C.getD k 0 = c at *
          cases hp : posB p
          · have hst2 : s1 = s := by rw [hst, cbStep, if_neg (by rw [hp]; simp)]
            rw [hp] at hne
            have Hst2 := Lib.hid hst2
            clear hst htm hq had hst2 hcC
            go_wp2
            go_roundw
            case rel => exact ⟨k + 1, by go_num, by rw [Hs1.out, Hst2.out], by omega, HB.out⟩
            case measure => simp [intOf]; omega
          · rw [hp] at hne
            obtain ⟨tm, a, na, a0⟩ := htm hp
            obtain ⟨⟨b, nb, b0⟩, d, nd, d0⟩ := hq hp
            have o1 := run_op (P := Try.prog) tm.d1
            have o2 := run_op (P := Try.prog) tm.d2
            have o3 := run_op (P := Try.prog) tm.t
            have o4 := run_op (P := Try.prog) (had hp)
            have Hb1 := fun W => bitsOf_any p a na a0 W
            have Hb2 := fun W => bitsOf_any x b nb b0 W
            have Hb3 := fun W => bitsOf_any c d nd d0 W
            clear hst htm hq had tm na nb nd
            go_wp2_with fail
            go_quiet ((go_at_call 55; first | with_reducible exact Calls.quiet_of (Hb1 _) | with_reducible exact Calls.quiet_of (Hb2 _) | with_reducible exact Calls.quiet_of (Hb3 _)))
            go_wp2
            go_roundw
            case rel => exact ⟨k + 1, by go_num, by rw [Hs1.out], by omega, by first | exact bnext HB.out (below_drewN _ _) | exact HB.out⟩
            case measure => simp [intOf]; omega
        · have hkm2 : k = m := by omega
          have hfin : cbK xs R C m i s0 k = cbN xs R C m (i + 1) := by rw [hkm2, cbN, Hs0.out]
          have HF := Lib.hid (bnext HB3.out hB)
          have hkI : ¬ (k : Int) < (m : Int) := by omega
          rw [hfin]
          clear hfin hB
          go_wp2
          go_roundw
          case rel => exact ⟨i + 1, by go_num, rfl, by omega, HF.out⟩
          case measure => simp [intOf]; omega
    · have hin2 : i = n := by omega
      have hiI : ¬ (i : Int) < (R.length : Int) := by omega
      obtain ⟨q, nq⟩ := HK.out.fin
      have hfin := fin_num nq
      have has := fun W => asNumber_any (cbN xs R C m n) W
      have hnb : nbV (cbN xs R C m n) = cbN xs R C m n := by unfold nbV; rw [hfin]; rfl
      rw [hfin, hnb] at has
      rw [hin2]
      have HF := Lib.hid (bnext HBw.out hB)
      clear hnb hfin nq hB
      go_wp2_with (go_at_call 56; refine (has _).mono ?_; rintro e w3 ⟨rfl, k3, rfl⟩)
      go_ret2
      exact ⟨rfl, bnext HF.out (below_drewN _ _)⟩
end Go.Proofs.Ytiejljlmbpgbiaa
