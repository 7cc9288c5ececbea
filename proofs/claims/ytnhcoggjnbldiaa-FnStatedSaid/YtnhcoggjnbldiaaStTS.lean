/- StateText: the reference; both ways of the program together. No conditions but that the slices read. -/
import Derived.Test.YtnhcoggjnbldiaaStB
import Derived.Test.YtnhcoggjnbldiaaStI
import Derived.Deep.RegionHeld3
import Derived.Handy
namespace Go.Proofs.Ytnhcoggjnbldiaa
open Go.RowKit
set_option maxRecDepth 100000
set_option linter.unusedVariables false
set_option linter.unusedSimpArgs false

theorem implStT_any (p : Int) (v : Value) (zs : List Int) (vb : Value) (bs : List Bool) (st cn : Int) (w : World) (h : RI w v zs) (hbv : Rg Value.bool w vb bs) :
    Calls Try.prog 15 #[.agg #[.int .i64 p, v], vb, .int .i64 st, .int .i64 cn] w fun e w' => ∃ v', e = .returned (.tuple #[v', .bool (sxOk p zs bs st cn)]) ∧ OI w.heap.size w' v' (sxZ p zs bs st cn) ∧ Below w.heap.size w w' := by
  cases hk : sxOk0 p zs bs st cn with
  | true => exact implStT_ok p v zs vb bs st cn w h hbv hk
  | false => exact implStT_bad p v zs vb bs st cn w h hbv hk
set_option maxHeartbeats 4000000 in
theorem specStT_any (p : Int) (v : Value) (zs : List Int) (vb : Value) (bs : List Bool) (st cn : Int) (w : World) (h : RI w v zs) (hbv : Rg Value.bool w vb bs) :
    Calls Try.prog 17 #[.agg #[.int .i64 p, v], vb, .int .i64 st, .int .i64 cn] w fun e w' => ∃ v', e = .returned (.tuple #[v', .bool (sxOk p zs bs st cn)]) ∧ OI w.heap.size w' v' (sxZ p zs bs st cn) ∧ Below w.heap.size w w' := by
  have hlen := h.len
  have hlb := hbv.len
  obtain ⟨ao, cap, rfl⟩ := h.shape
  obtain ⟨aob, capb, rfl⟩ := hbv.shape
  have hb : ∀ o, Below w.heap.size w (w.alloc o) := fun o => by go_grown
  have g := h.below (hb (.cells #[.int .i64 p, .slice ao zs.length cap] 30))
  have G := Lib.hid h
  have GB := Lib.hid hbv
  by_cases hs : shs p zs = true
  · obtain ⟨m, rfl, hm1, hm8, hl2, hl16, hz, hsum⟩ := shs_parts hs
    have hN256 : 2 ^ m ≤ 256 := Nat.le_trans (Nat.pow_le_pow_right (by decide) hm8) (by decide)
    have hN1 : 0 < 2 ^ m := Nat.two_pow_pos m
    have hLi : (2 : Int) ^ m = ((2 ^ m : Nat) : Int) := by simp
    have Hspr := Lib.hid (spr_len m zs)
    have HLt := Lib.hid (spr_lt m zs (by omega))
    have Hz := Lib.hid (show ∀ z ∈ zs, 1 ≤ z ∧ z ≤ (2 ^ m : Nat) by
      intro z hzm
      have h1 := (sum_ge (zs := zs) fun z hz' => by have := hz z hz'; omega).2 z hzm
      rw [hsum, hLi] at h1
      exact ⟨(hz z hzm).1, h1⟩)
    have hO0 : sxOk0 (m : Int) zs bs st cn = (decide (bs.length ≤ 1024) && (inB cn 0 64 && inB st (2 ^ m : Nat) (2 * (2 ^ m : Nat) - 1))) := by rw [sxOk0, hs, Int.toNat_natCast]; rfl
    have hO1 : sxO (m : Int) zs bs st cn = if sxOk0 (m : Int) zs bs st cn = true then stF (2 ^ m) (spr m zs) zs bs cn.toNat st.toNat bs.length [] else none := by rw [sxO, Int.toNat_natCast]
    have hsprw := fun v B w h => l05Spread_any (m : Int) v zs B w hs h
    simp only [Int.toNat_natCast] at hsprw
    generalize spr m zs = tb at *
    generalize 2 ^ m = N at *
    have HO0 := Lib.hid hO0
    have HO1 := Lib.hid hO1
    clear hO0 hO1 hz hsum
    have hlz : decide ((1024 : Int) < (bs.length : Int)) = !decide (bs.length ≤ 1024) := by
      by_cases hx : bs.length ≤ 1024 <;> simp [hx] <;> omega
    by_cases hl : bs.length ≤ 1024
    · have hlf : decide ((1024 : Int) < (bs.length : Int)) = false := decide_eq_false (by omega)
      clear hlz
      by_cases h3 : inB cn 0 64 = true
      · by_cases h4 : inB st (N : Int) (2 * (N : Int) - 1) = true
        · have hok : sxOk0 (m : Int) zs bs st cn = true := by rw [HO0.out, h3, h4]; simp [hl]
          have h3' := inB_eq h3
          have h4' := inB_eq h4
          simp only [if_true] at h3' h4'
          obtain ⟨c, rfl⟩ := Int.eq_ofNat_of_zero_le h3'.1
          obtain ⟨s0, rfl⟩ := Int.eq_ofNat_of_zero_le (show 0 ≤ st by omega)
          obtain ⟨R, hR⟩ : ∃ R, sxO (m : Int) zs bs (s0 : Int) (c : Int) = R := ⟨_, rfl⟩
          have HR := Lib.hid hR
          have HF := Lib.hid (show stF N tb zs bs c s0 bs.length [] = R by rw [← hR, HO1.out, if_pos hok, Int.toNat_natCast, Int.toNat_natCast])
          clear hR hok g
          have hc64 : c ≤ 64 := by omega
          have hs0a : N ≤ s0 := by omega
          have hs0b : s0 < 2 * N := by omega
          obtain ⟨b0, o0, e0, -, hZc⟩ := h.2.cells (by omega)
          obtain rfl := e0
          have HZc := Lib.hid hZc
          clear hZc
          have g0 := G.out.below (hb (.cells #[.int .i64 m, .slice (some ⟨b0, o0, none⟩) zs.length cap] 30))
          go_enter Try.func17, Try.ntmps17
          go_wp2_with (first | (go_at_call 31; refine (l05Shares_any (m : Int) _ zs w.heap.size _ g0 (by simp [go_sem]) (by simp [go_sem])).mono ?_; rw [hs]; rintro e w1 ⟨rfl, rfl⟩) | (go_at_call 28; refine (l00In_any _ _ _ _).mono ?_; (first | rw [h3] | rw [h4]); rintro e w' ⟨rfl, rfl⟩))
          refine (hsprw _ w.heap.size _ g0 (by simp) (by simp [go_sem]) (by simp [go_sem])).mono ?_
          rintro e w2 ⟨v2, rfl, ho, hb2⟩
          have hB1 := hb (.cells #[.int .i64 m, .slice (some ⟨b0, o0, none⟩) zs.length cap] 30)
          have kc0 : (w.alloc (.cells #[.int .i64 m, .slice (some ⟨b0, o0, none⟩) zs.length cap] 30)).cell? ⟨w.heap.size, 0, none⟩ = some (.int .i64 m) := by simp [go_sem]
          have kc1 : (w.alloc (.cells #[.int .i64 m, .slice (some ⟨b0, o0, none⟩) zs.length cap] 30)).cell? ⟨w.heap.size, 1, none⟩ = some (.slice (some ⟨b0, o0, none⟩) zs.length cap) := by simp [go_sem]
          have hshape : ∃ b2 off2 cap2, v2 = .slice (some ⟨b2, off2, none⟩) N cap2 ∧ N ≤ cap2 ∧ ∀ i (hi : i < tb.length), w2.cell? ⟨b2, off2 + i, none⟩ = some (.int .i64 tb[i]) := by
            obtain ⟨ao2, cap2, rfl⟩ := ho.shape
            obtain ⟨b2, off2, e, -, hc2⟩ := ho.ri.2.cells (by have := Hspr.out; omega)
            obtain ⟨_, _, _, e', hcp, _⟩ := ho.ri
            simp only [Value.slice.injEq] at e'
            obtain ⟨-, -, rfl⟩ := e'
            rw [Hspr.out] at hcp
            exact ⟨b2, off2, cap2, by rw [e, Hspr.out], hcp, hc2⟩
          obtain ⟨b2, off2, cap2, rfl, hcap2, hTc⟩ := hshape
          have hB2 := bnext hB1 hb2
          have kc0 := cnext hb2 kc0
          have kc1 := cnext hb2 kc1
          have HTc := Lib.hid hTc
          clear hTc ho hb2 hB1
          go_wp2_with fail
          go_loopw [2, 3, 12, 13] (fun sv iv ov lv wr => ∃ (i s l : Nat) (out : List Int), iv = .int .i64 ((c - i : Nat) : Int) ∧ i ≤ c ∧ sv = .int .i64 s ∧ N ≤ s ∧ s < 2 * N ∧ lv = .int .i64 l ∧ l ≤ bs.length ∧ out.length = i ∧ Small 16 out ∧ OwnI w2.heap.size wr ov out ∧ stF N tb zs bs (c - i) s l out = R ∧ Below w2.heap.size w2 wr) (fun _ iv _ _ _ => (intOf iv).toNat)
          case atStart => exact ⟨0, s0, bs.length, [], by rw [Nat.sub_zero], Nat.zero_le _, rfl, hs0a, hs0b, rfl, Nat.le_refl _, rfl, (fun z hz => by cases hz), own_empty w2 _ (Nat.le_refl _), by rw [Nat.sub_zero]; exact HF.out, by go_grown⟩
          case round =>
            obtain ⟨i, s, l, out, rfl, hi, rfl, hsN, hs2, rfl, hll, hol, hsm, hown, hq, hBw⟩ := hrel
            obtain ⟨ao3, cap3, rfl⟩ := hown.shape
            have Hq := Lib.hid hq
            have Hol := Lib.hid hol
            have Hsm := Lib.hid hsm
            have kw0 := cnext hBw kc0
            have kw1 := cnext hBw kc1
            clear hq hol hsm hs0a hs0b
            obtain ⟨d, hd⟩ : ∃ d, c - i = d := ⟨_, rfl⟩
            rw [hd]
            by_cases hic : i < c
            · have hd0 : 0 < d := by omega
              have hd1 : (d : Int) - 1 = ((c - (i + 1) : Nat) : Int) := by omega
              obtain ⟨q, hsq⟩ : ∃ q, s = N + q := ⟨s - N, by omega⟩
              have hpl : (s : Int) - (N : Int) = (q : Int) := by omega
              have hqN : q < N := by omega
              obtain ⟨L, hL, hLl⟩ := HLt.out q (by have := Hspr.out; omega)
              have hTq := HTc.out q (by have := Hspr.out; omega)
              rw [hL] at hTq
              have hZL := cnext hB2 (HZc.out L hLl)
              have hz := Hz.out zs[L] (List.getElem_mem hLl)
              obtain ⟨sh, hsh⟩ : ∃ sh : Nat, zs[L] = sh := ⟨zs[L].toNat, by omega⟩
              rw [hsh] at hZL hz
              have HQ := Lib.hid (show (refF N bs l (sh + cnt tb (L : Int) q)).bind (fun x => stF N tb zs bs (c - (i + 1)) x.1 x.2 (out ++ [(L : Int)])) = R by
                rw [← Hq.out, show c - i = (c - (i + 1)) + 1 by omega, hsq, stF_step N tb zs bs _ q l L sh out (by have := Hspr.out; omega) hL hLl hsh])
              have hTw := cnext hBw hTq
              have hZw := cnext hBw hZL
              have HTq := Lib.hid hTq
              clear hL hsh hsq hTq hZL
              go_wp2_with fail
              go_loop [15, 16] (fun sv kv => ∃ k n : Nat, kv = .int .i64 k ∧ k ≤ q ∧ sv = .int .i64 n ∧ n = cnt tb (L : Int) k) (fun _ kv => q - (intOf kv).toNat)
              case atStart => exact ⟨0, 0, rfl, Nat.zero_le _, rfl, by rw [cnt_zero]⟩
              case round =>
                obtain ⟨k, n, rfl, hk, rfl, hn⟩ := hrel
                have hcl := cnt_le tb (L : Int) k
                have hn512 : n ≤ k := by omega
                have Hn := Lib.hid hn
                clear hn hcl
                by_cases hkq : k < q
                · have hkt : k < tb.length := by have := Hspr.out; omega
                  have hTk := cnext hBw (HTc.out k hkt)
                  by_cases hy : tb[k] = (L : Int)
                  · rw [hy] at hTk
                    have Hy := Lib.hid hy
                    clear hy
                    go_wp2
                    go_round
                    case rel => exact ⟨k + 1, n + 1, by go_num, by omega, by go_num, by rw [cnt_yes _ _ _ hkt Hy.out, Hn.out]⟩
                    case measure => simp [intOf] <;> omega
                  · have hzf : (tb[k] == (L : Int)) = false := by simpa using hy
                    have Hy := Lib.hid (cnt_no _ _ _ hkt hy)
                    clear hy
                    generalize tb[k] = z at *
                    go_wp2
                    go_round
                    case rel => exact ⟨k + 1, n, by go_num, by omega, rfl, by rw [Hy.out, Hn.out]⟩
                    case measure => simp [intOf] <;> omega
                · have hkq2 : k = q := by omega
                  subst hkq2
                  have HQ2 := Lib.hid (show (refF N bs l (sh + n)).bind (fun x => stF N tb zs bs (c - (i + 1)) x.1 x.2 (out ++ [(L : Int)])) = R by rw [Hn.out]; exact HQ.out)
                  go_wp2_with fail
                  go_loop [2, 13] (fun sv lv => ∃ l' n' : Nat, sv = .int .i64 n' ∧ lv = .int .i64 l' ∧ l' ≤ l ∧ n' < 2 * N ∧ refF N bs l' n' = refF N bs l (sh + n)) (fun _ lv => (intOf lv).toNat)
                  case atStart => exact ⟨l, sh + n, by go_num, rfl, Nat.le_refl _, by omega, rfl⟩
                  case round =>
                    obtain ⟨l', n', rfl, rfl, hl', hn', hr⟩ := hrel
                    have Hr := Lib.hid hr
                    clear hr
                    by_cases hnN : n' < N
                    · by_cases hl0 : l' = 0
                      · have hnone : R = none := by
                          rw [← HQ2.out, ← Hr.out, hl0, refF_zero _ _ _ hnN]; rfl
                        have HO := Lib.hid (sx_none (HR.out.trans hnone))
                        subst hl0
                        clear hnone
                        have hB5 := bnext hB2 hBw
                        go_wp2
                        go_ret2
                        exact ⟨_, ret2 rfl (vb HO.out.2.symm), by rw [HO.out.1]; exact OI.nil _ _, hB5⟩
                      · obtain ⟨l2, hl2'⟩ : ∃ l2, l' = l2 + 1 := ⟨l' - 1, by omega⟩
                        have hlz : ((l' : Int) == 0) = false := by simpa using hl0
                        have hl1 : (l' : Int) - 1 = (l2 : Int) := by omega
                        have Hr2 := Lib.hid (show refF N bs l2 (2 * n' + bF bs l2) = refF N bs l (sh + n) by rw [← Hr.out, hl2', refF_in _ _ _ _ hnN])
                        have hl2b : l2 < bs.length := by omega
                        have hl2l : l2 < l' := by omega
                        have hbf := bF_le bs l2
                        clear hl2' hl0
                        have hB5 := hBw
                        go_wp2_with (go_at_call 44; refine (l05Bit_any _ bs l2 _ (GB.out.below (bnext hB2 hB5)) hl2b).mono ?_; rintro e w' ⟨rfl, rfl⟩)
                        go_round
                        case rel => exact ⟨l2, 2 * n' + bF bs l2, by go_num, rfl, by omega, by omega, Hr2.out⟩
                        case measure => simp [intOf] <;> omega
                    · have hr2 : refF N bs l (sh + n) = some (n', l') := by rw [← Hr.out, refF_out _ _ _ _ hnN]
                      have HQ3 := Lib.hid (show stF N tb zs bs (c - (i + 1)) n' l' (out ++ [(L : Int)]) = R by rw [← HQ2.out, hr2]; rfl)
                      clear hr2
                      have hB5 := hBw
                      have hs5 : w2.heap.size ≤ wr.heap.size := hB5.size
                      go_wp2_with (at_builtin; go_must (refine app_ints rfl _ _ rfl w2.heap.size w2.heap.size (Nat.le_refl _) (.slice ao3 out.length cap3) out rfl hown hB5 _ _ [(L : Int)] rfl rfl (by rw [Hol.out]; simp; omega) hs5 ?_))
                      intro v6 w6 hown6 hB6 _
                      go_wp2
                      go_roundw
                      case rel => exact ⟨i + 1, n', l', _, rfl, by omega, rfl, by omega, hn', rfl, by omega, by rw [List.length_append, Hol.out]; rfl, (fun z hz => by
                        rcases List.mem_append.1 hz with hz | hz
                        · exact Hsm.out z hz
                        · simp at hz; omega), hown6, HQ3.out, hB6⟩
                      case measure => simp [intOf] <;> omega
            · have hci : c - i = 0 := by omega
              have hd0 : d = 0 := by omega
              have hd := hd.trans hd0
              subst hd0
              have hfin : (if l = 0 ∧ s = N then some out else none) = R := by rw [← Hq.out, hci]; rfl
              have Hfin := Lib.hid hfin
              clear hci hfin
              by_cases hl0 : l = 0
              · subst hl0
                by_cases hsn : s = N
                · have hO := sx_some (HR.out.trans (show R = some out by rw [← Hfin.out, if_pos ⟨rfl, hsn⟩]))
                  have HO := Lib.hid hO
                  have hne : ((s : Int) != (N : Int)) = false := by simp; omega
                  have ho := OI.mono hB2.size (OwnI.oi hown (small_i64 Hsm.out (by decide)))
                  have Ho := Lib.hid ho
                  clear hO hsn ho
                  have Ho5 := Ho
                  have hB5 := bnext hB2 hBw
                  go_wp2
                  go_ret2
                  exact ⟨_, ret2 rfl (vb HO.out.2.symm), by rw [HO.out.1]; exact Ho5.out, hB5⟩
                · have hO := sx_none (HR.out.trans (show R = none by rw [← Hfin.out, if_neg (fun h => hsn h.2)]))
                  have HO := Lib.hid hO
                  have hne : ((s : Int) != (N : Int)) = true := by simp; omega
                  clear hO hsn
                  have hB5 := bnext hB2 hBw
                  go_wp2
                  go_ret2
                  exact ⟨_, ret2 rfl (vb HO.out.2.symm), by rw [HO.out.1]; exact OI.nil _ _, hB5⟩
              · have hO := sx_none (HR.out.trans (show R = none by rw [← Hfin.out, if_neg (fun h => hl0 h.1)]))
                have HO := Lib.hid hO
                have hlp : decide ((0 : Int) < (l : Int)) = true := decide_eq_true (by omega)
                have hl1 : 0 < l := by omega
                have hB5 := bnext hB2 hBw
                clear hO hl0
                go_wp2
                go_ret2
                exact ⟨_, ret2 rfl (vb HO.out.2.symm), by rw [HO.out.1]; exact OI.nil _ _, hB5⟩
        · have h4 : inB st (N : Int) (2 * (N : Int) - 1) = false := by simpa using h4
          have hO : sxO (m : Int) zs bs st cn = none := by rw [sxO, if_neg]; rw [HO0.out, h4]; simp
          have HO := Lib.hid (sx_none hO)
          clear hO
          go_enter Try.func17, Try.ntmps17
          go_wp2_with (first | (go_at_call 31; refine (l05Shares_any (m : Int) _ zs w.heap.size _ g (by simp [go_sem]) (by simp [go_sem])).mono ?_; rw [hs]; rintro e w1 ⟨rfl, rfl⟩) | (go_at_call 28; refine (l00In_any _ _ _ _).mono ?_; (first | rw [h3] | rw [h4]); rintro e w' ⟨rfl, rfl⟩))
          go_ret2
          exact ⟨_, ret2 rfl (vb HO.out.2.symm), by rw [HO.out.1]; exact OI.nil _ _, hb _⟩
      · have h3 : inB cn 0 64 = false := by simpa using h3
        have hO : sxO (m : Int) zs bs st cn = none := by rw [sxO, if_neg]; rw [HO0.out, h3]; simp
        have HO := Lib.hid (sx_none hO)
        clear hO
        go_enter Try.func17, Try.ntmps17
        go_wp2_with (first | (go_at_call 31; refine (l05Shares_any (m : Int) _ zs w.heap.size _ g (by simp [go_sem]) (by simp [go_sem])).mono ?_; rw [hs]; rintro e w1 ⟨rfl, rfl⟩) | (go_at_call 28; refine (l00In_any _ _ _ _).mono ?_; rw [h3]; rintro e w' ⟨rfl, rfl⟩))
        go_ret2
        exact ⟨_, ret2 rfl (vb HO.out.2.symm), by rw [HO.out.1]; exact OI.nil _ _, hb _⟩
    · have hlf : decide ((1024 : Int) < (bs.length : Int)) = true := decide_eq_true (by omega)
      clear hlz
      have hO : sxO (m : Int) zs bs st cn = none := by rw [sxO, if_neg]; rw [HO0.out]; simp [hl]
      have HO := Lib.hid (sx_none hO)
      clear hO
      go_enter Try.func17, Try.ntmps17
      go_wp2_with (go_at_call 31; refine (l05Shares_any (m : Int) _ zs w.heap.size _ g (by simp [go_sem]) (by simp [go_sem])).mono ?_; rw [hs]; rintro e w1 ⟨rfl, rfl⟩)
      go_ret2
      exact ⟨_, ret2 rfl (vb HO.out.2.symm), by rw [HO.out.1]; exact OI.nil _ _, hb _⟩
  · have hs : shs p zs = false := by simpa using hs
    have hO : sxO p zs bs st cn = none := by rw [sxO, if_neg]; simp [sxOk0, hs]
    have HO := Lib.hid (sx_none hO)
    clear hO
    go_enter Try.func17, Try.ntmps17
    go_wp2_with (go_at_call 31; refine (l05Shares_any p _ zs w.heap.size _ g (by simp [go_sem]) (by simp [go_sem])).mono ?_; rw [hs]; rintro e w1 ⟨rfl, rfl⟩)
    go_ret2
    exact ⟨_, ret2 rfl (vb HO.out.2.symm), by rw [HO.out.1]; exact OI.nil _ _, hb _⟩
end Go.Proofs.Ytnhcoggjnbldiaa
