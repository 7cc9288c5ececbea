/- StateText: the way on which the arguments are taken, in the program. No conditions but that the slices read. -/
import Derived.Test.YtnhcoggjnbldiaaStT
import Derived.Deep.RegionHeld3
import Derived.Handy
namespace Go.Proofs.Ytnhcoggjnbldiaa
open Go.RowKit
set_option maxRecDepth 100000
set_option linter.unusedVariables false
set_option linter.unusedSimpArgs false

set_option maxHeartbeats 4000000 in
theorem implStT_ok (p : Int) (v : Value) (zs : List Int) (vb : Value) (bs : List Bool) (st cn : Int) (w : World) (h : RI w v zs) (hbv : Rg Value.bool w vb bs) (hok : sxOk0 p zs bs st cn = true) :
    Calls Try.prog 15 #[.agg #[.int .i64 p, v], vb, .int .i64 st, .int .i64 cn] w fun e w' => ∃ v', e = .returned (.tuple #[v', .bool (sxOk p zs bs st cn)]) ∧ OI w.heap.size w' v' (sxZ p zs bs st cn) ∧ Below w.heap.size w w' := by
  have hlen := h.len
  have hlb := hbv.len
  obtain ⟨ao, cap, rfl⟩ := h.shape
  obtain ⟨aob, capb, rfl⟩ := hbv.shape
  have hb : ∀ o, Below w.heap.size w (w.alloc o) := fun o => by go_grown
  have G := Lib.hid h
  have GB := Lib.hid hbv
  have hok' := hok
  rw [sxOk0] at hok'
  simp only [Bool.and_eq_true, decide_eq_true_eq] at hok'
  obtain ⟨hs, hl, h3, h4⟩ := hok'
  obtain ⟨m, hpm, hm1, hm8, hl2, hl16, hz, hsum⟩ := shs_parts hs
  have hsz0 := fun v w => size_any p v w (by omega) (by omega)
  have hN256 : 2 ^ m ≤ 256 := Nat.le_trans (Nat.pow_le_pow_right (by decide) hm8) (by decide)
  have hN1 : 0 < 2 ^ m := Nat.two_pow_pos m
  have hLi : (2 : Int) ^ m = ((2 ^ m : Nat) : Int) := by simp
  have hpt : p.toNat = m := by omega
  have Hspr := Lib.hid (spr_len m zs)
  have HLt := Lib.hid (spr_lt m zs (by omega))
  have Hz := Lib.hid (show ∀ z ∈ zs, 1 ≤ z ∧ z ≤ (2 ^ m : Nat) by
    intro z hzm
    have h1 := (sum_ge (zs := zs) fun z hz' => by have := hz z hz'; omega).2 z hzm
    rw [hsum, hLi] at h1
    exact ⟨(hz z hzm).1, h1⟩)
  have hO0 : sxOk0 p zs bs st cn = (decide (bs.length ≤ 1024) && (inB cn 0 64 && inB st (2 ^ m : Nat) (2 * (2 ^ m : Nat) - 1))) := by rw [sxOk0, hs, hpt]; rfl
  have hO1 : sxO p zs bs st cn = if sxOk0 p zs bs st cn = true then stF (2 ^ m) (spr m zs) zs bs cn.toNat st.toNat bs.length [] else none := by rw [sxO, hpt]
  rw [hpt] at h4
  have hsprw := fun v w h => spread_any p v zs w hs h
  simp only [hpt, hLi] at hsz0 hsprw
  generalize spr m zs = tb at *
  generalize 2 ^ m = N at *
  have hsz : ∀ v w, Calls Try.prog 22 #[.agg #[.int .i64 p, v]] w fun e w' => e = .returned (.int .i64 (N : Int)) ∧ Below w.heap.size w w' := hsz0
  have HO0 := Lib.hid hO0
  have hNi : (N : Int) ≤ 256 := by omega
  have hN0 : (0 : Int) ≤ (N : Int) := by omega
  have hwr : IntKind.i64.wrap (IntKind.i64.wrap (2 * (N : Int)) - 1) = 2 * (N : Int) - 1 := by rw [IntKind.wrap_i64, IntKind.wrap_i64]; omega
  have hN2i : (2 : Int) * (N : Int) ≤ 512 := by omega
  have hN2j : (0 : Int) ≤ (2 : Int) * (N : Int) - 1 := by omega
  have HO1 := Lib.hid hO1
  clear hO0 hO1 hsz0 hz hsum hLi hpm hpt
  have hlf : decide ((1024 : Int) < (bs.length : Int)) = false := decide_eq_false (by omega)
  have h3' := inB_eq h3
  have h4' := inB_eq h4
  simp only [if_true] at h3' h4'
  obtain ⟨c, rfl⟩ := Int.eq_ofNat_of_zero_le h3'.1
  obtain ⟨s0, rfl⟩ := Int.eq_ofNat_of_zero_le (show 0 ≤ st by omega)
  obtain ⟨R, hR⟩ : ∃ R, sxO p zs bs (s0 : Int) (c : Int) = R := ⟨_, rfl⟩
  have HR := Lib.hid hR
  have HF := Lib.hid (show stF N tb zs bs c s0 bs.length [] = R by rw [← hR, HO1.out, if_pos hok, Int.toNat_natCast, Int.toNat_natCast])
  clear hR hok
  have hc64 : c ≤ 64 := by omega
  have hs0a : N ≤ s0 := by omega
  have hs0b : s0 < 2 * N := by omega
  obtain ⟨b0, o0, e0, -, hZc⟩ := h.2.cells (by omega)
  obtain rfl := e0
  have HZc := Lib.hid hZc
  clear hZc
  go_enter Try.func15, Try.ntmps15
  go_wp2_with fail
  go_region_held3 (fun W' => W'.cell? ⟨w.heap.size, 0, none⟩ = some (.int .i64 p) ∧ W'.cell? ⟨w.heap.size, 1, none⟩ = some (.slice (some ⟨b0, o0, none⟩) zs.length cap) ∧ Below w.heap.size w W')
    ((go_split_ands; refine ⟨?_, ?_, ?_⟩ <;> first | assumption | (simp [go_sem]; done) | exact cnext (by assumption) (by assumption) | exact bnext (by assumption) (by assumption) | exact bnext (Below.drew (by assumption)) (by assumption) | exact Below.drew (hb _)))
    (first
      | (go_at_call 11; with_reducible refine Calls.mono (implShares_any _ _ zs _ ?_) ?_; (exact h.below (by go_split_ands; first | assumption | exact Below.drew (hb _))); rintro e w2 ⟨rfl, b2⟩; rw [hs])
      | (go_at_call 22; with_reducible refine Calls.mono (hsz _ _) ?_; rintro e w2 ⟨rfl, b2⟩)
      | (go_at_call 21; with_reducible refine Calls.mono (within_any _ _ _ _) ?_; rintro e w' ⟨rfl, rfl⟩; first | rw [h3] | rw [h4] | rw [hwr, h4]))
  go_split_ands
  rename_i kc0 kc1 hB1
  go_wp2_with fail
  refine (hsprw _ _ (G.out.below hB1)).mono ?_
  rintro e w2 ⟨v2, rfl, ho, hb2⟩
  have hshape : ∃ b2 off2 cap2, v2 = .slice (some ⟨b2, off2, none⟩) N cap2 ∧ N ≤ cap2 ∧ ∀ i (hi : i < tb.length), w2.cell? ⟨b2, off2 + i, none⟩ = some (.int .i64 tb[i]) := by
    obtain ⟨ao2, cap2, rfl⟩ := ho.shape
    obtain ⟨b2, off2, e, -, hc2⟩ := ho.ri.2.cells (by have := Hspr.out; omega)
    obtain ⟨_, _, _, e', hcp, _⟩ := ho.ri
    simp only [Value.slice.injEq] at e'
    obtain ⟨-, -, rfl⟩ := e'
    rw [Hspr.out] at hcp
    exact ⟨b2, off2, cap2, by rw [e, Hspr.out], hcp, hc2⟩
  obtain ⟨b2, off2, cap2, rfl, hcap2, hTc⟩ := hshape
  have hB2 := bnext hB1 hb2
  have kc0 := cnext hb2 kc0
  have kc1 := cnext hb2 kc1
  have HTc := Lib.hid hTc
  clear hTc ho hb2 hB1
  go_wp2_with fail
  go_loopw [2, 11, 12, 47] (fun sv ov lv iv wr => ∃ (i s l : Nat) (out : List Int), iv = .int .i64 i ∧ i ≤ c ∧ sv = .int .i64 s ∧ N ≤ s ∧ s < 2 * N ∧ lv = .int .i64 l ∧ l ≤ bs.length ∧ out.length = i ∧ Small 16 out ∧ OwnI w2.heap.size wr ov out ∧ stF N tb zs bs (c - i) s l out = R ∧ Below w2.heap.size w2 wr) (fun _ _ _ iv _ => c - (intOf iv).toNat)
  case atStart => exact ⟨0, s0, bs.length, [], rfl, Nat.zero_le _, rfl, hs0a, hs0b, rfl, Nat.le_refl _, rfl, (fun z hz => by cases hz), own_empty w2 _ (Nat.le_refl _), by rw [Nat.sub_zero]; exact HF.out, by go_grown⟩
  case round =>
    obtain ⟨i, s, l, out, rfl, hi, rfl, hsN, hs2, rfl, hll, hol, hsm, hown, hq, hBw⟩ := hrel
    obtain ⟨ao3, cap3, rfl⟩ := hown.shape
    have Hq := Lib.hid hq
    have Hol := Lib.hid hol
    have Hsm := Lib.hid hsm
    have kw0 := cnext hBw kc0
    have kw1 := cnext hBw kc1
    clear hq hol hsm hs0a hs0b
    by_cases hic : i < c
    · obtain ⟨q, hsq⟩ : ∃ q, s = N + q := ⟨s - N, by omega⟩
      have hpl : (s : Int) - (N : Int) = (q : Int) := by omega
      have hqN : q < N := by omega
      obtain ⟨L, hL, hLl⟩ := HLt.out q (by have := Hspr.out; omega)
      have hTq := HTc.out q (by have := Hspr.out; omega)
      rw [hL] at hTq
      have hZL := cnext hB2 (HZc.out L hLl)
      have hz := Hz.out zs[L] (List.getElem_mem hLl)
      obtain ⟨sh, hsh⟩ : ∃ sh : Nat, zs[L] = sh := ⟨zs[L].toNat, by omega⟩
      rw [hsh] at hZL hz
      have HQ := Lib.hid (show (refF N bs l (sh + cnt tb (L : Int) q)).bind (fun x => stF N tb zs bs (c - (i + 1)) x.1 x.2 (out ++ [(L : Int)])) = R by
        rw [← Hq.out, show c - i = (c - (i + 1)) + 1 by omega, hsq, stF_step N tb zs bs _ q l L sh out (by have := Hspr.out; omega) hL hLl hsh])
      have hTw := cnext hBw hTq
      have hZw := cnext hBw hZL
      have HTq := Lib.hid hTq
      clear hL hsh hsq hTq hZL
      go_wp2_with fail
      refine (hsz _ _).mono ?_
      rintro e w4 ⟨rfl, hb4⟩
      have kw0 := cnext hb4 kw0
      have kw1 := cnext hb4 kw1
      have hTw := cnext hb4 hTw
      have hZw := cnext hb4 hZw
      have hBw := bnext hBw hb4
      have hown := own_below hb4 hown
      clear hb4
      go_wp2_with fail
      go_loop [2, 66] (fun sv kv => ∃ k n : Nat, kv = .int .i64 k ∧ k ≤ q ∧ sv = .int .i64 n ∧ n = sh + cnt tb (L : Int) k) (fun _ kv => q - (intOf kv).toNat)
      case atStart => exact ⟨0, sh, rfl, Nat.zero_le _, rfl, by rw [cnt_zero]; rfl⟩
      case round =>
        obtain ⟨k, n, rfl, hk, rfl, hn⟩ := hrel
        have hcl := cnt_le tb (L : Int) k
        have hn512 : n ≤ sh + k := by omega
        have Hn := Lib.hid hn
        clear hn hcl
        by_cases hkq : k < q
        · have hkt : k < tb.length := by have := Hspr.out; omega
          have hTk := cnext hBw (HTc.out k hkt)
          by_cases hy : tb[k] = (L : Int)
          · rw [hy] at hTk
            have Hy := Lib.hid hy
            clear hy
            go_wp2
            go_round
            case rel => exact ⟨k + 1, n + 1, by go_num, by omega, by go_num, by rw [cnt_yes _ _ _ hkt Hy.out, Hn.out]; rfl⟩
            case measure => simp [intOf] <;> omega
          · have hzf : (tb[k] == (L : Int)) = false := by simpa using hy
            have Hy := Lib.hid (cnt_no _ _ _ hkt hy)
            clear hy
            generalize tb[k] = z at *
            go_wp2
            go_round
            case rel => exact ⟨k + 1, n, by go_num, by omega, rfl, by rw [Hy.out, Hn.out]⟩
            case measure => simp [intOf] <;> omega
        · have hkq2 : k = q := by omega
          subst hkq2
          have HQ2 := Lib.hid (show (refF N bs l n).bind (fun x => stF N tb zs bs (c - (i + 1)) x.1 x.2 (out ++ [(L : Int)])) = R by rw [Hn.out]; exact HQ.out)
          go_wp2_with fail
          go_loopw [2, 12] (fun sv lv wr => ∃ l' n' : Nat, sv = .int .i64 n' ∧ lv = .int .i64 l' ∧ l' ≤ l ∧ n' < 2 * N ∧ refF N bs l' n' = refF N bs l n ∧ OwnI w2.heap.size wr (.slice ao3 out.length cap3) out ∧ Below w2.heap.size w2 wr) (fun _ lv _ => (intOf lv).toNat)
          case atStart => exact ⟨l, n, rfl, rfl, Nat.le_refl _, by omega, rfl, hown, hBw⟩
          case round =>
            clear hown hBw kw0 kw1 hTw hZw
            obtain ⟨l', n', rfl, rfl, hl', hn', hr, hown, hBw⟩ := hrel
            have Hr := Lib.hid hr
            have kw0 := cnext hBw kc0
            have kw1 := cnext hBw kc1
            clear hr
            by_cases hnN : n' < N
            · by_cases hl0 : l' = 0
              · have hnone : R = none := by
                  rw [← HQ2.out, ← Hr.out, hl0, refF_zero _ _ _ hnN]; rfl
                have HO := Lib.hid (sx_none (HR.out.trans hnone))
                subst hl0
                clear hnone
                go_wp2_with fail
                refine (hsz _ _).mono ?_
                rintro e w5 ⟨rfl, hb5⟩
                have hB5 := bnext hB2 (bnext hBw hb5)
                go_wp2
                go_ret2
                exact ⟨_, ret2 rfl (vb HO.out.2.symm), by rw [HO.out.1]; exact OI.nil _ _, hB5⟩
              · obtain ⟨l2, hl2'⟩ : ∃ l2, l' = l2 + 1 := ⟨l' - 1, by omega⟩
                have hlz : ((l' : Int) == 0) = false := by simpa using hl0
                have hl1 : (l' : Int) - 1 = (l2 : Int) := by omega
                have Hr2 := Lib.hid (show refF N bs l2 (2 * n' + bF bs l2) = refF N bs l n by rw [← Hr.out, hl2', refF_in _ _ _ _ hnN])
                have hl2b : l2 < bs.length := by omega
                have hl2l : l2 < l' := by omega
                have hbf := bF_le bs l2
                clear hl2' hl0
                go_wp2_with fail
                refine (hsz _ _).mono ?_
                rintro e w5 ⟨rfl, hb5⟩
                have hB5 := bnext hBw hb5
                have kw0 := cnext hb5 kw0
                have kw1 := cnext hb5 kw1
                have hown := own_below hb5 hown
                clear hb5
                go_wp2_with (go_at_call 43; refine (bitAt_any _ bs l2 _ (GB.out.below (bnext hB2 hB5)) hl2b).mono ?_; rintro e w' ⟨rfl, rfl⟩)
                go_roundw
                case rel => exact ⟨l2, 2 * n' + bF bs l2, by go_num, rfl, by omega, by omega, Hr2.out, hown, hB5⟩
                case measure => simp [intOf] <;> omega
            · have hr2 : refF N bs l n = some (n', l') := by rw [← Hr.out, refF_out _ _ _ _ hnN]
              have HQ3 := Lib.hid (show stF N tb zs bs (c - (i + 1)) n' l' (out ++ [(L : Int)]) = R by rw [← HQ2.out, hr2]; rfl)
              clear hr2
              go_wp2_with fail
              refine (hsz _ _).mono ?_
              rintro e w5 ⟨rfl, hb5⟩
              have hB5 := bnext hBw hb5
              have hs5 : w2.heap.size ≤ w5.heap.size := hB5.size
              have hown := own_below hb5 hown
              clear hb5
              go_wp2_with (at_builtin; go_must (refine app_ints rfl _ _ rfl w2.heap.size w2.heap.size (Nat.le_refl _) (.slice ao3 out.length cap3) out rfl hown hB5 _ _ [(L : Int)] rfl rfl (by rw [Hol.out]; simp; omega) hs5 ?_))
              intro v6 w6 hown6 hB6 _
              go_wp2
              go_roundw
              case rel => exact ⟨i + 1, n', l', _, by go_num, by omega, rfl, by omega, hn', rfl, by omega, by rw [List.length_append, Hol.out]; rfl, (fun z hz => by
                rcases List.mem_append.1 hz with hz | hz
                · exact Hsm.out z hz
                · simp at hz; omega), hown6, HQ3.out, hB6⟩
              case measure => simp [intOf] <;> omega
    · have hci : c - i = 0 := by omega
      have hfin : (if l = 0 ∧ s = N then some out else none) = R := by rw [← Hq.out, hci]; rfl
      have Hfin := Lib.hid hfin
      clear hci hfin
      by_cases hl0 : l = 0
      · subst hl0
        by_cases hsn : s = N
        · have hO := sx_some (HR.out.trans (show R = some out by rw [← Hfin.out, if_pos ⟨rfl, hsn⟩]))
          have HO := Lib.hid hO
          have hne : ((s : Int) != (N : Int)) = false := by simp; omega
          have ho := OI.mono hB2.size (OwnI.oi hown (small_i64 Hsm.out (by decide)))
          have Ho := Lib.hid ho
          clear hO hsn ho
          go_wp2_with fail
          refine (hsz _ _).mono ?_
          rintro e w5 ⟨rfl, hb5⟩
          have Ho5 := Lib.hid (OI.below hb5 Ho.out)
          have hB5 := bnext hB2 (bnext hBw hb5)
          go_wp2
          go_ret2
          exact ⟨_, ret2 rfl (vb HO.out.2.symm), by rw [HO.out.1]; exact Ho5.out, hB5⟩
        · have hO := sx_none (HR.out.trans (show R = none by rw [← Hfin.out, if_neg (fun h => hsn h.2)]))
          have HO := Lib.hid hO
          have hne : ((s : Int) != (N : Int)) = true := by simp; omega
          clear hO hsn
          go_wp2_with fail
          refine (hsz _ _).mono ?_
          rintro e w5 ⟨rfl, hb5⟩
          have hB5 := bnext hB2 (bnext hBw hb5)
          go_wp2
          go_ret2
          exact ⟨_, ret2 rfl (vb HO.out.2.symm), by rw [HO.out.1]; exact OI.nil _ _, hB5⟩
      · have hO := sx_none (HR.out.trans (show R = none by rw [← Hfin.out, if_neg (fun h => hl0 h.1)]))
        have HO := Lib.hid hO
        have hlp : decide ((0 : Int) < (l : Int)) = true := decide_eq_true (by omega)
        have hl1 : 0 < l := by omega
        have hB5 := bnext hB2 hBw
        clear hO hl0
        go_wp2
        go_ret2
        exact ⟨_, ret2 rfl (vb HO.out.2.symm), by rw [HO.out.1]; exact OI.nil _ _, hB5⟩
end Go.Proofs.Ytnhcoggjnbldiaa
