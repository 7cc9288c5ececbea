/- StateBits: the reference. No conditions but that the slices read. -/
import Derived.Test.YtnhcoggjnbldiaaStP
import Derived.Deep.RegionHeld3
import Derived.Handy
namespace Go.Proofs.Ytnhcoggjnbldiaa
open Go.RowKit
set_option maxRecDepth 100000
set_option linter.unusedVariables false
set_option linter.unusedSimpArgs false

theorem drop_rev' {α : Type} (zs : List α) (k : Nat) (hk : k < zs.length) : (zs.drop (k + 1)).reverse ++ [zs[k]] = (zs.drop k).reverse := by
  rw [List.drop_eq_getElem_cons hk, List.reverse_cons]
theorem ret3' {a b c d e f : Value} (h : a = b) (h' : c = d) (h'' : e = f) : Ending.returned (.tuple #[a, c, e]) = .returned (.tuple #[b, d, f]) := by rw [h, h', h'']
theorem OgB.nil (B : Nat) (w : World) : Og Value.bool B w (.slice none 0 0) [] :=
  ⟨none, 0, rfl, by simp, by unfold maxLen; omega, (fun a ha => by cases ha), fun i hi => by simp at hi⟩
set_option maxHeartbeats 4000000 in
theorem specSb_any (p : Int) (v : Value) (zs : List Int) (vt : Value) (ts : List Int) (w : World) (h : RI w v zs) (ht : RI w vt ts) :
    Calls Try.prog 14 #[.agg #[.int .i64 p, v], vt] w fun e w' => ∃ v', e = .returned (.tuple #[v', .int .i64 (sbS p zs ts), .bool (sbOk p zs ts)]) ∧ Og Value.bool w.heap.size w' v' (sbZ p zs ts) ∧ Below w.heap.size w w' := by
  have hlen := h.len
  have hlt := ht.len
  obtain ⟨ao, cap, rfl⟩ := h.shape
  obtain ⟨aot, capt, rfl⟩ := ht.shape
  have hb : ∀ o, Below w.heap.size w (w.alloc o) := fun o => by go_grown
  have g := h.below (hb (.cells #[.int .i64 p, .slice ao zs.length cap] 30))
  have gt := ht.below (hb (.cells #[.int .i64 p, .slice ao zs.length cap] 30))
  by_cases hs : shs p zs = true
  · by_cases hx : txt ts (zs.length : Int) = true
    · obtain ⟨m, rfl, hm1, hm8, hl2, hl16, hz, hsum⟩ := shs_parts hs
      have hok : sbOk (m : Int) zs ts = true := by rw [sbOk, hs, hx]; rfl
      have hN256 : 2 ^ m ≤ 256 := Nat.le_trans (Nat.pow_le_pow_right (by decide) hm8) (by decide)
      have hN1 : 0 < 2 ^ m := Nat.two_pow_pos m
      have hLi : (2 : Int) ^ m = ((2 ^ m : Nat) : Int) := by simp
      have Hspr := Lib.hid (spr_len m zs)
      have Hz := Lib.hid (show ∀ z ∈ zs, 1 ≤ z ∧ z ≤ (2 ^ m : Nat) by
        intro z hzm
        have h1 := (sum_ge (zs := zs) fun z hz' => by have := hz z hz'; omega).2 z hzm
        rw [hsum, hLi] at h1
        exact ⟨(hz z hzm).1, h1⟩)
      have hxx := hx
      simp only [txt, Bool.and_eq_true, decide_eq_true_eq] at hxx
      have Hts := Lib.hid ((allIn_iff _ _ _).1 hxx.2)
      have ht64 : ts.length ≤ 64 := hxx.1.2
      obtain ⟨R, hR⟩ : ∃ R, sbR (m : Int) zs ts = R := ⟨_, rfl⟩
      have hR2 : sbF (2 ^ m) (spr m zs) zs ts.reverse = R := by rw [← hR, sbR, if_pos hok, Int.toNat_natCast]
      have HR := Lib.hid hR
      have hsprw := fun v B w h => l05Spread_any (m : Int) v zs B w hs h
      simp only [Int.toNat_natCast] at hsprw
      generalize spr m zs = tb at *
      generalize 2 ^ m = N at *
      have HR2 := Lib.hid hR2
      have HOk := Lib.hid hok
      clear hz hsum hxx hR hR2 hok
      obtain ⟨b0, o0, e0, -, hZc⟩ := h.2.cells (by omega)
      obtain rfl := e0
      have HZc := Lib.hid hZc
      have HT := Lib.hid ht
      clear hZc
      go_enter Try.func14, Try.ntmps14
      go_wp2_with (first | (go_at_call 31; refine (l05Shares_any (m : Int) _ zs w.heap.size _ g (by simp [go_sem]) (by simp [go_sem])).mono ?_; rw [hs]; rintro e w1 ⟨rfl, rfl⟩) | (go_at_call 40; refine (l05Text_any _ ts _ _ gt).mono ?_; rw [hx]; rintro e w' ⟨rfl, rfl⟩))
      refine (hsprw _ w.heap.size _ g (by simp) (by simp [go_sem]) (by simp [go_sem])).mono ?_
      rintro e w2 ⟨v2, rfl, ho, hb2⟩
      have hB1 := hb (.cells #[.int .i64 m, .slice (some ⟨b0, o0, none⟩) zs.length cap] 30)
      have kc1 : (w.alloc (.cells #[.int .i64 m, .slice (some ⟨b0, o0, none⟩) zs.length cap] 30)).cell? ⟨w.heap.size, 1, none⟩ = some (.slice (some ⟨b0, o0, none⟩) zs.length cap) := by simp [go_sem]
      have hB2 := bnext hB1 hb2
      have kc1 := cnext hb2 kc1
      have HRI := Lib.hid ho.ri
      clear ho hb2 hB1 g gt
      go_wp2_with fail
      go_loopw [9, 10, 11] (fun sv bv iv wr => ∃ (k s : Nat) (b : List Bool), iv = .int .i64 ((k : Int) - 1) ∧ k ≤ ts.length ∧ sv = .int .i64 s ∧ N ≤ s ∧ s < 2 * N ∧ b.length ≤ 9 * (ts.length - k) ∧ sbF N tb zs (ts.drop k).reverse = (s, b) ∧ OwnB w2.heap.size wr bv b ∧ Below w2.heap.size w2 wr) (fun _ _ iv _ => (intOf iv + 1).toNat)
      case atStart => exact ⟨ts.length, N, [], rfl, Nat.le_refl _, vi (by first | rfl | omega), Nat.le_refl _, by omega, by simp, by rw [List.drop_length]; rfl, ownB_empty w2 _ (Nat.le_refl _), by go_grown⟩
      case round =>
        obtain ⟨k, s, b, rfl, hk, rfl, hsN, hs2, hbl, hq, hown, hBw⟩ := hrel
        obtain ⟨ao3, cap3, rfl⟩ := hown.shape
        have Hq := Lib.hid hq
        have Hbl := Lib.hid hbl
        clear hq hbl
        cases k with
        | zero =>
          rw [show (((0 : Nat) : Int) - 1) = -1 by omega]
          have hfin : R = (s, b) := by rw [← HR2.out, ← Hq.out, List.drop_zero]
          have Hz' := Lib.hid (show sbZ (m : Int) zs ts = b by rw [sbZ, HR.out, hfin])
          have Hs' := Lib.hid (show sbS (m : Int) zs ts = s by rw [sbS, HR.out, hfin])
          have hb576 : b.length ≤ 576 := by have := Hbl.out; omega
          have hgt : decide ((1024 : Int) < (b.length : Int)) = false := decide_eq_false (by omega)
          have hgt2 : ¬ 1024 < b.length := by omega
          have Ho := Lib.hid (Og.mono hB2.size hown.og)
          have hB5 := bnext hB2 hBw
          clear hfin
          go_wp2
          try (go_quiet (fail); go_wp2)
          go_ret3
          exact ⟨_, ret3' rfl (vi Hs'.out.symm) (vb HOk.out.symm), by rw [Hz'.out]; exact Ho.out, hB5⟩
        | succ k =>
          rw [show (((k + 1 : Nat) : Int) - 1) = (k : Int) by omega]
          have hkt : k < ts.length := by omega
          have hLb := Hts.out ts[k] (List.getElem_mem hkt)
          obtain ⟨L, hL⟩ : ∃ L : Nat, ts[k] = L := ⟨ts[k].toNat, by omega⟩
          have HL := Lib.hid hL
          have hLl : L < zs.length := by omega
          obtain ⟨bt, ot, et, -, hTc⟩ := HT.out.2.cells (by omega)
          obtain rfl := et
          have hTk := cnext hBw (cnext hB2 (hTc k hkt))
          have hZL := cnext hBw (cnext hB2 (HZc.out L hLl))
          have kw1 := cnext hBw kc1
          have hz := Hz.out zs[L] (List.getElem_mem hLl)
          obtain ⟨f, hf⟩ : ∃ f : Nat, zs[L] = f := ⟨zs[L].toNat, by omega⟩
          rw [hL] at hTk
          rw [hf] at hZL hz
          have Hst := Lib.hid (fun (s' : Nat) (b' : List Bool) (hh : hvF f 9 s b = (s', b')) => show sbF N tb zs (ts.drop k).reverse = (N + plF (L : Int) tb 0 (s' - f), b') by
            rw [← drop_rev' ts k hkt, sbF_snoc, Hq.out, hL]; exact sbStep_eq N tb zs s b (L : Int) L f s' b' rfl hLl hf hh)
          have HTc := Lib.hid hTc
          clear hTc hL hf hLb
          go_wp2_with fail
          go_quiet (fail)
          rename_i nq
          have hTk : (wr.drewN nq).cell? _ = _ := cnext (below_drewN wr nq) hTk
          have hBw := bnext hBw (below_drewN wr nq)
          have hown : OwnB w2.heap.size (wr.drewN nq) _ b := own_below (below_drewN wr nq) hown
          generalize wr.drewN nq = wq at *
          go_wp2_with fail
          go_loopw [9, 10] (fun sv bv wr => ∃ (u s' : Nat) (b' : List Bool), sv = .int .i64 s' ∧ f ≤ s' ∧ s' < 2 * N ∧ s' < 2 ^ u ∧ b'.length + u ≤ b.length + 9 ∧ hvF f u s' b' = hvF f 9 s b ∧ OwnB w2.heap.size wr bv b' ∧ Below w2.heap.size w2 wr) (fun sv _ _ => (intOf sv).toNat)
          case atStart => exact ⟨9, s, b, rfl, by omega, hs2, by omega, Nat.le_refl _, rfl, hown, hBw⟩
          case round =>
            clear hown hBw hTk
            obtain ⟨u, s', b', rfl, hfs, hs2', hsu, hbu, hh, hown, hBw⟩ := hrel
            obtain ⟨ao4, cap4, rfl⟩ := hown.shape
            have Hh := Lib.hid hh
            have Hsu := Lib.hid hsu
            have Hbu := Lib.hid hbu
            clear hh hsu hbu
            by_cases hge : 2 * f ≤ s'
            · obtain ⟨bt', hbt⟩ : ∃ bt' : Bool, (s' % 2 == 1) = bt' := ⟨_, rfl⟩
              have hb1 : ((s' : Int) % 2 == 1) = bt' := by rw [← hbt, Bool.eq_iff_iff]; simp; omega
              have hb2 : ((s' : Int).tmod 2 == 1) = bt' := by rw [Int.tmod_eq_emod_of_nonneg (by omega)]; exact hb1
              have hgi : 2 * (f : Int) ≤ (s' : Int) := by omega
              obtain ⟨u, rfl⟩ : ∃ u', u = u' + 1 := by
                cases u with
                | zero => have := Hsu.out; simp at this; omega
                | succ u => exact ⟨u, rfl⟩
              have Hh2 := Lib.hid (show hvF f u (s' / 2) (b' ++ [bt']) = hvF f 9 s b by rw [← Hh.out, hvF_in _ _ _ _ hge, hbt])
              have Hsu2 := Lib.hid (show s' / 2 < 2 ^ u by have := Hsu.out; rw [Nat.pow_succ] at this; omega)
              have hs5 : w2.heap.size ≤ wr.heap.size := hBw.size
              clear hbt
              go_wp2_with (at_builtin; go_must (refine app_bools rfl _ _ rfl w2.heap.size w2.heap.size (Nat.le_refl _) (.slice ao4 b'.length cap4) b' rfl hown hBw _ _ [bt'] rfl rfl (by have := Hbu.out; have := Hbl.out; simp; omega) hs5 ?_))
              intro v6 w6 hown6 hB6 _
              go_wp2
              go_roundw
              case rel => exact ⟨u, s' / 2, _, by first | (go_num; done) | exact vi (by omega), by omega, by omega, Hsu2.out, by have := Hbu.out; rw [List.length_append]; simp; omega, Hh2.out, hown6, hB6⟩
              case measure => simp [intOf] <;> omega
            · have hgi : ¬ 2 * (f : Int) ≤ (s' : Int) := by omega
              have hfin : hvF f 9 s b = (s', b') := by rw [← Hh.out, hvF_out _ _ _ _ hge]
              have Hfin := Lib.hid (Hst.out s' b' hfin)
              obtain ⟨nn, hnn⟩ : ∃ nn, s' - f = nn := ⟨_, rfl⟩
              have hsf : (s' : Int) - (f : Int) = (nn : Int) := by omega
              rw [hnn] at Hfin
              have hpl := plF_lt (L : Int) N hN1 tb 0 nn (by have := Hspr.out; omega)
              have hTk := cnext hBw (cnext hB2 (HTc.out k hkt))
              rw [HL.out] at hTk
              have hri := HRI.out.below hBw
              have htl : tb.length ≤ 256 := by have := Hspr.out; omega
              clear hfin hnn
              go_wp2_with (go_at_call 42; refine (l05Place_any _ tb (L : Int) nn _ hri htl (by omega)).mono ?_; rintro e w' ⟨rfl, rfl⟩)
              go_roundw
              case rel => exact ⟨k, N + plF (L : Int) tb 0 nn, b', rfl, by omega, by go_num, by omega, by omega, by have := Hbu.out; have := Hbl.out; omega, Hfin.out, hown, hBw⟩
              case measure => simp [intOf] <;> omega
    · have hx : txt ts (zs.length : Int) = false := by simpa using hx
      have hbad : sbOk p zs ts = false := by rw [sbOk, hs, hx]; rfl
      have HB := Lib.hid (sb_bad hbad)
      have HOk := Lib.hid hbad
      clear hbad
      go_enter Try.func14, Try.ntmps14
      go_wp2_with (first | (go_at_call 31; refine (l05Shares_any p _ zs w.heap.size _ g (by simp [go_sem]) (by simp [go_sem])).mono ?_; rw [hs]; rintro e w1 ⟨rfl, rfl⟩) | (go_at_call 40; refine (l05Text_any _ ts _ _ gt).mono ?_; rw [hx]; rintro e w' ⟨rfl, rfl⟩))
      go_ret3
      exact ⟨_, ret3' rfl (vi HB.out.2.symm) (vb HOk.out.symm), by rw [HB.out.1]; exact OgB.nil _ _, hb _⟩
  · have hs : shs p zs = false := by simpa using hs
    have hbad : sbOk p zs ts = false := by rw [sbOk, hs]; rfl
    have HB := Lib.hid (sb_bad hbad)
    have HOk := Lib.hid hbad
    clear hbad
    go_enter Try.func14, Try.ntmps14
    go_wp2_with (go_at_call 31; refine (l05Shares_any p _ zs w.heap.size _ g (by simp [go_sem]) (by simp [go_sem])).mono ?_; rw [hs]; rintro e w1 ⟨rfl, rfl⟩)
    go_ret3
    exact ⟨_, ret3' rfl (vi HB.out.2.symm) (vb HOk.out.symm), by rw [HB.out.1]; exact OgB.nil _ _, hb _⟩
end Go.Proofs.Ytnhcoggjnbldiaa
