/- ShareSecret: what both packages return. No conditions but that the slices read. -/
import Derived.Test.YtgkciionmhoofaaVoS
namespace Go.Proofs.Ytgkciionmhoofaa
open Go.RowKit
set_option maxRecDepth 100000
set_option linter.unusedVariables false
set_option linter.unusedSimpArgs false

theorem own_one (w : World) (x : Int) (B : Nat) (hB : B ≤ w.heap.size) (T : TypeId) : OwnI B (w.alloc (.cells #[.int .i64 x] 2)) (.slice (some ⟨w.heap.size, 0, none⟩) 1 1) [x] :=
  ⟨by simp, .inr ⟨w.heap.size, 1, #[.int .i64 x], rfl, hB, heap_alloc_new w _, Nat.le_refl _, by unfold maxLen; omega, rfl, rfl⟩⟩
set_option maxHeartbeats 2000000 in
theorem implSs_any (p s : Int) (v : Value) (zs : List Int) (n : Int) (w : World) (h : RI w v zs) (_hs : I64 s) (_hl : zs.length ≤ 1048576) :
    Calls Try.prog 8 #[.int .i64 p, .int .i64 s, v, .int .i64 n] w fun e w' => ∃ v', e = .returned (.tuple #[v', .bool (ssOk p s zs n)]) ∧ OI w.heap.size w' v' (ssZ p s zs n) ∧ Below w.heap.size w w' := by
  obtain ⟨ao, cap, rfl⟩ := h.shape
  have G := Lib.hid h
  by_cases hn : nums p zs 0 7 = true
  · obtain ⟨hpr, hp1, hp2, -, hl7, hz⟩ := nums_parts hn
    by_cases hs : inB s 0 (p - 1) = true
    · have hsb : 0 ≤ s ∧ s < p := by have : 0 ≤ s ∧ s ≤ p - 1 := by simpa [inB] using hs
                                     omega
      by_cases hc : inB n 1 8 && decide (n < p)
      · have HOK := Lib.hid (show ssOk p s zs n = true by rw [ssOk, hn, hs, Bool.true_and, Bool.true_and]; exact hc)
        have Hi := Lib.hid (inB_min2 hp1 hc)
        have hnb : 1 ≤ n ∧ n ≤ 8 ∧ n < p := by simpa [inB, and_assoc] using hc
        obtain ⟨m, rfl⟩ := Int.eq_ofNat_of_zero_le (show 0 ≤ n by omega)
        have HZ := Lib.hid (show ssZ p s zs m = vals p (s :: zs) 1 m by rw [ssZ, if_pos HOK.out]; rfl)
        have Hz := Lib.hid (show ∀ z ∈ s :: zs, 0 ≤ z ∧ z < p from fun z hz' => (List.mem_cons.1 hz').elim (fun e => by rw [e]; exact hsb) (hz z))
        have Hi64 := Lib.hid (show AllI64 (s :: zs) from fun z hz' => by have := Hz.out z hz'; constructor <;> omega)
        have hm8 : m ≤ 8 := by omega
        clear hc hnb hz
        go_enter Try.func8, Try.ntmps8
        go_wp2_with fail
        refine (areNumbers_any p _ zs _ _ _ G.out).mono ?_
        rw [hn]
        rintro e w1 ⟨rfl, hb1⟩
        go_wp2_with fail
        refine (within_any _ _ _ _).mono ?_
        rw [hs]
        rintro e w2 ⟨rfl, rfl⟩
        go_wp2_with fail
        all_goals
          refine (within_any _ _ _ _).mono ?_
          first | rw [Hi.out.1 (by omega)] | rw [Hi.out.2 (by omega)]
          rintro e w2 ⟨rfl, rfl⟩
          have g1 := (G.out.below hb1).2.below ((Below.refl w1.heap.size w1).alloc (Nat.le_refl _) (.cells #[.int .i64 s] 2))
          have hbs := hb1.size
          go_wp2_with (at_builtin; go_must (refine app_ri rfl _ _ rfl w1.heap.size w1.heap.size (Nat.le_refl _) (.slice (some ⟨w1.heap.size, 0, none⟩) 1 1) [s] rfl (own_one w1 s _ (Nat.le_refl _) 0) (w0 := w1) (by go_grown) (.slice ao zs.length cap) zs rfl g1 (by simp; omega) (by simp) ?_))
          intro vt wt hownt hBt hgt
          have gt : RI wt vt (s :: zs) := (hownt.oi Hi64.out).ri
          obtain ⟨aot, capt, rfl⟩ := hownt.shape
          rw [List.length_cons] at gt ⊢
          have hst := hBt.size
          clear hownt hgt g1
          go_wp2_with fail
          go_loopw [11, 38] (fun o iv wr => ∃ i : Nat, iv = .int .i64 i ∧ i ≤ m ∧ OwnI wt.heap.size wr o (vals p (s :: zs) 1 i) ∧ Below wt.heap.size wt wr) (fun _ iv _ => m - (intOf iv).toNat)
          case atStart => exact ⟨0, rfl, Nat.zero_le _, own_empty wt _ (Nat.le_refl _), by go_grown⟩
          case round =>
            obtain ⟨i, rfl, hi, hown, hB⟩ := hrel
            obtain ⟨ao1, cap1, rfl⟩ := hown.shape
            have hs1 := hB.size
            have Hl := Lib.hid (vals_len p (s :: zs) 1 i)
            by_cases him : i < m
            · have Hsn := Lib.hid (vals_snoc p (s :: zs) 1 i)
              have e0 : ((1 + i : Nat) : Int) = (i : Int) + 1 := by omega
              go_wp2_with fail
              refine (valueAt_any p ((i : Int) + 1) hp1 hp2 (by omega) (by omega) _ (s :: zs) Hz.out _ (gt.below hB)).mono ?_
              rintro e w3 ⟨rfl, hb3⟩
              have hB3 := bnext hB hb3
              have hown3 := own_below hb3 hown
              have hs3 := hB3.size
              go_wp2_with (at_builtin; go_must (refine app_ints rfl _ _ rfl wt.heap.size wt.heap.size (Nat.le_refl _) (.slice ao1 (vals p (s :: zs) 1 i).length cap1) (vals p (s :: zs) 1 i) rfl hown3 hB3 _ _ [valF p ((i : Int) + 1) (s :: zs)] rfl rfl (by rw [Hl.out]; simp; omega) hs3 ?_))
              intro v' w' hown' hB' hg'
              have hsn := Hsn.out
              rw [e0] at hsn
              rw [hsn] at hown'
              obtain ⟨ao2, cap2, rfl⟩ := hown'.shape
              clear hg' hown hB hown3 hB3 hsn e0 hb3
              go_wp2
              go_roundw
              case rel => exact ⟨i + 1, by go_num, by omega, hown', hB'⟩
              case measure => simp [intOf] <;> omega
            · obtain rfl : i = m := by omega
              have ho := Lib.hid (oi_cut hown (vals_i64 (by omega) hp2 (s :: zs) 1 i) (show w.heap.size ≤ wt.heap.size by omega))
              have hB2 := bnext hb1 (bnext hBt hB)
              clear hown
              go_wp2
              go_ret2
              exact ⟨_, ret2 rfl (vb HOK.out.symm), by rw [HZ.out]; exact ho.out, hB2⟩
      · have hc : (inB n 1 8 && decide (n < p)) = false := by simpa using hc
        have HOK := Lib.hid (show ssOk p s zs n = false by rw [ssOk, hn, hs, Bool.true_and, Bool.true_and]; exact hc)
        have HZ := Lib.hid (show ssZ p s zs n = [] by rw [ssZ, HOK.out]; rfl)
        have Hi := Lib.hid (inB_min2 hp1 hc)
        clear hc hz
        go_enter Try.func8, Try.ntmps8
        go_wp2_with fail
        refine (areNumbers_any p _ zs _ _ _ G.out).mono ?_
        rw [hn]
        rintro e w1 ⟨rfl, hb1⟩
        go_wp2_with fail
        refine (within_any _ _ _ _).mono ?_
        rw [hs]
        rintro e w2 ⟨rfl, rfl⟩
        go_wp2_with fail
        all_goals
          refine (within_any _ _ _ _).mono ?_
          first | rw [Hi.out.1 (by omega)] | rw [Hi.out.2 (by omega)]
          rintro e w2 ⟨rfl, rfl⟩
          go_wp2
          go_ret2
          exact ⟨_, ret2 rfl (vb HOK.out.symm), by rw [HZ.out]; exact OI.nil _ _, hb1⟩
    · have hs : inB s 0 (p - 1) = false := by simpa using hs
      have HOK := Lib.hid (show ssOk p s zs n = false by simp [ssOk, hs])
      have HZ := Lib.hid (show ssZ p s zs n = [] by rw [ssZ, HOK.out]; rfl)
      clear hz
      go_enter Try.func8, Try.ntmps8
      go_wp2_with fail
      refine (areNumbers_any p _ zs _ _ _ G.out).mono ?_
      rw [hn]
      rintro e w1 ⟨rfl, hb1⟩
      go_wp2_with fail
      refine (within_any _ _ _ _).mono ?_
      rw [hs]
      rintro e w2 ⟨rfl, rfl⟩
      go_wp2
      go_ret2
      exact ⟨_, ret2 rfl (vb HOK.out.symm), by rw [HZ.out]; exact OI.nil _ _, hb1⟩
  · have hn : nums p zs 0 7 = false := by simpa using hn
    have HOK := Lib.hid (show ssOk p s zs n = false by simp [ssOk, hn])
    have HZ := Lib.hid (show ssZ p s zs n = [] by rw [ssZ, HOK.out]; rfl)
    go_enter Try.func8, Try.ntmps8
    go_wp2_with fail
    refine (areNumbers_any p _ zs _ _ _ G.out).mono ?_
    rw [hn]
    rintro e w1 ⟨rfl, hb1⟩
    go_wp2
    go_ret2
    exact ⟨_, ret2 rfl (vb HOK.out.symm), by rw [HZ.out]; exact OI.nil _ _, hb1⟩
end Go.Proofs.Ytgkciionmhoofaa
