/- StateText: the ways on which the arguments are refused. No conditions but that the slices read. -/
import Derived.Test.YtnhcoggjnbldiaaStT
import Derived.Deep.RegionHeld3
import Derived.Handy
namespace Go.Proofs.Ytnhcoggjnbldiaa
open Go.RowKit
set_option maxRecDepth 100000
set_option linter.unusedVariables false
set_option linter.unusedSimpArgs false

set_option maxHeartbeats 4000000 in
theorem implStT_bad (p : Int) (v : Value) (zs : List Int) (vb : Value) (bs : List Bool) (st cn : Int) (w : World) (h : RI w v zs) (hbv : Rg Value.bool w vb bs) (hbad : sxOk0 p zs bs st cn = false) :
    Calls Try.prog 15 #[.agg #[.int .i64 p, v], vb, .int .i64 st, .int .i64 cn] w fun e w' => ∃ v', e = .returned (.tuple #[v', .bool (sxOk p zs bs st cn)]) ∧ OI w.heap.size w' v' (sxZ p zs bs st cn) ∧ Below w.heap.size w w' := by
  have hlen := h.len
  have hlb := hbv.len
  obtain ⟨ao, cap, rfl⟩ := h.shape
  obtain ⟨aob, capb, rfl⟩ := hbv.shape
  have hb : ∀ o, Below w.heap.size w (w.alloc o) := fun o => by go_grown
  have G := Lib.hid h
  have GB := Lib.hid hbv
  by_cases hs : shs p zs = true
  · obtain ⟨m, hpm, hm1, hm8, hl2, hl16, hz, hsum⟩ := shs_parts hs
    have hsz0 := fun v w => size_any p v w (by omega) (by omega)
    have hN256 : 2 ^ m ≤ 256 := Nat.le_trans (Nat.pow_le_pow_right (by decide) hm8) (by decide)
    have hN1 : 0 < 2 ^ m := Nat.two_pow_pos m
    have hLi : (2 : Int) ^ m = ((2 ^ m : Nat) : Int) := by simp
    have hpt : p.toNat = m := by omega
    have Hspr := Lib.hid (spr_len m zs)
    have HLt := Lib.hid (spr_lt m zs (by omega))
    have Hz := Lib.hid (show ∀ z ∈ zs, 1 ≤ z ∧ z ≤ (2 ^ m : Nat) by
      intro z hzm
      have h1 := (sum_ge (zs := zs) fun z hz' => by have := hz z hz'; omega).2 z hzm
      rw [hsum, hLi] at h1
      exact ⟨(hz z hzm).1, h1⟩)
    have hO0 : sxOk0 p zs bs st cn = (decide (bs.length ≤ 1024) && (inB cn 0 64 && inB st (2 ^ m : Nat) (2 * (2 ^ m : Nat) - 1))) := by rw [sxOk0, hs, hpt]; rfl
    have hO1 : sxO p zs bs st cn = if sxOk0 p zs bs st cn = true then stF (2 ^ m) (spr m zs) zs bs cn.toNat st.toNat bs.length [] else none := by rw [sxO, hpt]
    have hsprw := fun v w h => spread_any p v zs w hs h
    simp only [hpt, hLi] at hsz0 hsprw
    generalize spr m zs = tb at *
    generalize 2 ^ m = N at *
    have hsz : ∀ v w, Calls Try.prog 22 #[.agg #[.int .i64 p, v]] w fun e w' => e = .returned (.int .i64 (N : Int)) ∧ Below w.heap.size w w' := hsz0
    have HO0 := Lib.hid hO0
    have hNi : (N : Int) ≤ 256 := by omega
    have hN0 : (0 : Int) ≤ (N : Int) := by omega
    have hwr : IntKind.i64.wrap (IntKind.i64.wrap (2 * (N : Int)) - 1) = 2 * (N : Int) - 1 := by rw [IntKind.wrap_i64, IntKind.wrap_i64]; omega
    have hN2i : (2 : Int) * (N : Int) ≤ 512 := by omega
    have hN2j : (0 : Int) ≤ (2 : Int) * (N : Int) - 1 := by omega
    have HO1 := Lib.hid hO1
    clear hO0 hO1 hsz0 hz hsum hLi hpm hpt
    by_cases hl : bs.length ≤ 1024
    · have hlf : decide ((1024 : Int) < (bs.length : Int)) = false := decide_eq_false (by omega)
      by_cases h3 : inB cn 0 64 = true
      · by_cases h4 : inB st (N : Int) (2 * (N : Int) - 1) = true
        · have hok : sxOk0 p zs bs st cn = true := by rw [HO0.out, h3, h4]; simp [hl]
          rw [hok] at hbad; cases hbad
        · have h4 : inB st (N : Int) (2 * (N : Int) - 1) = false := by simpa using h4
          have hO : sxO p zs bs st cn = none := by rw [sxO, if_neg]; rw [HO0.out, h4]; simp
          have HO := Lib.hid (sx_none hO)
          clear hO
          go_enter Try.func15, Try.ntmps15
          go_wp2_with fail
          go_region_held3 (fun W' => W'.cell? ⟨w.heap.size, 0, none⟩ = some (.int .i64 p) ∧ W'.cell? ⟨w.heap.size, 1, none⟩ = some (.slice ao zs.length cap) ∧ Below w.heap.size w W')
            ((go_split_ands; refine ⟨?_, ?_, ?_⟩ <;> first | assumption | (simp [go_sem]; done) | exact cnext (by assumption) (by assumption) | exact bnext (by assumption) (by assumption) | exact bnext (Below.drew (by assumption)) (by assumption) | exact Below.drew (hb _)))
            (first
              | (go_at_call 11; with_reducible refine Calls.mono (implShares_any _ _ zs _ ?_) ?_; (exact h.below (by go_split_ands; first | assumption | exact Below.drew (hb _))); rintro e w2 ⟨rfl, b2⟩; rw [hs])
              | (go_at_call 22; with_reducible refine Calls.mono (hsz _ _) ?_; rintro e w2 ⟨rfl, b2⟩)
              | (go_at_call 21; with_reducible refine Calls.mono (within_any _ _ _ _) ?_; rintro e w' ⟨rfl, rfl⟩; first | rw [h3] | rw [h4] | rw [hwr, h4]))
          go_wp2
          go_ret2
          exact ⟨_, ret2 rfl (vb HO.out.2.symm), by rw [HO.out.1]; exact OI.nil _ _, by go_split_ands; assumption⟩
      · have h3 : inB cn 0 64 = false := by simpa using h3
        have hO : sxO p zs bs st cn = none := by rw [sxO, if_neg]; rw [HO0.out, h3]; simp
        have HO := Lib.hid (sx_none hO)
        clear hO
        go_enter Try.func15, Try.ntmps15
        go_wp2_with fail
        refine wp_region_held_drew (S := fun W' => W'.cell? ⟨w.heap.size, 0, none⟩ = some (.int .i64 p) ∧ W'.cell? ⟨w.heap.size, 1, none⟩ = some (.slice ao zs.length cap) ∧ Below w.heap.size w W') (by kernel_rfl) ?_ (fun hHeld => ?_)
        · go_split_ands; refine ⟨?_, ?_, ?_⟩ <;> first | assumption | (simp [go_sem]; done) | exact cnext (by assumption) (by assumption) | exact bnext (by assumption) (by assumption) | exact bnext (Below.drew (by assumption)) (by assumption) | exact Below.drew (hb _)
        refine wpAnyH_take (i := 0) (v := ?_) rfl (by kernel_rfl) (by kernel_rfl) (by kernel_rfl) (fun _ _ _ h => h) (Or.inl ⟨by rfl, ?_⟩) hHeld ?_
        rotate_left
        · (intro w hSw; (try dsimp only at hSw); go_simp <;> with_reducible rfl)
        (try simp only [Act.put, List.setIfInBounds_toArray, List.set_cons_zero, List.set_cons_succ])
        refine wpAnyH_ready (rs := [1]) (by kernel_rfl) (by simp) ?_
        refine AllReadyH.cons rfl (fun K hK => ?_) AllReadyH.nil
        go_simp
        with_reducible refine Calls.mono (implShares_any _ _ zs _ ?_) ?_
        · exact h.below (by go_split_ands; first | assumption | exact Below.drew (hb _))
        rintro e w2 ⟨rfl, b2⟩
        rw [hs]
        try go_wp2_with fail
        refine hK.out _ _ ?_ (fun hHeld => ?_)
        · go_split_ands; refine ⟨?_, ?_, ?_⟩ <;> first | assumption | (simp [go_sem]; done) | exact cnext (by assumption) (by assumption) | exact bnext (by assumption) (by assumption) | exact bnext (Below.drew (by assumption)) (by assumption) | exact Below.drew (hb _)
        clear hK K
        (try simp only [Act.put, List.setIfInBounds_toArray, List.set_cons_zero, List.set_cons_succ])
        refine wpAnyH_take (i := 2) (v := ?_) rfl (by kernel_rfl) (by kernel_rfl) (by kernel_rfl) (fun _ _ _ h => h) (Or.inl ⟨by rfl, ?_⟩) hHeld ?_
        rotate_left
        · (intro w hSw; (try dsimp only at hSw); go_simp <;> with_reducible rfl)
        (try simp only [Act.put, List.setIfInBounds_toArray, List.set_cons_zero, List.set_cons_succ])
        refine wpAnyH_take (i := 3) (v := ?_) rfl (by kernel_rfl) (by kernel_rfl) (by kernel_rfl) (fun _ _ _ h => h) (Or.inl ⟨by rfl, ?_⟩) hHeld ?_
        rotate_left
        · (intro w hSw; (try dsimp only at hSw); go_simp <;> with_reducible rfl)
        (try simp only [Act.put, List.setIfInBounds_toArray, List.set_cons_zero, List.set_cons_succ])
        refine wpAnyH_take (i := 4) (v := ?_) rfl (by kernel_rfl) (by kernel_rfl) (by kernel_rfl) (fun _ _ _ h => h) (Or.inl ⟨by rfl, ?_⟩) hHeld ?_
        rotate_left
        · (intro w hSw; (try dsimp only at hSw); go_simp <;> with_reducible rfl)
        (try simp only [Act.put, List.setIfInBounds_toArray, List.set_cons_zero, List.set_cons_succ])
        refine wpAnyH_take (i := 5) (v := ?_) rfl (by kernel_rfl) (by kernel_rfl) (by kernel_rfl) (fun _ _ _ h => h) (Or.inl ⟨by rfl, ?_⟩) hHeld ?_
        rotate_left
        · (intro w hSw; (try dsimp only at hSw); go_simp <;> with_reducible rfl)
        (try simp only [Act.put, List.setIfInBounds_toArray, List.set_cons_zero, List.set_cons_succ])
        refine wpAnyH_take (i := 6) (v := ?_) rfl (by kernel_rfl) (by kernel_rfl) (by kernel_rfl) (fun _ _ _ h => h) (Or.inl ⟨by rfl, ?_⟩) hHeld ?_
        rotate_left
        · (intro w hSw; (try dsimp only at hSw); go_simp <;> with_reducible rfl)
        (try simp only [Act.put, List.setIfInBounds_toArray, List.set_cons_zero, List.set_cons_succ])
        refine wpAnyH_take (i := 7) (v := ?_) rfl (by kernel_rfl) (by kernel_rfl) (by kernel_rfl) (fun _ _ _ h => h) (Or.inl ⟨by rfl, ?_⟩) hHeld ?_
        rotate_left
        · (intro w hSw; (try dsimp only at hSw); go_simp <;> with_reducible rfl)
        (try simp only [Act.put, List.setIfInBounds_toArray, List.set_cons_zero, List.set_cons_succ])
        refine wpAnyH_take (i := 8) (v := ?_) rfl (by kernel_rfl) (by kernel_rfl) (by kernel_rfl) (fun _ _ _ h => h) (Or.inl ⟨by rfl, ?_⟩) hHeld ?_
        rotate_left
        · (intro w hSw; (try dsimp only at hSw); go_simp <;> with_reducible rfl)
        (try simp only [Act.put, List.setIfInBounds_toArray, List.set_cons_zero, List.set_cons_succ])
        refine wpAnyH_take (i := 9) (v := ?_) rfl (by kernel_rfl) (by kernel_rfl) (by kernel_rfl) (fun _ _ _ h => h) (Or.inl ⟨by rfl, ?_⟩) hHeld ?_
        rotate_left
        · (intro w hSw; (try dsimp only at hSw); go_simp <;> with_reducible rfl)
        (try simp only [Act.put, List.setIfInBounds_toArray, List.set_cons_zero, List.set_cons_succ])
        refine wpAnyH_ready (rs := [10]) (by kernel_rfl) (by simp) ?_
        refine AllReadyH.cons rfl (fun K hK => ?_) AllReadyH.nil
        go_simp
        with_reducible refine Calls.mono (within_any _ _ _ _) ?_
        rintro e w' ⟨rfl, rfl⟩
        rw [h3]
        try go_wp2_with fail
        refine hK.out _ _ ?_ (fun hHeld => ?_)
        · go_split_ands; refine ⟨?_, ?_, ?_⟩ <;> first | assumption | (simp [go_sem]; done) | exact cnext (by assumption) (by assumption) | exact bnext (by assumption) (by assumption) | exact bnext (Below.drew (by assumption)) (by assumption) | exact Below.drew (hb _)
        clear hK K
        (try simp only [Act.put, List.setIfInBounds_toArray, List.set_cons_zero, List.set_cons_succ])
        refine wpAnyH_take (i := 11) (v := ?_) rfl (by kernel_rfl) (by kernel_rfl) (by kernel_rfl) (fun _ _ _ h => h) (Or.inl ⟨by rfl, ?_⟩) hHeld ?_
        rotate_left
        · (intro w hSw; (try dsimp only at hSw); go_simp <;> with_reducible rfl)
        (try simp only [Act.put, List.setIfInBounds_toArray, List.set_cons_zero, List.set_cons_succ])
        refine wpAnyH_take (i := 12) (v := ?_) rfl (by kernel_rfl) (by kernel_rfl) (by kernel_rfl) (fun _ _ _ h => h) (Or.inl ⟨by rfl, ?_⟩) hHeld ?_
        rotate_left
        · (intro w hSw; (try dsimp only at hSw); go_simp <;> with_reducible rfl)
        (try simp only [Act.put, List.setIfInBounds_toArray, List.set_cons_zero, List.set_cons_succ])
        refine wpAnyH_take (i := 13) (v := ?_) rfl (by kernel_rfl) (by kernel_rfl) (by kernel_rfl) (fun _ _ _ h => h) (Or.inl ⟨by rfl, ?_⟩) hHeld ?_
        rotate_left
        · (intro w hSw; (try dsimp only at hSw); go_simp <;> with_reducible rfl)
        (try simp only [Act.put, List.setIfInBounds_toArray, List.set_cons_zero, List.set_cons_succ])
        refine wpAnyH_take (i := 14) (v := undef) rfl (by kernel_rfl) (by kernel_rfl) (by kernel_rfl) (fun _ _ _ h => h) (Or.inr ⟨by rfl, rfl⟩) hHeld ?_
        (try simp only [Act.put, List.setIfInBounds_toArray, List.set_cons_zero, List.set_cons_succ])
        refine wpAnyH_take (i := 15) (v := undef) rfl (by kernel_rfl) (by kernel_rfl) (by kernel_rfl) (fun _ _ _ h => h) (Or.inr ⟨by rfl, rfl⟩) hHeld ?_
        (try simp only [Act.put, List.setIfInBounds_toArray, List.set_cons_zero, List.set_cons_succ])
        refine wpAnyH_take (i := 17) (v := undef) rfl (by kernel_rfl) (by kernel_rfl) (by kernel_rfl) (fun _ _ _ h => h) (Or.inr ⟨by rfl, rfl⟩) hHeld ?_
        (try simp only [Act.put, List.setIfInBounds_toArray, List.set_cons_zero, List.set_cons_succ])
        refine wpAnyH_ready (rs := [16]) (by kernel_rfl) (by simp) ?_
        refine AllReadyH.cons rfl (fun K hK => ?_) AllReadyH.nil
        go_simp
        refine hK.out _ _ ?_ (fun hHeld => ?_)
        · go_split_ands; refine ⟨?_, ?_, ?_⟩ <;> first | assumption | (simp [go_sem]; done) | exact cnext (by assumption) (by assumption) | exact bnext (by assumption) (by assumption) | exact bnext (Below.drew (by assumption)) (by assumption) | exact Below.drew (hb _)
        clear hK K
        (try simp only [Act.put, List.setIfInBounds_toArray, List.set_cons_zero, List.set_cons_succ])
        refine wpAnyH_ready (rs := [18]) (by kernel_rfl) (by simp) ?_
        refine AllReadyH.cons rfl (fun K hK => ?_) AllReadyH.nil
        go_simp
        refine hK.out _ _ ?_ (fun hHeld => ?_)
        · go_split_ands; refine ⟨?_, ?_, ?_⟩ <;> first | assumption | (simp [go_sem]; done) | exact cnext (by assumption) (by assumption) | exact bnext (by assumption) (by assumption) | exact bnext (Below.drew (by assumption)) (by assumption) | exact Below.drew (hb _)
        clear hK K
        (try simp only [Act.put, List.setIfInBounds_toArray, List.set_cons_zero, List.set_cons_succ])
        refine wpAnyH_take (i := 19) (v := undef) rfl (by kernel_rfl) (by kernel_rfl) (by kernel_rfl) (fun _ _ _ h => h) (Or.inr ⟨by rfl, rfl⟩) hHeld ?_
        (try simp only [Act.put, List.setIfInBounds_toArray, List.set_cons_zero, List.set_cons_succ])
        refine wpAnyH_take (i := 20) (v := undef) rfl (by kernel_rfl) (by kernel_rfl) (by kernel_rfl) (fun _ _ _ h => h) (Or.inr ⟨by rfl, rfl⟩) hHeld ?_
        (try simp only [Act.put, List.setIfInBounds_toArray, List.set_cons_zero, List.set_cons_succ])
        refine wpAnyH_ready (rs := [21]) (by kernel_rfl) (by simp) ?_
        refine AllReadyH.cons rfl (fun K hK => ?_) AllReadyH.nil
        go_simp
        refine hK.out _ _ ?_ (fun hHeld => ?_)
        · go_split_ands; refine ⟨?_, ?_, ?_⟩ <;> first | assumption | (simp [go_sem]; done) | exact cnext (by assumption) (by assumption) | exact bnext (by assumption) (by assumption) | exact bnext (Below.drew (by assumption)) (by assumption) | exact Below.drew (hb _)
        clear hK K
        (try simp only [Act.put, List.setIfInBounds_toArray, List.set_cons_zero, List.set_cons_succ])
        refine wpAnyH_take (i := 22) (v := undef) rfl (by kernel_rfl) (by kernel_rfl) (by kernel_rfl) (fun _ _ _ h => h) (Or.inr ⟨by rfl, rfl⟩) hHeld ?_
        (try simp only [Act.put, List.setIfInBounds_toArray, List.set_cons_zero, List.set_cons_succ])
        refine wpAnyH_take (i := 23) (v := ?_) rfl (by kernel_rfl) (by kernel_rfl) (by kernel_rfl) (fun _ _ _ h => h) (Or.inl ⟨by rfl, ?_⟩) hHeld ?_
        rotate_left
        · (intro w hSw; (try dsimp only at hSw); go_simp <;> with_reducible rfl)
        (try simp only [Act.put, List.setIfInBounds_toArray, List.set_cons_zero, List.set_cons_succ])
        refine wpAnyH_done (by kernel_rfl) ?_ _
        go_wp2
        go_ret2
        exact ⟨_, ret2 rfl (vb HO.out.2.symm), by rw [HO.out.1]; exact OI.nil _ _, by go_split_ands; assumption⟩
    · have hlf : decide ((1024 : Int) < (bs.length : Int)) = true := decide_eq_true (by omega)
      have hO : sxO p zs bs st cn = none := by rw [sxO, if_neg]; rw [HO0.out]; simp [hl]
      have HO := Lib.hid (sx_none hO)
      clear hO
      go_enter Try.func15, Try.ntmps15
      go_wp2_with fail
      refine wp_region_held_drew (S := fun W' => W'.cell? ⟨w.heap.size, 0, none⟩ = some (.int .i64 p) ∧ W'.cell? ⟨w.heap.size, 1, none⟩ = some (.slice ao zs.length cap) ∧ Below w.heap.size w W') (by kernel_rfl) ?_ (fun hHeld => ?_)
      · go_split_ands; refine ⟨?_, ?_, ?_⟩ <;> first | assumption | (simp [go_sem]; done) | exact cnext (by assumption) (by assumption) | exact bnext (by assumption) (by assumption) | exact bnext (Below.drew (by assumption)) (by assumption) | exact Below.drew (hb _)
      refine wpAnyH_take (i := 0) (v := ?_) rfl (by kernel_rfl) (by kernel_rfl) (by kernel_rfl) (fun _ _ _ h => h) (Or.inl ⟨by rfl, ?_⟩) hHeld ?_
      rotate_left
      · (intro w hSw; (try dsimp only at hSw); go_simp <;> with_reducible rfl)
      (try simp only [Act.put, List.setIfInBounds_toArray, List.set_cons_zero, List.set_cons_succ])
      refine wpAnyH_ready (rs := [1]) (by kernel_rfl) (by simp) ?_
      refine AllReadyH.cons rfl (fun K hK => ?_) AllReadyH.nil
      go_simp
      with_reducible refine Calls.mono (implShares_any _ _ zs _ ?_) ?_
      · exact h.below (by go_split_ands; first | assumption | exact Below.drew (hb _))
      rintro e w2 ⟨rfl, b2⟩
      rw [hs]
      try go_wp2_with fail
      refine hK.out _ _ ?_ (fun hHeld => ?_)
      · go_split_ands; refine ⟨?_, ?_, ?_⟩ <;> first | assumption | (simp [go_sem]; done) | exact cnext (by assumption) (by assumption) | exact bnext (by assumption) (by assumption) | exact bnext (Below.drew (by assumption)) (by assumption) | exact Below.drew (hb _)
      clear hK K
      (try simp only [Act.put, List.setIfInBounds_toArray, List.set_cons_zero, List.set_cons_succ])
      refine wpAnyH_take (i := 2) (v := ?_) rfl (by kernel_rfl) (by kernel_rfl) (by kernel_rfl) (fun _ _ _ h => h) (Or.inl ⟨by rfl, ?_⟩) hHeld ?_
      rotate_left
      · (intro w hSw; (try dsimp only at hSw); go_simp <;> with_reducible rfl)
      (try simp only [Act.put, List.setIfInBounds_toArray, List.set_cons_zero, List.set_cons_succ])
      refine wpAnyH_take (i := 3) (v := ?_) rfl (by kernel_rfl) (by kernel_rfl) (by kernel_rfl) (fun _ _ _ h => h) (Or.inl ⟨by rfl, ?_⟩) hHeld ?_
      rotate_left
      · (intro w hSw; (try dsimp only at hSw); go_simp <;> with_reducible rfl)
      (try simp only [Act.put, List.setIfInBounds_toArray, List.set_cons_zero, List.set_cons_succ])
      refine wpAnyH_take (i := 4) (v := ?_) rfl (by kernel_rfl) (by kernel_rfl) (by kernel_rfl) (fun _ _ _ h => h) (Or.inl ⟨by rfl, ?_⟩) hHeld ?_
      rotate_left
      · (intro w hSw; (try dsimp only at hSw); go_simp <;> with_reducible rfl)
      (try simp only [Act.put, List.setIfInBounds_toArray, List.set_cons_zero, List.set_cons_succ])
      refine wpAnyH_take (i := 5) (v := ?_) rfl (by kernel_rfl) (by kernel_rfl) (by kernel_rfl) (fun _ _ _ h => h) (Or.inl ⟨by rfl, ?_⟩) hHeld ?_
      rotate_left
      · (intro w hSw; (try dsimp only at hSw); go_simp <;> with_reducible rfl)
      (try simp only [Act.put, List.setIfInBounds_toArray, List.set_cons_zero, List.set_cons_succ])
      refine wpAnyH_take (i := 6) (v := ?_) rfl (by kernel_rfl) (by kernel_rfl) (by kernel_rfl) (fun _ _ _ h => h) (Or.inl ⟨by rfl, ?_⟩) hHeld ?_
      rotate_left
      · (intro w hSw; (try dsimp only at hSw); go_simp <;> with_reducible rfl)
      (try simp only [Act.put, List.setIfInBounds_toArray, List.set_cons_zero, List.set_cons_succ])
      refine wpAnyH_take (i := 7) (v := ?_) rfl (by kernel_rfl) (by kernel_rfl) (by kernel_rfl) (fun _ _ _ h => h) (Or.inl ⟨by rfl, ?_⟩) hHeld ?_
      rotate_left
      · (intro w hSw; (try dsimp only at hSw); go_simp <;> with_reducible rfl)
      (try simp only [Act.put, List.setIfInBounds_toArray, List.set_cons_zero, List.set_cons_succ])
      refine wpAnyH_take (i := 8) (v := ?_) rfl (by kernel_rfl) (by kernel_rfl) (by kernel_rfl) (fun _ _ _ h => h) (Or.inl ⟨by rfl, ?_⟩) hHeld ?_
      rotate_left
      · (intro w hSw; (try dsimp only at hSw); go_simp <;> with_reducible rfl)
      (try simp only [Act.put, List.setIfInBounds_toArray, List.set_cons_zero, List.set_cons_succ])
      refine wpAnyH_take (i := 9) (v := undef) rfl (by kernel_rfl) (by kernel_rfl) (by kernel_rfl) (fun _ _ _ h => h) (Or.inr ⟨by rfl, rfl⟩) hHeld ?_
      (try simp only [Act.put, List.setIfInBounds_toArray, List.set_cons_zero, List.set_cons_succ])
      refine wpAnyH_ready (rs := [10]) (by kernel_rfl) (by simp) ?_
      refine AllReadyH.cons rfl (fun K hK => ?_) AllReadyH.nil
      go_simp
      refine hK.out _ _ ?_ (fun hHeld => ?_)
      · go_split_ands; refine ⟨?_, ?_, ?_⟩ <;> first | assumption | (simp [go_sem]; done) | exact cnext (by assumption) (by assumption) | exact bnext (by assumption) (by assumption) | exact bnext (Below.drew (by assumption)) (by assumption) | exact Below.drew (hb _)
      clear hK K
      (try simp only [Act.put, List.setIfInBounds_toArray, List.set_cons_zero, List.set_cons_succ])
      refine wpAnyH_take (i := 11) (v := undef) rfl (by kernel_rfl) (by kernel_rfl) (by kernel_rfl) (fun _ _ _ h => h) (Or.inr ⟨by rfl, rfl⟩) hHeld ?_
      (try simp only [Act.put, List.setIfInBounds_toArray, List.set_cons_zero, List.set_cons_succ])
      refine wpAnyH_take (i := 12) (v := ?_) rfl (by kernel_rfl) (by kernel_rfl) (by kernel_rfl) (fun _ _ _ h => h) (Or.inl ⟨by rfl, ?_⟩) hHeld ?_
      rotate_left
      · (intro w hSw; (try dsimp only at hSw); go_simp <;> with_reducible rfl)
      (try simp only [Act.put, List.setIfInBounds_toArray, List.set_cons_zero, List.set_cons_succ])
      refine wpAnyH_take (i := 13) (v := ?_) rfl (by kernel_rfl) (by kernel_rfl) (by kernel_rfl) (fun _ _ _ h => h) (Or.inl ⟨by rfl, ?_⟩) hHeld ?_
      rotate_left
      · (intro w hSw; (try dsimp only at hSw); go_simp <;> with_reducible rfl)
      (try simp only [Act.put, List.setIfInBounds_toArray, List.set_cons_zero, List.set_cons_succ])
      refine wpAnyH_take (i := 14) (v := undef) rfl (by kernel_rfl) (by kernel_rfl) (by kernel_rfl) (fun _ _ _ h => h) (Or.inr ⟨by rfl, rfl⟩) hHeld ?_
      (try simp only [Act.put, List.setIfInBounds_toArray, List.set_cons_zero, List.set_cons_succ])
      refine wpAnyH_take (i := 15) (v := undef) rfl (by kernel_rfl) (by kernel_rfl) (by kernel_rfl) (fun _ _ _ h => h) (Or.inr ⟨by rfl, rfl⟩) hHeld ?_
      (try simp only [Act.put, List.setIfInBounds_toArray, List.set_cons_zero, List.set_cons_succ])
      refine wpAnyH_take (i := 17) (v := undef) rfl (by kernel_rfl) (by kernel_rfl) (by kernel_rfl) (fun _ _ _ h => h) (Or.inr ⟨by rfl, rfl⟩) hHeld ?_
      (try simp only [Act.put, List.setIfInBounds_toArray, List.set_cons_zero, List.set_cons_succ])
      refine wpAnyH_ready (rs := [16]) (by kernel_rfl) (by simp) ?_
      refine AllReadyH.cons rfl (fun K hK => ?_) AllReadyH.nil
      go_simp
      refine hK.out _ _ ?_ (fun hHeld => ?_)
      · go_split_ands; refine ⟨?_, ?_, ?_⟩ <;> first | assumption | (simp [go_sem]; done) | exact cnext (by assumption) (by assumption) | exact bnext (by assumption) (by assumption) | exact bnext (Below.drew (by assumption)) (by assumption) | exact Below.drew (hb _)
      clear hK K
      (try simp only [Act.put, List.setIfInBounds_toArray, List.set_cons_zero, List.set_cons_succ])
      refine wpAnyH_ready (rs := [18]) (by kernel_rfl) (by simp) ?_
      refine AllReadyH.cons rfl (fun K hK => ?_) AllReadyH.nil
      go_simp
      refine hK.out _ _ ?_ (fun hHeld => ?_)
      · go_split_ands; refine ⟨?_, ?_, ?_⟩ <;> first | assumption | (simp [go_sem]; done) | exact cnext (by assumption) (by assumption) | exact bnext (by assumption) (by assumption) | exact bnext (Below.drew (by assumption)) (by assumption) | exact Below.drew (hb _)
      clear hK K
      (try simp only [Act.put, List.setIfInBounds_toArray, List.set_cons_zero, List.set_cons_succ])
      refine wpAnyH_take (i := 19) (v := undef) rfl (by kernel_rfl) (by kernel_rfl) (by kernel_rfl) (fun _ _ _ h => h) (Or.inr ⟨by rfl, rfl⟩) hHeld ?_
      (try simp only [Act.put, List.setIfInBounds_toArray, List.set_cons_zero, List.set_cons_succ])
      refine wpAnyH_take (i := 20) (v := undef) rfl (by kernel_rfl) (by kernel_rfl) (by kernel_rfl) (fun _ _ _ h => h) (Or.inr ⟨by rfl, rfl⟩) hHeld ?_
      (try simp only [Act.put, List.setIfInBounds_toArray, List.set_cons_zero, List.set_cons_succ])
      refine wpAnyH_ready (rs := [21]) (by kernel_rfl) (by simp) ?_
      refine AllReadyH.cons rfl (fun K hK => ?_) AllReadyH.nil
      go_simp
      refine hK.out _ _ ?_ (fun hHeld => ?_)
      · go_split_ands; refine ⟨?_, ?_, ?_⟩ <;> first | assumption | (simp [go_sem]; done) | exact cnext (by assumption) (by assumption) | exact bnext (by assumption) (by assumption) | exact bnext (Below.drew (by assumption)) (by assumption) | exact Below.drew (hb _)
      clear hK K
      (try simp only [Act.put, List.setIfInBounds_toArray, List.set_cons_zero, List.set_cons_succ])
      refine wpAnyH_take (i := 22) (v := undef) rfl (by kernel_rfl) (by kernel_rfl) (by kernel_rfl) (fun _ _ _ h => h) (Or.inr ⟨by rfl, rfl⟩) hHeld ?_
      (try simp only [Act.put, List.setIfInBounds_toArray, List.set_cons_zero, List.set_cons_succ])
      refine wpAnyH_take (i := 23) (v := ?_) rfl (by kernel_rfl) (by kernel_rfl) (by kernel_rfl) (fun _ _ _ h => h) (Or.inl ⟨by rfl, ?_⟩) hHeld ?_
      rotate_left
      · (intro w hSw; (try dsimp only at hSw); go_simp <;> with_reducible rfl)
      (try simp only [Act.put, List.setIfInBounds_toArray, List.set_cons_zero, List.set_cons_succ])
      refine wpAnyH_done (by kernel_rfl) ?_ _
      go_wp2
      go_ret2
      exact ⟨_, ret2 rfl (vb HO.out.2.symm), by rw [HO.out.1]; exact OI.nil _ _, by go_split_ands; assumption⟩
  · have hs : shs p zs = false := by simpa using hs
    have hO : sxO p zs bs st cn = none := by rw [sxO, if_neg]; simp [sxOk0, hs]
    have HO := Lib.hid (sx_none hO)
    clear hO
    go_enter Try.func15, Try.ntmps15
    go_wp2_with fail
    refine wp_region_held_drew (S := fun W' => W'.cell? ⟨w.heap.size, 0, none⟩ = some (.int .i64 p) ∧ W'.cell? ⟨w.heap.size, 1, none⟩ = some (.slice ao zs.length cap) ∧ Below w.heap.size w W') (by kernel_rfl) ?_ (fun hHeld => ?_)
    · go_split_ands; refine ⟨?_, ?_, ?_⟩ <;> first | assumption | (simp [go_sem]; done) | exact cnext (by assumption) (by assumption) | exact bnext (by assumption) (by assumption) | exact bnext (Below.drew (by assumption)) (by assumption) | exact Below.drew (hb _)
    refine wpAnyH_take (i := 0) (v := ?_) rfl (by kernel_rfl) (by kernel_rfl) (by kernel_rfl) (fun _ _ _ h => h) (Or.inl ⟨by rfl, ?_⟩) hHeld ?_
    rotate_left
    · (intro w hSw; (try dsimp only at hSw); go_simp <;> with_reducible rfl)
    (try simp only [Act.put, List.setIfInBounds_toArray, List.set_cons_zero, List.set_cons_succ])
    refine wpAnyH_ready (rs := [1]) (by kernel_rfl) (by simp) ?_
    refine AllReadyH.cons rfl (fun K hK => ?_) AllReadyH.nil
    go_simp
    with_reducible refine Calls.mono (implShares_any _ _ zs _ ?_) ?_
    · exact h.below (by go_split_ands; first | assumption | exact Below.drew (hb _))
    rintro e w2 ⟨rfl, b2⟩
    rw [hs]
    try go_wp2_with fail
    refine hK.out _ _ ?_ (fun hHeld => ?_)
    · go_split_ands; refine ⟨?_, ?_, ?_⟩ <;> first | assumption | (simp [go_sem]; done) | exact cnext (by assumption) (by assumption) | exact bnext (by assumption) (by assumption) | exact bnext (Below.drew (by assumption)) (by assumption) | exact Below.drew (hb _)
    clear hK K
    (try simp only [Act.put, List.setIfInBounds_toArray, List.set_cons_zero, List.set_cons_succ])
    refine wpAnyH_take (i := 2) (v := ?_) rfl (by kernel_rfl) (by kernel_rfl) (by kernel_rfl) (fun _ _ _ h => h) (Or.inl ⟨by rfl, ?_⟩) hHeld ?_
    rotate_left
    · (intro w hSw; (try dsimp only at hSw); go_simp <;> with_reducible rfl)
    (try simp only [Act.put, List.setIfInBounds_toArray, List.set_cons_zero, List.set_cons_succ])
    refine wpAnyH_take (i := 3) (v := ?_) rfl (by kernel_rfl) (by kernel_rfl) (by kernel_rfl) (fun _ _ _ h => h) (Or.inl ⟨by rfl, ?_⟩) hHeld ?_
    rotate_left
    · (intro w hSw; (try dsimp only at hSw); go_simp <;> with_reducible rfl)
    (try simp only [Act.put, List.setIfInBounds_toArray, List.set_cons_zero, List.set_cons_succ])
    refine wpAnyH_take (i := 4) (v := undef) rfl (by kernel_rfl) (by kernel_rfl) (by kernel_rfl) (fun _ _ _ h => h) (Or.inr ⟨by rfl, rfl⟩) hHeld ?_
    (try simp only [Act.put, List.setIfInBounds_toArray, List.set_cons_zero, List.set_cons_succ])
    refine wpAnyH_take (i := 5) (v := undef) rfl (by kernel_rfl) (by kernel_rfl) (by kernel_rfl) (fun _ _ _ h => h) (Or.inr ⟨by rfl, rfl⟩) hHeld ?_
    (try simp only [Act.put, List.setIfInBounds_toArray, List.set_cons_zero, List.set_cons_succ])
    refine wpAnyH_take (i := 6) (v := undef) rfl (by kernel_rfl) (by kernel_rfl) (by kernel_rfl) (fun _ _ _ h => h) (Or.inr ⟨by rfl, rfl⟩) hHeld ?_
    (try simp only [Act.put, List.setIfInBounds_toArray, List.set_cons_zero, List.set_cons_succ])
    refine wpAnyH_take (i := 7) (v := ?_) rfl (by kernel_rfl) (by kernel_rfl) (by kernel_rfl) (fun _ _ _ h => h) (Or.inl ⟨by rfl, ?_⟩) hHeld ?_
    rotate_left
    · (intro w hSw; (try dsimp only at hSw); go_simp <;> with_reducible rfl)
    (try simp only [Act.put, List.setIfInBounds_toArray, List.set_cons_zero, List.set_cons_succ])
    refine wpAnyH_take (i := 8) (v := ?_) rfl (by kernel_rfl) (by kernel_rfl) (by kernel_rfl) (fun _ _ _ h => h) (Or.inl ⟨by rfl, ?_⟩) hHeld ?_
    rotate_left
    · (intro w hSw; (try dsimp only at hSw); go_simp <;> with_reducible rfl)
    (try simp only [Act.put, List.setIfInBounds_toArray, List.set_cons_zero, List.set_cons_succ])
    refine wpAnyH_take (i := 9) (v := undef) rfl (by kernel_rfl) (by kernel_rfl) (by kernel_rfl) (fun _ _ _ h => h) (Or.inr ⟨by rfl, rfl⟩) hHeld ?_
    (try simp only [Act.put, List.setIfInBounds_toArray, List.set_cons_zero, List.set_cons_succ])
    refine wpAnyH_ready (rs := [10]) (by kernel_rfl) (by simp) ?_
    refine AllReadyH.cons rfl (fun K hK => ?_) AllReadyH.nil
    go_simp
    refine hK.out _ _ ?_ (fun hHeld => ?_)
    · go_split_ands; refine ⟨?_, ?_, ?_⟩ <;> first | assumption | (simp [go_sem]; done) | exact cnext (by assumption) (by assumption) | exact bnext (by assumption) (by assumption) | exact bnext (Below.drew (by assumption)) (by assumption) | exact Below.drew (hb _)
    clear hK K
    (try simp only [Act.put, List.setIfInBounds_toArray, List.set_cons_zero, List.set_cons_succ])
    refine wpAnyH_take (i := 11) (v := undef) rfl (by kernel_rfl) (by kernel_rfl) (by kernel_rfl) (fun _ _ _ h => h) (Or.inr ⟨by rfl, rfl⟩) hHeld ?_
    (try simp only [Act.put, List.setIfInBounds_toArray, List.set_cons_zero, List.set_cons_succ])
    refine wpAnyH_take (i := 12) (v := ?_) rfl (by kernel_rfl) (by kernel_rfl) (by kernel_rfl) (fun _ _ _ h => h) (Or.inl ⟨by rfl, ?_⟩) hHeld ?_
    rotate_left
    · (intro w hSw; (try dsimp only at hSw); go_simp <;> with_reducible rfl)
    (try simp only [Act.put, List.setIfInBounds_toArray, List.set_cons_zero, List.set_cons_succ])
    refine wpAnyH_take (i := 13) (v := ?_) rfl (by kernel_rfl) (by kernel_rfl) (by kernel_rfl) (fun _ _ _ h => h) (Or.inl ⟨by rfl, ?_⟩) hHeld ?_
    rotate_left
    · (intro w hSw; (try dsimp only at hSw); go_simp <;> with_reducible rfl)
    (try simp only [Act.put, List.setIfInBounds_toArray, List.set_cons_zero, List.set_cons_succ])
    refine wpAnyH_take (i := 14) (v := undef) rfl (by kernel_rfl) (by kernel_rfl) (by kernel_rfl) (fun _ _ _ h => h) (Or.inr ⟨by rfl, rfl⟩) hHeld ?_
    (try simp only [Act.put, List.setIfInBounds_toArray, List.set_cons_zero, List.set_cons_succ])
    refine wpAnyH_take (i := 15) (v := undef) rfl (by kernel_rfl) (by kernel_rfl) (by kernel_rfl) (fun _ _ _ h => h) (Or.inr ⟨by rfl, rfl⟩) hHeld ?_
    (try simp only [Act.put, List.setIfInBounds_toArray, List.set_cons_zero, List.set_cons_succ])
    refine wpAnyH_take (i := 17) (v := undef) rfl (by kernel_rfl) (by kernel_rfl) (by kernel_rfl) (fun _ _ _ h => h) (Or.inr ⟨by rfl, rfl⟩) hHeld ?_
    (try simp only [Act.put, List.setIfInBounds_toArray, List.set_cons_zero, List.set_cons_succ])
    refine wpAnyH_ready (rs := [16]) (by kernel_rfl) (by simp) ?_
    refine AllReadyH.cons rfl (fun K hK => ?_) AllReadyH.nil
    go_simp
    refine hK.out _ _ ?_ (fun hHeld => ?_)
    · go_split_ands; refine ⟨?_, ?_, ?_⟩ <;> first | assumption | (simp [go_sem]; done) | exact cnext (by assumption) (by assumption) | exact bnext (by assumption) (by assumption) | exact bnext (Below.drew (by assumption)) (by assumption) | exact Below.drew (hb _)
    clear hK K
    (try simp only [Act.put, List.setIfInBounds_toArray, List.set_cons_zero, List.set_cons_succ])
    refine wpAnyH_ready (rs := [18]) (by kernel_rfl) (by simp) ?_
    refine AllReadyH.cons rfl (fun K hK => ?_) AllReadyH.nil
    go_simp
    refine hK.out _ _ ?_ (fun hHeld => ?_)
    · go_split_ands; refine ⟨?_, ?_, ?_⟩ <;> first | assumption | (simp [go_sem]; done) | exact cnext (by assumption) (by assumption) | exact bnext (by assumption) (by assumption) | exact bnext (Below.drew (by assumption)) (by assumption) | exact Below.drew (hb _)
    clear hK K
    (try simp only [Act.put, List.setIfInBounds_toArray, List.set_cons_zero, List.set_cons_succ])
    refine wpAnyH_take (i := 19) (v := undef) rfl (by kernel_rfl) (by kernel_rfl) (by kernel_rfl) (fun _ _ _ h => h) (Or.inr ⟨by rfl, rfl⟩) hHeld ?_
    (try simp only [Act.put, List.setIfInBounds_toArray, List.set_cons_zero, List.set_cons_succ])
    refine wpAnyH_take (i := 20) (v := undef) rfl (by kernel_rfl) (by kernel_rfl) (by kernel_rfl) (fun _ _ _ h => h) (Or.inr ⟨by rfl, rfl⟩) hHeld ?_
    (try simp only [Act.put, List.setIfInBounds_toArray, List.set_cons_zero, List.set_cons_succ])
    refine wpAnyH_ready (rs := [21]) (by kernel_rfl) (by simp) ?_
    refine AllReadyH.cons rfl (fun K hK => ?_) AllReadyH.nil
    go_simp
    refine hK.out _ _ ?_ (fun hHeld => ?_)
    · go_split_ands; refine ⟨?_, ?_, ?_⟩ <;> first | assumption | (simp [go_sem]; done) | exact cnext (by assumption) (by assumption) | exact bnext (by assumption) (by assumption) | exact bnext (Below.drew (by assumption)) (by assumption) | exact Below.drew (hb _)
    clear hK K
    (try simp only [Act.put, List.setIfInBounds_toArray, List.set_cons_zero, List.set_cons_succ])
    refine wpAnyH_take (i := 22) (v := undef) rfl (by kernel_rfl) (by kernel_rfl) (by kernel_rfl) (fun _ _ _ h => h) (Or.inr ⟨by rfl, rfl⟩) hHeld ?_
    (try simp only [Act.put, List.setIfInBounds_toArray, List.set_cons_zero, List.set_cons_succ])
    refine wpAnyH_take (i := 23) (v := ?_) rfl (by kernel_rfl) (by kernel_rfl) (by kernel_rfl) (fun _ _ _ h => h) (Or.inl ⟨by rfl, ?_⟩) hHeld ?_
    rotate_left
    · (intro w hSw; (try dsimp only at hSw); go_simp <;> with_reducible rfl)
    (try simp only [Act.put, List.setIfInBounds_toArray, List.set_cons_zero, List.set_cons_succ])
    refine wpAnyH_done (by kernel_rfl) ?_ _
    go_wp2
    go_ret2
    exact ⟨_, ret2 rfl (vb HO.out.2.symm), by rw [HO.out.1]; exact OI.nil _ _, by go_split_ands; assumption⟩
end Go.Proofs.Ytnhcoggjnbldiaa
