/- FitsShares: what both packages return. No conditions but that the slices read. -/
import Derived.Test.YtgkciionmhoofaaJn
namespace Go.Proofs.Ytgkciionmhoofaa
open Go.RowKit
set_option maxRecDepth 100000
set_option linter.unusedVariables false
set_option linter.unusedSimpArgs false

set_option maxHeartbeats 4000000 in
theorem implFs_any (p q : Int) (vp : Value) (ps : List Int) (vs : Value) (ss : List Int) (w : World) (h : RI w vp ps) (h' : RI w vs ss) :
    Calls Try.prog 10 #[.int .i64 p, .int .i64 q, vp, vs] w fun e w' => e = .returned (.tuple #[.bool (fsV p q ps ss), .bool (fsOk p q ps ss)]) ∧ Below w.heap.size w w' := by
  have hlen := h.len
  obtain ⟨ao, cap, rfl⟩ := h.shape
  obtain ⟨aos, caps, rfl⟩ := h'.shape
  have G := Lib.hid h
  have G2 := Lib.hid h'
  by_cases hk : shOk p ps ss = true
  · by_cases hq : inB q 1 8 = true
    · obtain ⟨hp, hl, hl1, hl8, hps, hss, hd⟩ := shOk_parts hk
      have hb := prm_bd hp
      have hqb : 1 ≤ q ∧ q ≤ 8 := by simpa [inB] using hq
      obtain ⟨n, rfl⟩ := Int.eq_ofNat_of_zero_le (show 0 ≤ q by omega)
      have HOK := Lib.hid (show fsOk p n ps ss = true by simp [fsOk, hk, hq])
      have HV := Lib.hid (show fsV p n ps ss = fitF p ps ss (fsN n ps) (ps.length - fsN n ps) (fsN n ps) by simp [fsV, HOK.out])
      have Hl := Lib.hid hl
      have hcap : ps.length ≤ cap := by
        obtain ⟨_, _, _, e, h1, _⟩ := G.out
        simp only [Value.slice.injEq] at e; obtain ⟨_, _, rfl⟩ := e; exact h1
      have hcaps : ss.length ≤ caps := by
        obtain ⟨_, _, _, e, h1, _⟩ := G2.out
        simp only [Value.slice.injEq] at e; obtain ⟨_, _, rfl⟩ := e; exact h1
      have hcapm : cap ≤ 9223372036854775807 := by
        obtain ⟨_, _, _, e, h1, h2, _⟩ := G.out
        simp only [Value.slice.injEq] at e; obtain ⟨_, _, rfl⟩ := e; unfold maxLen at h2; omega
      rw [HOK.out]
      by_cases hnl : n < ps.length
      · have HV2 := Lib.hid (show fsV p n ps ss = fitF p ps ss n (ps.length - n) n by rw [HV.out, show fsN n ps = n by unfold fsN; omega])
        have hlT : (ps.take n).length = (ss.take n).length := by rw [List.length_take, List.length_take, hl]
        have hpT : ∀ z ∈ ps.take n, 0 ≤ z ∧ z < p := fun z hz => hps z (List.mem_of_mem_take hz)
        have hsT : ∀ z ∈ ss.take n, 0 ≤ z ∧ z < p := fun z hz => hss z (List.mem_of_mem_take hz)
        have Hth := Lib.hid fun (x : Int) (hx0 : 0 ≤ x) (hx1 : x < p) (w' : World) g1 g2 => through_any p x hp hx0 hx1 (.slice ao n cap) (.slice aos n caps) (ps.take n) (ss.take n) hlT hpT hsT w' g1 g2
        have Hps := Lib.hid hps
        have hsl : n ≤ ss.length := by omega
        have hnc : ¬ cap = n := by omega
        have nle : (n : Int) ≤ (ps.length : Int) := by omega
        have nlt : ¬ (ps.length : Int) < (n : Int) := by omega
        have nlt2 : (n : Int) < (ps.length : Int) := by omega
        obtain ⟨b, off, e0, -, hcc⟩ := G.out.2.cells (by omega)
        obtain rfl := e0
        obtain ⟨bs, offs, e0, -, hcs⟩ := G2.out.2.cells (by omega)
        obtain rfl := e0
        have Hcc := Lib.hid hcc
        have Hcs := Lib.hid hcs
        clear hl hps hss hd hlT hpT hsT hcc hcs
        go_enter Try.func10, Try.ntmps10
        go_wp2_with fail
        refine (areShares_any p _ _ ps ss _ G.out G2.out).mono ?_
        rw [hk]
        rintro e w1 ⟨rfl, hb1⟩
        go_wp2_with fail
        refine (within_any _ _ _ _).mono ?_
        rw [hq]
        rintro e w2 ⟨rfl, rfl⟩
        go_wp2_with fail
        all_goals try (exfalso; omega)
        go_loopw [31] (fun iv wr => ∃ i : Nat, iv = .int .i64 i ∧ i ≤ ps.length - n ∧ fitF p ps ss n (ps.length - n - i) (n + i) = fitF p ps ss n (ps.length - n) n ∧ Below w1.heap.size w1 wr) (fun iv _ => ps.length - n - (intOf iv).toNat)
        case atStart => exact ⟨0, rfl, Nat.zero_le _, rfl, Below.refl _ _⟩
        case round =>
          obtain ⟨i, rfl, hi, hf, hBr⟩ := hrel
          have hBn := bnext hb1 hBr
          by_cases hil : i < ps.length - n
          · have hil' : n + i < ps.length := by omega
            have hils : n + i < ss.length := by have := Hl.out; omega
            rw [show ps.length - n - i = (ps.length - n - (i + 1)) + 1 by omega, fitF, gI_eq hil', gI_eq hils] at hf
            have hci := (hBn.cell (p := ⟨b, off + (n + i), none⟩) (World.block_lt_of_cell? w _ (Hcc.out (n + i) hil'))).trans (Hcc.out (n + i) hil')
            have hsi := (hBn.cell (p := ⟨bs, offs + (n + i), none⟩) (World.block_lt_of_cell? w _ (Hcs.out (n + i) hils))).trans (Hcs.out (n + i) hils)
            rw [← Nat.add_assoc] at hci
            have hpi := Hps.out ps[n + i] (List.getElem_mem hil')
            have hca := fun k => Hth.out ps[n + i] hpi.1 hpi.2 (wr.drewN k) (((G.out.below hBn).take n (by omega)).below (below_drewN wr k)) (((G2.out.below hBn).take n hsl).below (below_drewN wr k))
            generalize ps[n + i] = pi at *
            generalize ss[n + i] = si at *
            have hth := thr_bd (show 0 < p by omega) (ps.take n) (ss.take n) pi
            generalize thr p (ps.take n) (ss.take n) pi = u at *
            have n0 : (0 : Int) ≤ (n : Int) := by omega
            have nc : (n : Int) ≤ (cap : Int) := by omega
            have ncs : (n : Int) ≤ (caps : Int) := by omega
            have e1 : IntKind.i64.wrap ((n : Int) + (i : Int)) = (n : Int) + (i : Int) := IntWalk.i64_in _ (by omega)
            have e2 : ((n : Int) + (i : Int)).toNat = n + i := by omega
            have e3 : (0 : Int) ≤ (n : Int) + (i : Int) := by omega
            have e4 : (n : Int) + (i : Int) < (ss.length : Int) := by omega
            have hassoc : n + (i + 1) = n + i + 1 := by omega
            by_cases hx : u = si
            · have hxb : (u != si) = false := by simpa using hx
              have Hf := Lib.hid (show fitF p ps ss n (ps.length - n - (i + 1)) (n + (i + 1)) = fitF p ps ss n (ps.length - n) n by rw [← hf, hx]; simp [Nat.add_assoc])
              clear hf hx hassoc
              go_wp2_with fail
              go_quiet ((go_at_call 25; exact Calls.quiet_of (qi (hca _))))
              clear e1 e2 e3 e4
              go_wp2
              go_roundw
              case rel => exact ⟨i + 1, by go_num, by omega, Hf.out, bnext hBr (below_drewN _ _)⟩
              case measure => simp [intOf] <;> omega
            · have hxb : (u != si) = true := by simpa using hx
              have HV3 := Lib.hid (show fsV p n ps ss = false by rw [HV2.out, ← hf, show (u == si) = false by simpa using hx]; rfl)
              clear hf hx hassoc
              go_wp2_with fail
              go_quiet ((go_at_call 25; exact Calls.quiet_of (qi (hca _))))
              clear e1 e2 e3 e4
              go_wp2
              go_ret2
              exact ⟨ret2 (vb HV3.out.symm) rfl, bnext hBn (below_drewN _ _)⟩
          · have HV3 := Lib.hid (show fsV p n ps ss = true by rw [HV2.out, ← hf, show ps.length - n - i = 0 by omega]; rfl)
            clear hf
            go_wp2
            go_ret2
            exact ⟨ret2 (vb HV3.out.symm) rfl, hBn⟩
      · have HV2 := Lib.hid (show fsV p n ps ss = true by rw [HV.out, show fsN n ps = ps.length by unfold fsN; omega, Nat.sub_self]; rfl)
        obtain ⟨b, off, e0, -, -⟩ := G.out.2.cells (by omega)
        obtain rfl := e0
        clear hl hps hss hd
        by_cases hnc : cap = ps.length
        · obtain rfl := hnc
          go_enter Try.func10, Try.ntmps10
          go_wp2_with fail
          refine (areShares_any p _ _ ps ss _ G.out G2.out).mono ?_
          rw [hk]
          rintro e w1 ⟨rfl, hb1⟩
          go_wp2_with fail
          refine (within_any _ _ _ _).mono ?_
          rw [hq]
          rintro e w2 ⟨rfl, rfl⟩
          go_wp2_with fail
          all_goals
            go_loop [31] (fun iv => iv = .int .i64 0) (fun _ => 0)
            case atStart => rfl
            case round =>
              obtain rfl := hrel
              go_wp2
              all_goals first | (go_ret2; exact ⟨ret2 (vb HV2.out.symm) rfl, hb1⟩) | (exfalso; omega)
        · skip
          go_enter Try.func10, Try.ntmps10
          go_wp2_with fail
          refine (areShares_any p _ _ ps ss _ G.out G2.out).mono ?_
          rw [hk]
          rintro e w1 ⟨rfl, hb1⟩
          go_wp2_with fail
          refine (within_any _ _ _ _).mono ?_
          rw [hq]
          rintro e w2 ⟨rfl, rfl⟩
          go_wp2_with fail
          all_goals
            go_loop [31] (fun iv => iv = .int .i64 0) (fun _ => 0)
            case atStart => rfl
            case round =>
              obtain rfl := hrel
              go_wp2
              all_goals first | (go_ret2; exact ⟨ret2 (vb HV2.out.symm) rfl, hb1⟩) | (exfalso; omega)
    · have hq : inB q 1 8 = false := by simpa using hq
      have HOK := Lib.hid (show fsOk p q ps ss = false by simp [fsOk, hq])
      have HV := Lib.hid (show fsV p q ps ss = false by simp [fsV, HOK.out])
      rw [HOK.out]
      go_enter Try.func10, Try.ntmps10
      go_wp2_with fail
      refine (areShares_any p _ _ ps ss _ G.out G2.out).mono ?_
      rw [hk]
      rintro e w1 ⟨rfl, hb1⟩
      go_wp2_with fail
      refine (within_any _ _ _ _).mono ?_
      rw [hq]
      rintro e w2 ⟨rfl, rfl⟩
      go_wp2
      go_ret2
      exact ⟨ret2 (vb HV.out.symm) rfl, hb1⟩
  · have hk : shOk p ps ss = false := by simpa using hk
    have HOK := Lib.hid (show fsOk p q ps ss = false by simp [fsOk, hk])
    have HV := Lib.hid (show fsV p q ps ss = false by simp [fsV, HOK.out])
    rw [HOK.out]
    go_enter Try.func10, Try.ntmps10
    go_wp2_with fail
    refine (areShares_any p _ _ ps ss _ G.out G2.out).mono ?_
    rw [hk]
    rintro e w1 ⟨rfl, hb1⟩
    go_wp2
    go_ret2
    exact ⟨ret2 (vb HV.out.symm) rfl, hb1⟩
end Go.Proofs.Ytgkciionmhoofaa
