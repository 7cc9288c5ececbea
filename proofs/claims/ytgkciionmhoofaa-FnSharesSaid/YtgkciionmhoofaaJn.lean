/- JoinShares: what both packages return. No conditions but that the slices read. -/
import Derived.Test.YtgkciionmhoofaaLag2
namespace Go.Proofs.Ytgkciionmhoofaa
open Go.RowKit
set_option maxRecDepth 100000
set_option linter.unusedVariables false
set_option linter.unusedSimpArgs false

theorem RI.take {w : World} {ao : Option Addr} {m cap : Nat} {zs : List Int} (h : RI w (.slice ao m cap) zs) (k : Nat) (hk : k ≤ zs.length) : RI w (.slice ao k cap) (zs.take k) := by
  obtain ⟨hz, ao', cap', e, h1, h2, h3⟩ := h
  simp only [Value.slice.injEq] at e
  obtain ⟨rfl, rfl, rfl⟩ := e
  refine ⟨fun z hz' => hz z (List.mem_of_mem_take hz'), ao, cap, by rw [List.length_take, Nat.min_eq_left hk], by rw [List.length_take]; omega, h2, fun i hi => ?_⟩
  rw [List.length_take] at hi
  obtain ⟨b, off, e, hc⟩ := h3 i (by omega)
  exact ⟨b, off, e, by rw [List.getElem_take]; exact hc⟩
theorem memB_snoc (zs : List Int) (z x : Int) : memB (zs ++ [z]) x = (memB zs x || z == x) := by simp [memB]
theorem shOk_parts {p : Int} {ps ss : List Int} (h : shOk p ps ss = true) : prm p = true ∧ ps.length = ss.length ∧ 1 ≤ ps.length ∧ ps.length ≤ 8 ∧ (∀ z ∈ ps, 0 ≤ z ∧ z < p) ∧ (∀ z ∈ ss, 0 ≤ z ∧ z < p) ∧ Apart ps := by
  simp only [shOk, Bool.and_eq_true, beq_iff_eq] at h
  obtain ⟨⟨⟨⟨h1, h2⟩, h3⟩, _⟩, h4⟩ := h
  obtain ⟨a, _, _, b, c, d⟩ := nums_parts h1
  obtain ⟨_, _, _, _, _, d'⟩ := nums_parts h2
  exact ⟨a, h3, by omega, by omega, d, d', .of h4⟩
theorem lens_ne {a b : Nat} : ((a : Int) != (b : Int)) = !(a == b) := by
  by_cases h : a = b
  · subst h; simp
  · have : ((a : Int) != (b : Int)) = true := by rw [bne_iff_ne]; omega
    rw [this]; simp [h]
set_option maxHeartbeats 2000000 in
theorem areShares_any (p : Int) (vp vs : Value) (ps ss : List Int) (w : World) (h : RI w vp ps) (h' : RI w vs ss) :
    Calls Try.prog 24 #[.int .i64 p, vp, vs] w fun e w' => e = .returned (.bool (shOk p ps ss)) ∧ Below w.heap.size w w' := by
  have hlen := h.len
  obtain ⟨ao, cap, rfl⟩ := h.shape
  obtain ⟨aos, caps, rfl⟩ := h'.shape
  have G := Lib.hid h
  have G2 := Lib.hid h'
  by_cases h1 : nums p ps 1 8 = true
  · by_cases h2 : nums p ss 1 8 = true
    · have hne := lens_ne (a := ps.length) (b := ss.length)
      by_cases h3 : (ps.length == ss.length) = true
      · have h3i : ((ps.length : Int) != (ss.length : Int)) = false := by rw [hne, h3]; rfl
        by_cases h4 : memB ps 0 = true
        · have HF := Lib.hid (show shOk p ps ss = false by simp [shOk, h4])
          clear hne h3
          go_enter Try.func24, Try.ntmps24
          go_wp2_with fail
          refine (areNumbers_any p _ ps _ _ _ G.out).mono ?_
          rw [h1]
          rintro e w1 ⟨rfl, hb1⟩
          go_wp2_with fail
          refine (areNumbers_any p _ ss _ _ _ (G2.out.below hb1)).mono ?_
          rw [h2]
          rintro e w2 ⟨rfl, hb2⟩
          have hB := bnext hb1 hb2
          go_wp2_with fail
          refine (contains_any _ ps 0 _ (G.out.below hB)).mono ?_
          rw [h4]
          rintro e w3 ⟨rfl, rfl⟩
          go_wp2
          go_ret
          exact ⟨ret_bool HF.out.symm, hB⟩
        · have h4 : memB ps 0 = false := by simpa using h4
          have HF := Lib.hid (show shOk p ps ss = dstF ps ps.length 0 by simp [shOk, h1, h2, h3, h4])
          obtain ⟨_, _, _, _, hcapl, _, hcs⟩ := h
          clear hne h3
          go_enter Try.func24, Try.ntmps24
          go_wp2_with fail
          refine (areNumbers_any p _ ps _ _ _ G.out).mono ?_
          rw [h1]
          rintro e w1 ⟨rfl, hb1⟩
          go_wp2_with fail
          refine (areNumbers_any p _ ss _ _ _ (G2.out.below hb1)).mono ?_
          rw [h2]
          rintro e w2 ⟨rfl, hb2⟩
          have hB := bnext hb1 hb2
          go_wp2_with fail
          refine (contains_any _ ps 0 _ (G.out.below hB)).mono ?_
          rw [h4]
          rintro e w3 ⟨rfl, rfl⟩
          go_wp2_with fail
          go_loop [32] (fun iv => ∃ i : Nat, iv = .int .i64 i ∧ i ≤ ps.length ∧ dstF ps (ps.length - i) i = dstF ps ps.length 0) (fun iv => ps.length - (intOf iv).toNat)
          case atStart => exact ⟨0, rfl, Nat.zero_le _, rfl⟩
          case round =>
            obtain ⟨i, rfl, hi, hq⟩ := hrel
            by_cases hil : i < ps.length
            · rw [show ps.length - i = (ps.length - (i + 1)) + 1 by omega, dstF, gI_eq hil] at hq
              have gB := G.out.below hB
              obtain ⟨b, off, e0, -, hcc⟩ := gB.2.cells (by omega)
              obtain rfl := e0
              have hci := hcc i hil
              have gT := gB.take i (by omega)
              have hcap : ps.length ≤ cap := by
                obtain ⟨_, _, _, e, h1, _⟩ := G.out
                simp only [Value.slice.injEq] at e; obtain ⟨_, _, rfl⟩ := e; exact h1
              generalize ps[i] = pi at *
              clear hcc hcs
              by_cases hm : memB (ps.take i) pi = true
              · rw [hm] at hq
                have HF2 := Lib.hid (show shOk p ps ss = false by rw [HF.out, ← hq]; rfl)
                clear hq
                go_wp2_with fail
                refine (contains_any _ _ _ _ gT).mono ?_
                rw [hm]
                rintro e w3 ⟨rfl, rfl⟩
                go_wp2
                go_ret
                exact ⟨ret_bool HF2.out.symm, hB⟩
              · have hm : memB (ps.take i) pi = false := by simpa using hm
                rw [hm] at hq
                have Hq := Lib.hid hq
                clear hq
                go_wp2_with fail
                refine (contains_any _ _ _ _ gT).mono ?_
                rw [hm]
                rintro e w3 ⟨rfl, rfl⟩
                go_wp2
                go_round
                case rel => exact ⟨i + 1, by go_num, by omega, Hq.out⟩
                case measure => simp [intOf] <;> omega
            · have HF2 := Lib.hid (show shOk p ps ss = true by rw [HF.out, ← hq, show ps.length - i = 0 by omega]; rfl)
              clear hq
              go_wp2
              go_ret
              exact ⟨ret_bool HF2.out.symm, hB⟩
      · have h3 : (ps.length == ss.length) = false := by simpa using h3
        have h3i : ((ps.length : Int) != (ss.length : Int)) = true := by rw [hne, h3]; rfl
        have HF := Lib.hid (show shOk p ps ss = false by simp [shOk, h3])
        clear hne h3
        go_enter Try.func24, Try.ntmps24
        go_wp2_with fail
        refine (areNumbers_any p _ ps _ _ _ G.out).mono ?_
        rw [h1]
        rintro e w1 ⟨rfl, hb1⟩
        go_wp2_with fail
        refine (areNumbers_any p _ ss _ _ _ (G2.out.below hb1)).mono ?_
        rw [h2]
        rintro e w2 ⟨rfl, hb2⟩
        have hB := bnext hb1 hb2
        go_wp2
        go_ret
        exact ⟨ret_bool HF.out.symm, hB⟩
    · have h2 : nums p ss 1 8 = false := by simpa using h2
      have HF := Lib.hid (show shOk p ps ss = false by simp [shOk, h2])
      go_enter Try.func24, Try.ntmps24
      go_wp2_with fail
      refine (areNumbers_any p _ ps _ _ _ G.out).mono ?_
      rw [h1]
      rintro e w1 ⟨rfl, hb1⟩
      go_wp2_with fail
      refine (areNumbers_any p _ ss _ _ _ (G2.out.below hb1)).mono ?_
      rw [h2]
      rintro e w2 ⟨rfl, hb2⟩
      have hB := bnext hb1 hb2
      go_wp2
      go_ret
      exact ⟨ret_bool HF.out.symm, hB⟩
  · have h1 : nums p ps 1 8 = false := by simpa using h1
    have HF := Lib.hid (show shOk p ps ss = false by simp [shOk, h1])
    go_enter Try.func24, Try.ntmps24
    go_wp2_with fail
    refine (areNumbers_any p _ ps _ _ _ G.out).mono ?_
    rw [h1]
    rintro e w1 ⟨rfl, hb1⟩
    go_wp2
    go_ret
    exact ⟨ret_bool HF.out.symm, hb1⟩
set_option maxHeartbeats 1000000 in
theorem implJs_any (p : Int) (vp : Value) (ps : List Int) (vs : Value) (ss : List Int) (w : World) (h : RI w vp ps) (h' : RI w vs ss) :
    Calls Try.prog 9 #[.int .i64 p, vp, vs] w fun e w' => e = .returned (.tuple #[.int .i64 (jsV p ps ss), .bool (shOk p ps ss)]) ∧ Below w.heap.size w w' := by
  obtain ⟨ao, cap, rfl⟩ := h.shape
  obtain ⟨aos, caps, rfl⟩ := h'.shape
  have G := Lib.hid h
  have G2 := Lib.hid h'
  by_cases hk : shOk p ps ss = true
  · obtain ⟨hp, hl, -, -, hps, hss, hd⟩ := shOk_parts hk
    have hb := prm_bd hp
    have HV := Lib.hid (show jsV p ps ss = thr p ps ss 0 by simp [jsV, hk])
    have hth := fun w' (hb1 : Below w.heap.size w w') => through_any p 0 hp (by omega) (by omega) _ _ ps ss hl hps hss w' (G.out.below hb1) (G2.out.below hb1)
    rw [hk]
    clear hl hps hss hd
    go_enter Try.func9, Try.ntmps9
    go_wp2_with fail
    refine (areShares_any p _ _ ps ss _ G.out G2.out).mono ?_
    rw [hk]
    rintro e w1 ⟨rfl, hb1⟩
    go_wp2_with fail
    refine (hth _ hb1).mono ?_
    rintro e w2 ⟨rfl, rfl⟩
    go_wp2
    go_ret2
    exact ⟨ret2 (vi HV.out.symm) rfl, hb1⟩
  · have hk : shOk p ps ss = false := by simpa using hk
    have HV := Lib.hid (show jsV p ps ss = 0 by simp [jsV, hk])
    rw [hk]
    go_enter Try.func9, Try.ntmps9
    go_wp2_with fail
    refine (areShares_any p _ _ ps ss _ G.out G2.out).mono ?_
    rw [hk]
    rintro e w1 ⟨rfl, hb1⟩
    go_wp2
    go_ret2
    exact ⟨ret2 (vi HV.out.symm) rfl, hb1⟩
end Go.Proofs.Ytgkciionmhoofaa
