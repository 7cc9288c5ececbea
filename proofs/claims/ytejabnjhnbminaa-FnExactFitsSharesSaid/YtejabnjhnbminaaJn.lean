/- JoinShares: what both packages return. No conditions but that the slices read. -/
import Derived.Test.YtejabnjhnbminaaLag2
namespace Go.Proofs.Ytejabnjhnbminaa
open Go.RowKit
set_option maxRecDepth 100000
set_option linter.unusedVariables false
set_option linter.unusedSimpArgs false

theorem RI.take {w : World} {ao : Option Addr} {m cap : Nat} {zs : List Int} (h : RI w (.slice ao m cap) zs) (k : Nat) (hk : k ≤ zs.length) : RI w (.slice ao k cap) (zs.take k) := by
  obtain ⟨hz, ao', cap', e, h1, h2, h3⟩ := h
  simp only [Value.slice.injEq] at e
  obtain ⟨rfl, rfl, rfl⟩ := e
  refine ⟨fun z hz' => hz z (List.mem_of_mem_take hz'), ao, cap, by rw [List.length_take, Nat.min_eq_left hk], by rw [List.length_take]; omega, h2, fun i hi => ?_⟩
  rw [List.length_take] at hi
  obtain ⟨b, off, e, hc⟩ := h3 i (by omega)
  exact ⟨b, off, e, by rw [List.getElem_take]; exact hc⟩
theorem memB_snoc (zs : List Int) (z x : Int) : memB (zs ++ [z]) x = (memB zs x || z == x) := by simp [memB]
theorem shOk_parts {p : Int} {ps ss : List Int} (h : shOk p ps ss = true) : prm p = true ∧ ps.length = ss.length ∧ 1 ≤ ps.length ∧ ps.length ≤ 8 ∧ (∀ z ∈ ps, 0 ≤ z ∧ z < p) ∧ (∀ z ∈ ss, 0 ≤ z ∧ z < p) ∧ Apart ps := by
  simp only [shOk, Bool.and_eq_true, beq_iff_eq] at h
  obtain ⟨⟨⟨⟨h1, h2⟩, h3⟩, _⟩, h4⟩ := h
  obtain ⟨a, _, _, b, c, d⟩ := nums_parts h1
  obtain ⟨_, _, _, _, _, d'⟩ := nums_parts h2
  exact ⟨a, h3, by omega, by omega, d, d', .of h4⟩
theorem lens_ne {a b : Nat} : ((a : Int) != (b : Int)) = !(a == b) := by
  by_cases h : a = b
  · subst h; simp
  · have : ((a : Int) != (b : Int)) = true := by rw [bne_iff_ne]; omega
    rw [this]; simp [h]
set_option maxHeartbeats 2000000 in
theorem areShares_any (p : Int) (vp vs : Value) (ps ss : List Int) (w : World) (h : RI w vp ps) (h' : RI w vs ss) :
    Calls Try.prog 78 #[.int .i64 p, vp, vs] w fun e w' => e = .returned (.bool (shOk p ps ss)) ∧ Below w.heap.size w w' := by
  have hlen := h.len
  obtain ⟨ao, cap, rfl⟩ := h.shape
  obtain ⟨aos, caps, rfl⟩ := h'.shape
  have G := Lib.hid h
  have G2 := Lib.hid h'
  by_cases h1 : nums p ps 1 8 = true
  · by_cases h2 : nums p ss 1 8 = true
    · have hne := lens_ne (a := ps.length) (b := ss.length)
      by_cases h3 : (ps.length == ss.length) = true
      · have h3i : ((ps.length : Int) != (ss.length : Int)) = false := by rw [hne, h3]; rfl
        by_cases h4 : memB ps 0 = true
        · have HF := Lib.hid (show shOk p ps ss = false by simp [shOk, h4])
          clear hne h3
          go_enter Try.func78, Try.ntmps78
          go_wp2_with fail
          refine (areNumbers_any p _ ps _ _ _ G.out).mono ?_
          rw [h1]
          rintro e w1 ⟨rfl, hb1⟩
          go_wp2_with fail
          refine (areNumbers_any p _ ss _ _ _ (G2.out.below hb1)).mono ?_
          rw [h2]
          rintro e w2 ⟨rfl, hb2⟩
          have hB := bnext hb1 hb2
          go_wp2_with fail
          refine (contains_any _ ps 0 _ (G.out.below hB)).mono ?_
          rw [h4]
          rintro e w3 ⟨rfl, rfl⟩
          go_wp2
          go_ret
          exact ⟨ret_bool HF.out.symm, hB⟩
        · have h4 : memB ps 0 = false := by simpa using h4
          have HF := Lib.hid (show shOk p ps ss = dstF ps ps.length 0 by simp [shOk, h1, h2, h3, h4])
          obtain ⟨_, _, _, _, hcapl, _, hcs⟩ := h
          clear hne h3
          go_enter Try.func78, Try.ntmps78
          go_wp2_with fail
          refine (areNumbers_any p _ ps _ _ _ G.out).mono ?_
          rw [h1]
          rintro e w1 ⟨rfl, hb1⟩
          go_wp2_with fail
          refine (areNumbers_any p _ ss _ _ _ (G2.out.below hb1)).mono ?_
          rw [h2]
          rintro e w2 ⟨rfl, hb2⟩
          have hB := bnext hb1 hb2
          go_wp2_with fail
          refine (contains_any _ ps 0 _ (G.out.below hB)).mono ?_
          rw [h4]
          rintro e w3 ⟨rfl, rfl⟩
          go_wp2_with fail
          go_loop [32] (fun iv => ∃ i : Nat, iv = .int .i64 i ∧ i ≤ ps.length ∧ dstF ps (ps.length - i) i = dstF ps ps.length 0) (fun iv => ps.length - (intOf iv).toNat)
          case atStart => exact ⟨0, rfl, Nat.zero_le _, rfl⟩
          case round =>
            obtain ⟨i, rfl, hi, hq⟩ := hrel
            by_cases hil : i < ps.length
            · rw [show ps.length - i = (ps.length - (i + 1)) + 1 by omega, dstF, gI_eq hil] at hq
              have gB := G.out.below hB
              obtain ⟨b, off, e0, -, hcc⟩ := gB.2.cells (by omega)
              obtain rfl := e0
              have hci := hcc i hil
              have gT := gB.take i (by omega)
              have hcap : ps.length ≤ cap := by
                obtain ⟨_, _, _, e, h1, _⟩ := G.out
                simp only [Value.slice.injEq] at e; obtain ⟨_, _, rfl⟩ := e; exact h1
              generalize ps[i] = pi at *
              clear hcc hcs
              by_cases hm : memB (ps.take i) pi = true
              · rw [hm] at hq
                have HF2 := Lib.hid (show shOk p ps ss = false by rw [HF.out, ← hq]; rfl)
                clear hq
                go_wp2_with fail
                refine (contains_any _ _ _ _ gT).mono ?_
                rw [hm]
                rintro e w3 ⟨rfl, rfl⟩
                go_wp2
                go_ret
                exact ⟨ret_bool HF2.out.symm, hB⟩
              · have hm : memB (ps.take i) pi = false := by simpa using hm
                rw [hm] at hq
                have Hq := Lib.hid hq
                clear hq
                go_wp2_with fail
                refine (contains_any _ _ _ _ gT).mono ?_
                rw [hm]
                rintro e w3 ⟨rfl, rfl⟩
                go_wp2
                go_round
                case rel => exact ⟨i + 1, by go_num, by omega, Hq.out⟩
                case measure => simp [intOf] <;> omega
            · have HF2 := Lib.hid (show shOk p ps ss = true by rw [HF.out, ← hq, show ps.length - i = 0 by omega]; rfl)
              clear hq
              go_wp2
              go_ret
              exact ⟨ret_bool HF2.out.symm, hB⟩
      · have h3 : (ps.length == ss.length) = false := by simpa using h3
        have h3i : ((ps.length : Int) != (ss.length : Int)) = true := by rw [hne, h3]; rfl
        have HF := Lib.hid (show shOk p ps ss = false by simp [shOk, h3])
        clear hne h3
        go_enter Try.func78, Try.ntmps78
        go_wp2_with fail
        refine (areNumbers_any p _ ps _ _ _ G.out).mono ?_
        rw [h1]
        rintro e w1 ⟨rfl, hb1⟩
        go_wp2_with fail
        refine (areNumbers_any p _ ss _ _ _ (G2.out.below hb1)).mono ?_
        rw [h2]
        rintro e w2 ⟨rfl, hb2⟩
        have hB := bnext hb1 hb2
        go_wp2
        go_ret
        exact ⟨ret_bool HF.out.symm, hB⟩
    · have h2 : nums p ss 1 8 = false := by simpa using h2
      have HF := Lib.hid (show shOk p ps ss = false by simp [shOk, h2])
      go_enter Try.func78, Try.ntmps78
      go_wp2_with fail
      refine (areNumbers_any p _ ps _ _ _ G.out).mono ?_
      rw [h1]
      rintro e w1 ⟨rfl, hb1⟩
      go_wp2_with fail
      refine (areNumbers_any p _ ss _ _ _ (G2.out.below hb1)).mono ?_
      rw [h2]
      rintro e w2 ⟨rfl, hb2⟩
      have hB := bnext hb1 hb2
      go_wp2
      go_ret
      exact ⟨ret_bool HF.out.symm, hB⟩
  · have h1 : nums p ps 1 8 = false := by simpa using h1
    have HF := Lib.hid (show shOk p ps ss = false by simp [shOk, h1])
    go_enter Try.func78, Try.ntmps78
    go_wp2_with fail
    refine (areNumbers_any p _ ps _ _ _ G.out).mono ?_
    rw [h1]
    rintro e w1 ⟨rfl, hb1⟩
    go_wp2
    go_ret
    exact ⟨ret_bool HF.out.symm, hb1⟩
set_option maxHeartbeats 4000000 in
theorem l06Shares_any (p : Int) (vp vs : Value) (ps ss : List Int) (w : World) (h : RI w vp ps) (h' : RI w vs ss) :
    Calls Try.prog 76 #[.int .i64 p, vp, vs] w fun e w' => e = .returned (.bool (shOk p ps ss)) ∧ Below w.heap.size w w' := by
  have hlen := h.len
  obtain ⟨ao, cap, rfl⟩ := h.shape
  obtain ⟨aos, caps, rfl⟩ := h'.shape
  have G := Lib.hid h
  have G2 := Lib.hid h'
  by_cases hpr : prm p = true
  · obtain ⟨hp1, hp2⟩ := prm_bd hpr
    by_cases h1 : nums p ps 1 8 = true
    · have H1 := Lib.hid ((nums_prm (zs := ps) (lo := 1) (hi := 8) hpr).symm.trans h1)
      by_cases h2 : nums p ss 1 8 = true
      · have H2 := Lib.hid ((nums_prm (zs := ss) (lo := 1) (hi := 8) hpr).symm.trans h2)
        have hne := lens_ne (a := ps.length) (b := ss.length)
        by_cases h3 : (ps.length == ss.length) = true
        · have h3i : ((ps.length : Int) != (ss.length : Int)) = false := by rw [hne, h3]; rfl
          have HF := Lib.hid (show shOk p ps ss = dst0 ps ps.length 0 by rw [dst0_eq ps _ _ (Nat.zero_add _)]; simp [shOk, h1, h2, h3])
          have hi64 := h.1
          clear hne h3 h1 h2
          go_enter Try.func76, Try.ntmps76
          go_wp2_with fail
          refine (l06Prime_any p _).mono ?_
          rw [hpr]
          rintro e w1 ⟨rfl, hb1⟩
          go_wp2_with fail
          refine (l06Numbers_any p hp1 hp2 _ ps _ _ _ (G.out.below hb1)).mono ?_
          rw [H1.out]
          rintro e w2 ⟨rfl, rfl⟩
          go_wp2_with fail
          refine (l06Numbers_any p hp1 hp2 _ ss _ _ _ (G2.out.below hb1)).mono ?_
          rw [H2.out]
          rintro e w2 ⟨rfl, rfl⟩
          go_wp2_with fail
          go_loopw [7] (fun iv wr => ∃ i : Nat, iv = .int .i64 i ∧ i ≤ ps.length ∧ dst0 ps (ps.length - i) i = dst0 ps ps.length 0 ∧ ∃ n, wr = w1.drewN n) (fun iv _ => ps.length - (intOf iv).toNat)
          case atStart => exact ⟨0, rfl, Nat.zero_le _, rfl, 0, rfl⟩
          case round =>
            obtain ⟨i, rfl, hi, hq, n, rfl⟩ := hrel
            have hBn := bnext hb1 (below_drewN w1 n)
            by_cases hil : i < ps.length
            · rw [show ps.length - i = (ps.length - (i + 1)) + 1 by omega, dst0, gI_eq hil] at hq
              have gB := G.out.below hb1
              obtain ⟨b, off, e0, -, hcc⟩ := gB.2.cells (by omega)
              obtain rfl := e0
              have hci := hcc i hil
              have Hcc := Lib.hid hcc
              generalize ps[i] = pi at *
              have Hq := Lib.hid hq
              clear hcc hq
              go_wp2_with fail
              go_loopw [8] (fun kv wr => ∃ k : Nat, kv = .int .i64 k ∧ k ≤ i ∧ memB (ps.take k) pi = false ∧ ∃ n, wr = w1.drewN n) (fun kv _ => i - (intOf kv).toNat)
              case atStart => exact ⟨0, rfl, Nat.zero_le _, rfl, n, rfl⟩
              case round =>
                obtain ⟨k, rfl, hk, hm, n2, rfl⟩ := hrel
                have hBn2 := bnext hb1 (below_drewN w1 n2)
                by_cases hki : k < i
                · have hkl : k < ps.length := by omega
                  have hck := Hcc.out k hkl
                  have Hsn := Lib.hid (show memB (ps.take (k + 1)) pi = (ps[k] == pi) by rw [List.take_succ_eq_append_getElem hkl, memB_snoc, hm, Bool.false_or])
                  have Hmem := Lib.hid (show ps[k] = pi → memB (ps.take i) pi = true from fun e => (memB_iff _ _).2 (by rw [← e, List.mem_take_iff_getElem]; exact ⟨k, by omega, rfl⟩))
                  generalize ps[k] = pk at *
                  have k0 : (0 : Int) ≤ (k : Int) := by omega
                  have kl : (k : Int) < (ps.length : Int) := by omega
                  have i0 : (0 : Int) ≤ (i : Int) := by omega
                  have il : (i : Int) < (ps.length : Int) := by omega
                  clear hm
                  by_cases hx : pk = pi
                  · have hxb : (pk == pi) = true := by simpa using hx
                    have HF2 := Lib.hid (show shOk p ps ss = false by rw [HF.out, ← Hq.out, Hmem.out hx]; rfl)
                    clear hx
                    go_wp2_with fail
                    go_quiet (fail)
                    go_wp2
                    go_ret
                    exact ⟨ret_bool HF2.out.symm, by first | exact hBn2 | exact bnext hBn2 (below_drewN _ _)⟩
                  · have hxb : (pk == pi) = false := by simpa using hx
                    clear hx
                    go_wp2_with fail
                    go_quiet (fail)
                    go_wp2
                    go_roundw
                    case rel => exact ⟨k + 1, by go_num, by omega, by rw [Hsn.out, hxb], _, rfl⟩
                    case measure => simp [intOf] <;> omega
                · obtain rfl : k = i := by omega
                  by_cases hx : pi = 0
                  · have hxb : (pi == 0) = true := by simpa using hx
                    have HF2 := Lib.hid (show shOk p ps ss = false by rw [HF.out, ← Hq.out, hxb]; simp)
                    clear hx hm
                    go_wp2
                    go_ret
                    exact ⟨ret_bool HF2.out.symm, hBn2⟩
                  · have hxb : (pi == 0) = false := by simpa using hx
                    have Hq2 := Lib.hid (show dst0 ps (ps.length - (k + 1)) (k + 1) = dst0 ps ps.length 0 by have := Hq.out; rw [hm, hxb] at this; exact this)
                    clear hx hm
                    go_wp2
                    go_roundw
                    case rel => exact ⟨k + 1, by go_num, by omega, Hq2.out, n2, rfl⟩
                    case measure => simp [intOf] <;> omega
            · have HF2 := Lib.hid (show shOk p ps ss = true by rw [HF.out, ← hq, show ps.length - i = 0 by omega]; rfl)
              clear hq
              go_wp2
              go_ret
              exact ⟨ret_bool HF2.out.symm, hBn⟩
        · have h3 : (ps.length == ss.length) = false := by simpa using h3
          have h3i : ((ps.length : Int) != (ss.length : Int)) = true := by rw [hne, h3]; rfl
          have HF := Lib.hid (show shOk p ps ss = false by simp [shOk, h3])
          clear hne h3 h1 h2
          go_enter Try.func76, Try.ntmps76
          go_wp2_with fail
          refine (l06Prime_any p _).mono ?_
          rw [hpr]
          rintro e w1 ⟨rfl, hb1⟩
          go_wp2_with fail
          refine (l06Numbers_any p hp1 hp2 _ ps _ _ _ (G.out.below hb1)).mono ?_
          rw [H1.out]
          rintro e w2 ⟨rfl, rfl⟩
          go_wp2_with fail
          refine (l06Numbers_any p hp1 hp2 _ ss _ _ _ (G2.out.below hb1)).mono ?_
          rw [H2.out]
          rintro e w2 ⟨rfl, rfl⟩
          go_wp2
          go_ret
          exact ⟨ret_bool HF.out.symm, hb1⟩
      · have h2 : nums p ss 1 8 = false := by simpa using h2
        have H2 := Lib.hid ((nums_prm (zs := ss) (lo := 1) (hi := 8) hpr).symm.trans h2)
        have HF := Lib.hid (show shOk p ps ss = false by simp [shOk, h2])
        clear h1 h2
        go_enter Try.func76, Try.ntmps76
        go_wp2_with fail
        refine (l06Prime_any p _).mono ?_
        rw [hpr]
        rintro e w1 ⟨rfl, hb1⟩
        go_wp2_with fail
        refine (l06Numbers_any p hp1 hp2 _ ps _ _ _ (G.out.below hb1)).mono ?_
        rw [H1.out]
        rintro e w2 ⟨rfl, rfl⟩
        go_wp2_with fail
        refine (l06Numbers_any p hp1 hp2 _ ss _ _ _ (G2.out.below hb1)).mono ?_
        rw [H2.out]
        rintro e w2 ⟨rfl, rfl⟩
        go_wp2
        go_ret
        exact ⟨ret_bool HF.out.symm, hb1⟩
    · have h1 : nums p ps 1 8 = false := by simpa using h1
      have H1 := Lib.hid ((nums_prm (zs := ps) (lo := 1) (hi := 8) hpr).symm.trans h1)
      have HF := Lib.hid (show shOk p ps ss = false by simp [shOk, h1])
      clear h1
      go_enter Try.func76, Try.ntmps76
      go_wp2_with fail
      refine (l06Prime_any p _).mono ?_
      rw [hpr]
      rintro e w1 ⟨rfl, hb1⟩
      go_wp2_with fail
      refine (l06Numbers_any p hp1 hp2 _ ps _ _ _ (G.out.below hb1)).mono ?_
      rw [H1.out]
      rintro e w2 ⟨rfl, rfl⟩
      go_wp2
      go_ret
      exact ⟨ret_bool HF.out.symm, hb1⟩
  · have hpr : prm p = false := by simpa using hpr
    have HF := Lib.hid (show shOk p ps ss = false by simp [shOk, nums, hpr])
    go_enter Try.func76, Try.ntmps76
    go_wp2_with fail
    refine (l06Prime_any p _).mono ?_
    rw [hpr]
    rintro e w1 ⟨rfl, hb1⟩
    go_wp2
    go_ret
    exact ⟨ret_bool HF.out.symm, hb1⟩
set_option maxHeartbeats 1000000 in
theorem implJs_any (p : Int) (vp : Value) (ps : List Int) (vs : Value) (ss : List Int) (w : World) (h : RI w vp ps) (h' : RI w vs ss) :
    Calls Try.prog 34 #[.int .i64 p, vp, vs] w fun e w' => e = .returned (.tuple #[.int .i64 (jsV p ps ss), .bool (shOk p ps ss)]) ∧ Below w.heap.size w w' := by
  obtain ⟨ao, cap, rfl⟩ := h.shape
  obtain ⟨aos, caps, rfl⟩ := h'.shape
  have G := Lib.hid h
  have G2 := Lib.hid h'
  by_cases hk : shOk p ps ss = true
  · obtain ⟨hp, hl, -, -, hps, hss, hd⟩ := shOk_parts hk
    have hb := prm_bd hp
    have HV := Lib.hid (show jsV p ps ss = thr p ps ss 0 by simp [jsV, hk])
    have hth := fun w' (hb1 : Below w.heap.size w w') => through_any p 0 hp (by omega) (by omega) _ _ ps ss hl hps hss w' (G.out.below hb1) (G2.out.below hb1)
    rw [hk]
    clear hl hps hss hd
    go_enter Try.func34, Try.ntmps34
    go_wp2_with fail
    refine (areShares_any p _ _ ps ss _ G.out G2.out).mono ?_
    rw [hk]
    rintro e w1 ⟨rfl, hb1⟩
    go_wp2_with fail
    refine (hth _ hb1).mono ?_
    rintro e w2 ⟨rfl, rfl⟩
    go_wp2
    go_ret2
    exact ⟨ret2 (vi HV.out.symm) rfl, hb1⟩
  · have hk : shOk p ps ss = false := by simpa using hk
    have HV := Lib.hid (show jsV p ps ss = 0 by simp [jsV, hk])
    rw [hk]
    go_enter Try.func34, Try.ntmps34
    go_wp2_with fail
    refine (areShares_any p _ _ ps ss _ G.out G2.out).mono ?_
    rw [hk]
    rintro e w1 ⟨rfl, hb1⟩
    go_wp2
    go_ret2
    exact ⟨ret2 (vi HV.out.symm) rfl, hb1⟩
set_option maxHeartbeats 1000000 in
theorem specJs_any (p : Int) (vp : Value) (ps : List Int) (vs : Value) (ss : List Int) (w : World) (h : RI w vp ps) (h' : RI w vs ss) :
    Calls Try.prog 33 #[.int .i64 p, vp, vs] w fun e w' => e = .returned (.tuple #[.int .i64 (jsV p ps ss), .bool (shOk p ps ss)]) ∧ Below w.heap.size w w' := by
  obtain ⟨ao, cap, rfl⟩ := h.shape
  obtain ⟨aos, caps, rfl⟩ := h'.shape
  have G := Lib.hid h
  have G2 := Lib.hid h'
  by_cases hk : shOk p ps ss = true
  · obtain ⟨hp, hl, -, -, hps, hss, hd⟩ := shOk_parts hk
    have hb := prm_bd hp
    have HV := Lib.hid (show jsV p ps ss = thr p ps ss 0 by simp [jsV, hk])
    have hth := fun w' (hb1 : Below w.heap.size w w') => l06Pass_any p 0 hp (by omega) (by omega) _ _ ps ss hl hps hss hd w' (G.out.below hb1) (G2.out.below hb1)
    rw [hk]
    clear hl hps hss hd
    go_enter Try.func33, Try.ntmps33
    go_wp2_with fail
    refine (l06Shares_any p _ _ ps ss _ G.out G2.out).mono ?_
    rw [hk]
    rintro e w1 ⟨rfl, hb1⟩
    go_wp2_with fail
    refine (hth _ hb1).mono ?_
    rintro e w2 ⟨rfl, n, rfl⟩
    go_wp2
    go_ret2
    exact ⟨ret2 (vi HV.out.symm) rfl, bnext hb1 (below_drewN _ n)⟩
  · have hk : shOk p ps ss = false := by simpa using hk
    have HV := Lib.hid (show jsV p ps ss = 0 by simp [jsV, hk])
    rw [hk]
    go_enter Try.func33, Try.ntmps33
    go_wp2_with fail
    refine (l06Shares_any p _ _ ps ss _ G.out G2.out).mono ?_
    rw [hk]
    rintro e w1 ⟨rfl, hb1⟩
    go_wp2
    go_ret2
    exact ⟨ret2 (vi HV.out.symm) rfl, hb1⟩
end Go.Proofs.Ytejabnjhnbminaa
