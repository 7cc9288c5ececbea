/- SlidText: the reference. No conditions but that the slice reads. -/
import Derived.Test.YtkjgplomdnhblaaSldP
import Derived.Test.YtkjgplomdnhblaaMem
import Derived.Handy
namespace Go.Proofs.Ytkjgplomdnhblaa
open Go.RowKit
set_option maxRecDepth 100000
set_option linter.unusedVariables false
set_option linter.unusedSimpArgs false

theorem tr_eq {zs : List Int} {k j : Nat} (h : 3 * k + j < zs.length) : tr zs k j = zs[3 * k + j] := by
  unfold tr; rw [List.getD_eq_getElem?_getD, List.getElem?_eq_getElem h]; rfl
theorem tr_eq0 {zs : List Int} {k : Nat} (h : 3 * k < zs.length) : tr zs k 0 = zs[3 * k] := by
  unfold tr; rw [Nat.add_zero, List.getD_eq_getElem?_getD, List.getElem?_eq_getElem h]; rfl
theorem own_at {B : Nat} {w : World} {v : Value} {zs : List Int} (h : OwnI B w v zs) (j : Nat) (hj : j < zs.length) : ∃ g cap, v = .slice (some ⟨g, 0, none⟩) zs.length cap ∧ B ≤ g ∧ g < w.heap.size ∧ w.cell? ⟨g, j, none⟩ = some (.int .i64 zs[j]) ∧ w.frozen? ⟨g, j, none⟩ = false := by
  rcases h.2 with ⟨_, h0⟩ | ⟨g, cap, cur, rfl, hb, hg, hn, hm, hs, ht⟩
  · omega
  · refine ⟨g, cap, rfl, hb, blk_lt hg, ?_, frozen_of_row _ _ _ _ _ hg⟩
    rw [cell_of_row _ _ _ _ _ _ hg]
    have e : (zs.map (Value.int .i64))[j]? = some (.int .i64 zs[j]) := by simp [hj]
    rw [← ht, List.getElem?_take_of_lt (by omega)] at e
    simpa using e
theorem sgStep_no {n : Int} {zs out : List Int} {k : Nat} (h : ¬ (okS out (tr zs k 0) (tr zs k 1) = true ∧ inB (tr zs k 2) 0 (n - 1) = true)) : sgStep n zs out k = none := by
  unfold sgStep sdStep
  rw [← okS_eq]
  by_cases h1 : inB (tr zs k 2) 0 (n - 1) = true
  · rw [if_pos h1, if_neg (fun h2 => h ⟨h2, h1⟩)]
  · rw [if_neg h1]
theorem sgStep_yes {n : Int} {zs out : List Int} {k : Nat} (h1 : okS out (tr zs k 0) (tr zs k 1) = true) (h2 : inB (tr zs k 2) 0 (n - 1) = true) :
    sgStep n zs out k = if (cpy (tr zs k 1).toNat (tr zs k 0).toNat out ++ [tr zs k 2]).length ≤ 64 then some (cpy (tr zs k 1).toNat (tr zs k 0).toNat out ++ [tr zs k 2]) else none := by
  unfold sgStep sdStep
  rw [if_pos h2, ← okS_eq, if_pos h1]
set_option maxHeartbeats 4000000 in
theorem specSd_any (v : Value) (zs : List Int) (n : Int) (w : World) (h : RI w v zs) :
    Calls Try.prog 6 #[v, .int .i64 n] w fun e w' => ∃ v', e = .returned (.tuple #[v', .bool (sdOk zs n)]) ∧ OI w.heap.size w' v' (sdZ zs n) ∧ Below w.heap.size w w' := by
  have hlen := h.len
  obtain ⟨ao, cap, rfl⟩ := h.shape
  have H := Lib.hid h
  have HI := Lib.hid h.1
  clear h
  by_cases hs : sgn n = true
  · by_cases hm : zs.length % 3 = 0
    · have hm3 : ((zs.length : Int).tmod 3 != 0) = false := by
        rw [Int.tmod_eq_emod_of_nonneg (by omega)]; simp; omega
      have hm4 : ((zs.length : Int) % 3 != 0) = false := by simp; omega
      have hok0 : sdOk0 zs n = true := by simp [sdOk0, hs, hm]
      have HE := Lib.hid (sg_eq zs n hok0)
      have hnn := inB_eq hs
      simp only [if_true] at hnn
      obtain ⟨hn2, hn16⟩ := hnn
      by_cases hl : zs.length ≤ 192
      · obtain ⟨q, hq⟩ : ∃ q, zs.length = 3 * q := ⟨zs.length / 3, by omega⟩
        have HO := Lib.hid (show sdO zs n = sgF n zs (List.range q) by rw [HE.out, if_pos hl, hq, Nat.mul_div_cancel_left _ (by decide)])
        have Hq := Lib.hid hq
        have hq64 : q ≤ 64 := by omega
        have hgt : decide ((192 : Int) < (zs.length : Int)) = false := decide_eq_false (by omega)
        have hgt2 : ¬ (192 : Nat) < zs.length := by omega
        clear hok0 hm hq
        go_enter Try.func6, Try.ntmps6
        go_wp2_with (go_at_call 16; refine (l05Letters_any _ _).mono ?_; rw [hs]; rintro e w' ⟨rfl, rfl⟩)
        go_loopw [6, 7] (fun o i wr => ∃ (k : Nat) (out : List Int), i = .int .i64 ((3 * k : Nat) : Int) ∧ k ≤ q ∧ sgF n zs (List.range k) = some out ∧ OwnI w.heap.size wr o out ∧ Below w.heap.size w wr) (fun _ i _ => zs.length - (intOf i).toNat)
        case atStart => exact ⟨0, [], rfl, Nat.zero_le _, rfl, own_empty w _ (Nat.le_refl _), by go_grown⟩
        case round =>
          obtain ⟨k, out, rfl, hk, hf, hown, hB⟩ := hrel
          obtain ⟨ao3, cap3, rfl⟩ := hown.shape
          have Hf := Lib.hid hf
          clear hf
          by_cases hkq : k < q
          · have hq0 := Hq.out
            obtain ⟨b0, o0, e0, -, hcs⟩ := H.out.2.cells (by omega)
            obtain rfl := e0
            have hc0 := cnext hB (hcs (3 * k) (by omega))
            have hc1 := cnext hB (hcs (3 * k + 1) (by omega))
            have hc2w := hcs (3 * k + 2) (by omega)
            have hc2 := cnext hB hc2w
            rw [← tr_eq0 (by omega)] at hc0
            rw [← tr_eq (by omega)] at hc1 hc2 hc2w
            have hb3 : 3 * k + 2 < zs.length := by omega
            have HN := Lib.hid (show ¬ (okS out (tr zs k 0) (tr zs k 1) = true ∧ inB (tr zs k 2) 0 (n - 1) = true) → sgF n zs (List.range q) = none from fun hno => sgF_none_le (show k + 1 ≤ q by omega) (by rw [List.range_succ, sgF_snoc, Hf.out]; exact sgStep_no hno))
            have HY := Lib.hid (show okS out (tr zs k 0) (tr zs k 1) = true → inB (tr zs k 2) 0 (n - 1) = true → sgF n zs (List.range (k + 1)) = if (cpy (tr zs k 1).toNat (tr zs k 0).toNat out ++ [tr zs k 2]).length ≤ 64 then some (cpy (tr zs k 1).toNat (tr zs k 0).toNat out ++ [tr zs k 2]) else none from fun h1 h2 => by rw [List.range_succ, sgF_snoc, Hf.out]; exact sgStep_yes h1 h2)
            have HQ := Lib.hid (show sgF n zs (List.range (k + 1)) = none → sgF n zs (List.range q) = none from fun hno => sgF_none_le (show k + 1 ≤ q by omega) hno)
            have H64 := Lib.hid (show out.length ≤ 64 by
              unfold sgF at Hf
              by_cases hk0 : k = 0
              · subst hk0; injection Hf.out with e; rw [← e]; simp
              · have := Hf.out
                rw [sgGo_eq n zs [] _ rfl] at this
                obtain ⟨r, hr, h2⟩ := Option.bind_eq_some_iff.1 this
                split at h2
                · injection h2 with h2; subst h2
                  exact (sdGo_len hr).2.1 (by intro e; have := congrArg List.length e; simp at this; omega)
                · cases h2)
            obtain ⟨a, ha⟩ : ∃ a, tr zs k 0 = a := ⟨_, rfl⟩
            obtain ⟨b, hb⟩ : ∃ b, tr zs k 1 = b := ⟨_, rfl⟩
            obtain ⟨c, hc⟩ : ∃ c, tr zs k 2 = c := ⟨_, rfl⟩
            rw [ha, hb, hc] at HN HY
            rw [ha] at hc0
            rw [hb] at hc1
            rw [hc] at hc2 hc2w
            have Hc2 := Lib.hid hc2w
            clear hc2w
            clear ha hb hc hq0 hcs
            have hlt3 : 3 * k < zs.length := by omega
            obtain ⟨ya, hva⟩ : ∃ ya, (a == 0) = ya := ⟨_, rfl⟩
            obtain ⟨yb, hvb⟩ : ∃ yb, (b == 0) = yb := ⟨_, rfl⟩
            by_cases hA : inB a 0 (out.length : Int) = true
            · by_cases hBb : inB b 0 64 = true
              · by_cases hE : ya = yb
                · subst hE
                  have hE' : (ya != ya) = false := by simp
                  by_cases hD : inB c 0 (n - 1) = true
                  · have hokS : okS out a b = true := by unfold okS; rw [hA, hBb, hva, hvb]; simp
                    have hB64 := inB_eq hBb
                    have hA64 := inB_eq hA
                    simp only [if_true] at hB64 hA64
                    obtain ⟨ld, rfl⟩ := Int.eq_ofNat_of_zero_le hB64.1
                    obtain ⟨fd, rfl⟩ := Int.eq_ofNat_of_zero_le hA64.1
                    have hld : ld ≤ 64 := by omega
                    have hfd : fd ≤ out.length := by omega
                    have hf1 : 0 < ld → 1 ≤ fd := by
                      intro h0
                      have e1 : (((ld : Nat) : Int) == 0) = false := by simp; omega
                      rw [e1] at hvb
                      rw [← hvb] at hva
                      have : ((fd : Nat) : Int) ≠ 0 := by simpa using hva
                      omega
                    have HY2 := Lib.hid (HY.out hokS hD)
                    have HF1 := Lib.hid hf1
                    have H64' := H64.out
                    clear hf1 HY HN hokS
                    go_wp2_with (first | (go_at_call 17; refine (l00In_any _ _ _ _).mono ?_; rintro e w' ⟨rfl, rfl⟩))
                    go_loopw [6, 10] (fun o j wr => ∃ (jn : Nat) (o' : List Int), j = .int .i64 jn ∧ jn ≤ ld ∧ cpy (ld - jn) fd o' = cpy ld fd out ∧ o'.length = out.length + jn ∧ OwnI w.heap.size wr o o' ∧ Below w.heap.size w wr) (fun _ j _ => ld - (intOf j).toNat)
                    case atStart => exact ⟨0, out, rfl, Nat.zero_le _, rfl, rfl, hown, hB⟩
                    case round =>
                      clear hown hB hc0 hc1 hc2
                      obtain ⟨jn, o', rfl, hj, hcp, hol, hown, hB⟩ := hrel
                      obtain ⟨ao4, cap4, rfl⟩ := hown.shape
                      have Hcp := Lib.hid hcp
                      have Hol := Lib.hid hol
                      clear hcp
                      have hws : w.heap.size ≤ wr.heap.size := hB.size
                      by_cases hjl : jn < ld
                      · have hfd1 := HF1.out (by omega)
                        obtain ⟨g4, cap5, e4, -, -, hco, -⟩ := own_at hown (o'.length - fd) (by omega)
                        simp only [Value.slice.injEq] at e4
                        obtain ⟨rfl, -, rfl⟩ := e4
                        have Hcp2 := Lib.hid (show cpy (ld - (jn + 1)) fd (o' ++ [o'[o'.length - fd]]) = cpy ld fd out by
                          rw [← Hcp.out, show ld - jn = (ld - (jn + 1)) + 1 by omega, cpy, List.getD_eq_getElem?_getD, List.getElem?_eq_getElem (by omega)]; rfl)
                        have hsub : ((o'.length : Nat) : Int) - ((fd : Nat) : Int) = ((o'.length - fd : Nat) : Int) := by omega
                        obtain ⟨sb, hsb⟩ : ∃ sb, o'.length - fd = sb := ⟨_, rfl⟩
                        have hsl : (sb : Int) < (o'.length : Int) := by omega
                        simp only [hsb] at hco Hcp2 hsub
                        generalize o'[sb]'(by omega) = x at hco Hcp2
                        have hol128 : o'.length ≤ 128 := by omega
                        have hsb128 : sb ≤ 128 := by omega
                        clear hol hsb
                        go_wp2_with (at_builtin; go_must (refine app_ints rfl _ _ rfl w.heap.size w.heap.size (Nat.le_refl _) (.slice (some ⟨g4, 0, none⟩) o'.length cap4) o' rfl hown hB _ _ [x] rfl rfl (by have := Hol.out; simp; omega) hws ?_))
                        intro v6 w6 hown6 hB6 hg6
                        clear hown hB hco
                        go_wp2
                        go_roundw
                        case rel => exact ⟨jn + 1, o' ++ [x], by go_num, by omega, Hcp2.out, by rw [List.length_append, Hol.out]; rfl, hown6, hB6⟩
                        case measure => simp [intOf] <;> omega
                      · have hjl2 : jn = ld := by omega
                        have ho' : o' = cpy ld fd out := by rw [← Hcp.out, hjl2, Nat.sub_self]; rfl
                        have Ho' := Lib.hid ho'
                        have hlo : o'.length ≤ 128 := by omega
                        clear hjl2 ho' hol
                        have hc2 := cnext hB (Hc2.out)
                        have HY3 := Lib.hid (show sgF n zs (List.range (k + 1)) = if (o' ++ [c]).length ≤ 64 then some (o' ++ [c]) else none by rw [HY2.out, Int.toNat_natCast, Int.toNat_natCast, Ho'.out])
                        go_wp2_with (at_builtin; go_must (refine app_ints rfl _ _ rfl w.heap.size w.heap.size (Nat.le_refl _) (.slice ao4 o'.length cap4) o' rfl hown hB _ _ [c] rfl rfl (by simp; omega) hws ?_))
                        intro v6 w6 hown6 hB6 hg6
                        clear hown hB hc2
                        obtain ⟨ao6, cap6, rfl⟩ := hown6.shape
                        by_cases h65 : (o' ++ [c]).length ≤ 64
                        · have HY4 := Lib.hid (show sgF n zs (List.range (k + 1)) = some (o' ++ [c]) by rw [HY3.out, if_pos h65])
                          have Hl2 := Lib.hid (show (o' ++ [c]).length = o'.length + 1 by simp)
                          generalize o' ++ [c] = o2 at *
                          have hnl : ¬ (64 : Int) < (o2.length : Int) := by omega
                          have hnl2 : ¬ 64 < o2.length := by omega
                          go_wp2
                          go_roundw
                          case rel => exact ⟨k + 1, o2, by first | exact vi (by omega) | go_num, by omega, HY4.out, hown6, hB6⟩
                          case measure => simp [intOf] <;> omega
                        · have HNo := Lib.hid (sd_none (HO.out.trans (HQ.out (by rw [HY3.out, if_neg h65]))))
                          have hnl : (64 : Int) < ((o' ++ [c]).length : Int) := by omega
                          have hnl2 : 64 < (o' ++ [c]).length := by omega
                          generalize o' ++ [c] = o2 at *
                          go_wp2
                          go_ret2
                          exact ⟨_, ret2 rfl (vb HNo.out.2.symm), by rw [HNo.out.1]; exact OI.nil _ _, hB6⟩
                  · have hD : inB c 0 (n - 1) = false := by simpa using hD
                    have HNo := Lib.hid (sd_none (HO.out.trans (HN.out (fun hh => by rw [hD] at hh; cases hh.2))))
                    skip
                    go_wp2_with (first | (go_at_call 17; refine (l00In_any _ _ _ _).mono ?_; rintro e w' ⟨rfl, rfl⟩))
                    go_ret2
                    exact ⟨_, ret2 rfl (vb HNo.out.2.symm), by rw [HNo.out.1]; exact OI.nil _ _, hB⟩
                · have hE' : (ya != yb) = true := by simpa using hE
                  have HNo := Lib.hid (sd_none (HO.out.trans (HN.out (fun hh => by have h1 := hh.1; unfold okS at h1; rw [hva, hvb] at h1; simp only [Bool.and_eq_true, beq_iff_eq] at h1; exact hE h1.2.2))))
                  skip
                  go_wp2_with (first | (go_at_call 17; refine (l00In_any _ _ _ _).mono ?_; rintro e w' ⟨rfl, rfl⟩))
                  go_ret2
                  exact ⟨_, ret2 rfl (vb HNo.out.2.symm), by rw [HNo.out.1]; exact OI.nil _ _, hB⟩
              · have hBb : inB b 0 64 = false := by simpa using hBb
                have HNo := Lib.hid (sd_none (HO.out.trans (HN.out (fun hh => by have h1 := hh.1; unfold okS at h1; rw [hBb] at h1; simp at h1))))
                skip
                go_wp2_with (first | (go_at_call 17; refine (l00In_any _ _ _ _).mono ?_; rintro e w' ⟨rfl, rfl⟩))
                go_ret2
                exact ⟨_, ret2 rfl (vb HNo.out.2.symm), by rw [HNo.out.1]; exact OI.nil _ _, hB⟩
            · have hA : inB a 0 (out.length : Int) = false := by simpa using hA
              have HNo := Lib.hid (sd_none (HO.out.trans (HN.out (fun hh => by have h1 := hh.1; unfold okS at h1; rw [hA] at h1; simp at h1))))
              skip
              go_wp2_with (first | (go_at_call 17; refine (l00In_any _ _ _ _).mono ?_; rintro e w' ⟨rfl, rfl⟩))
              go_ret2
              exact ⟨_, ret2 rfl (vb HNo.out.2.symm), by rw [HNo.out.1]; exact OI.nil _ _, hB⟩
          · have hkq2 : k = q := by omega
            subst hkq2
            have hO := HO.out.trans Hf.out
            have HZ := Lib.hid (sd_some hO)
            have Hoi := Lib.hid (hown.oi (sd_i64 HI.out hO))
            have hq0 := Hq.out
            have hge : ¬ 3 * k < zs.length := by omega
            clear hO hq0
            go_wp2
            go_ret2
            exact ⟨_, ret2 rfl (vb HZ.out.2.symm), by rw [HZ.out.1]; exact Hoi.out, hB⟩
      · have HNo := Lib.hid (sd_none (zs := zs) (n := n) (by rw [HE.out, if_neg hl]))
        have hgt : decide ((192 : Int) < (zs.length : Int)) = true := decide_eq_true (by omega)
        have hgt2 : (192 : Nat) < zs.length := by omega
        clear hok0 hm
        go_enter Try.func6, Try.ntmps6
        go_wp2_with (go_at_call 16; refine (l05Letters_any _ _).mono ?_; rw [hs]; rintro e w' ⟨rfl, rfl⟩)
        go_ret2
        exact ⟨_, ret2 rfl (vb HNo.out.2.symm), by rw [HNo.out.1]; exact OI.nil _ _, Below.refl _ _⟩
    · have hm3 : ((zs.length : Int).tmod 3 != 0) = true := by
        rw [Int.tmod_eq_emod_of_nonneg (by omega)]; simp; omega
      have hm4 : ((zs.length : Int) % 3 != 0) = true := by simp; omega
      have HNo := Lib.hid (sd_none (zs := zs) (n := n) (by unfold sdO; rw [if_neg]; simp [sdOk0, hm]))
      clear hm
      go_enter Try.func6, Try.ntmps6
      go_wp2_with (go_at_call 16; refine (l05Letters_any _ _).mono ?_; rw [hs]; rintro e w' ⟨rfl, rfl⟩)
      go_ret2
      exact ⟨_, ret2 rfl (vb HNo.out.2.symm), by rw [HNo.out.1]; exact OI.nil _ _, Below.refl _ _⟩
  · have hs : sgn n = false := by simpa using hs
    have HNo := Lib.hid (sd_none (zs := zs) (n := n) (by unfold sdO; rw [if_neg]; simp [sdOk0, hs]))
    go_enter Try.func6, Try.ntmps6
    go_wp2_with (go_at_call 16; refine (l05Letters_any _ _).mono ?_; rw [hs]; rintro e w' ⟨rfl, rfl⟩)
    go_ret2
    exact ⟨_, ret2 rfl (vb HNo.out.2.symm), by rw [HNo.out.1]; exact OI.nil _ _, Below.refl _ _⟩
end Go.Proofs.Ytkjgplomdnhblaa
