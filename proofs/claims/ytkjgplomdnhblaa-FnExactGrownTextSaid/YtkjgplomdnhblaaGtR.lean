/- Grown text, in the reference: GrownText. No conditions but that the slices read. -/
import Derived.Test.YtkjgplomdnhblaaGtP
import Derived.Test.YtkjgplomdnhblaaGrR
import Derived.Test.YtkjgplomdnhblaaGrS
namespace Go.Proofs.Ytkjgplomdnhblaa
open Go.RowKit
set_option maxRecDepth 100000
set_option linter.unusedVariables false
set_option linter.unusedSimpArgs false

theorem ints_cells {w : World} {ao : Option Addr} {cap : Nat} {zs : List Int} (h : RI w (.slice ao zs.length cap) zs) : zs.length ≤ cap ∧ cap ≤ maxLen := by
  obtain ⟨_, ao', cap', e0, h1, h2, _⟩ := h
  simp only [Value.slice.injEq, true_and] at e0
  obtain ⟨rfl, rfl⟩ := e0
  exact ⟨h1, h2⟩
theorem gq_i64 {zs : List Int} (h : AllI64 zs) (k j : Nat) (hk : 2 * k + j < zs.length) : I64 (gq zs k j) := by
  rw [gq_eq hk]; exact h _ (List.getElem_mem _)
set_option maxHeartbeats 4000000 in
theorem specGt_any (v : Value) (zs : List Int) (n : Int) (w : World) (h : RI w v zs) :
    Calls Try.prog 14 #[v, .int .i64 n] w fun e w' => ∃ v', e = .returned (.tuple #[v', .bool (gtOk zs n)]) ∧ OI w.heap.size w' v' (gtZ zs n) ∧ Below w.heap.size w w' := by
  have hlen := h.len
  obtain ⟨ao, cap, rfl⟩ := h.shape
  have H := Lib.hid h
  have HI := Lib.hid h.1
  clear h
  by_cases hs : sgn n = true
  · by_cases hm : zs.length % 2 = 0
    · have hm3 : ((zs.length : Int).tmod 2 != 0) = false := by
        rw [Int.tmod_eq_emod_of_nonneg (by omega)]; simp; omega
      have hm4 : ((zs.length : Int) % 2 != 0) = false := by simp; omega
      have hnn := inB_eq hs
      simp only [if_true] at hnn
      obtain ⟨hn2, hn16⟩ := hnn
      by_cases hl : zs.length ≤ 128
      · obtain ⟨q, hq⟩ : ∃ q, zs.length = 2 * q := ⟨zs.length / 2, by omega⟩
        have HO := Lib.hid (show gtO zs n = (gsF n zs (List.range q)).bind fun r => if eqL (grF r.2 [[]] [] 0) zs = true then some r.2 else none by rw [gt_eq zs n (by simp [gtOk0, hs, hm, hl]), hq, Nat.mul_div_cancel_left _ (by decide)])
        have Hq := Lib.hid hq
        have hq64 : q ≤ 64 := by omega
        have hgt : decide ((128 : Int) < (zs.length : Int)) = false := decide_eq_false (by omega)
        have hgt2 : ¬ (128 : Nat) < zs.length := by omega
        have hB0 : Below w.heap.size w (((w.alloc (.cells #[] 2)).alloc (.cells #[.slice (some ⟨w.heap.size, 0, none⟩) 0 0] 22)).alloc (.cells #[] 2)) := by go_grown
        have hst0 : WdS noF w.heap.size (((w.alloc (.cells #[] 2)).alloc (.cells #[.slice (some ⟨w.heap.size, 0, none⟩) 0 0] 22)).alloc (.cells #[] 2)) (.slice (some ⟨w.heap.size + 1, 0, none⟩) 1 1) (.slice (some ⟨w.heap.size + 1 + 1, 0, none⟩) 0 0) [(.slice (some ⟨w.heap.size, 0, none⟩) 0 0, [])] [] := wds0 w
        clear hm hq
        go_enter Try.func14, Try.ntmps14
        go_wp2_with (go_at_call 16; refine (l05Letters_any _ _).mono ?_; rw [hs]; rintro e w' ⟨rfl, rfl⟩)
        generalize ((w.alloc (.cells #[] 2)).alloc (.cells #[.slice (some ⟨w.heap.size, 0, none⟩) 0 0] 22)).alloc (.cells #[] 2) = W3 at *
        go_loopg [6, 7, 8] q (fun (f : Nat) vw vo iv wr => ∃ (k : Nat) (ws : List (Value × List Int)) (out : List Int), f = q - k ∧ iv = .int .i64 ((2 * k : Nat) : Int) ∧ k ≤ q ∧ gsF n zs (List.range k) = some (ws.map Prod.snd, out) ∧ ws.length = k + 1 ∧ (∀ p ∈ ws, p.2.length ≤ k) ∧ out.length ≤ 64 ∧ AllI64 out ∧ WdS noF w.heap.size wr vw vo ws out ∧ Below w.heap.size w wr)
        case atStart => exact ⟨0, _, [], by omega, by rfl, Nat.zero_le _, by rfl, by rfl, (fun p hp => by obtain rfl := List.mem_singleton.1 hp; exact Nat.le_refl _), by simp, (fun z hz => by cases hz), hst0, hB0⟩
        case round =>
          clear hst0 hB0
          obtain ⟨k, ws, out, hfk, rfl, hk, hf, hwl, hpl, hol, ho64, hst, hB⟩ := hrel
          obtain ⟨aoo, capo, rfl⟩ := hst.o.shape
          obtain ⟨aow, capw, rfl⟩ := hst.hd.shape
          have Hf := Lib.hid hf
          have hwlA : ws.length ≤ k + 1 := by omega
          have hwlB : k + 1 ≤ ws.length := by omega
          clear hwl
          have Hpl := Lib.hid hpl
          have Ho64 := Lib.hid ho64
          have Hst := Lib.hid hst
          have HB := Lib.hid hB
          clear hf hpl ho64
          by_cases hkq : k < q
          · have hq0 := Hq.out
            obtain ⟨b0, o0, e0, -, hcs⟩ := H.out.2.cells (by omega)
            obtain rfl := e0
            have hc1w := hcs (2 * k + 1) (by omega)
            have hc0 := cnext hB (hcs (2 * k) (by omega))
            have hc1 := cnext hB hc1w
            rw [← gq_eq0 (by omega)] at hc0
            rw [← gq_eq (by omega)] at hc1 hc1w
            have hb2 : 2 * k + 1 < zs.length := by omega
            have hb20 : 2 * k < zs.length := by omega
            have HQ := Lib.hid (show gsF n zs (List.range (k + 1)) = none → gsF n zs (List.range q) = none from fun hno => gsF_none_le (show k + 1 ≤ q by omega) hno)
            have HStep := Lib.hid (show gsF n zs (List.range (k + 1)) = gsStep n zs (ws.map Prod.snd, out) k by rw [List.range_succ, gsF_snoc, Hf.out]; rfl)
            have hx64 := gq_i64 HI.out k 1 hb2
            have HA0 := Lib.hid (show ¬ (inB (gq zs k 0) 0 ((ws.length : Int) - 1) = true ∧ inB (gq zs k 1) (-1) (n - 1) = true) → gtZ zs n = [] ∧ gtOk zs n = false from fun hno => gt_none (by rw [HO.out, HQ.out (by rw [HStep.out, gsStep, if_neg (fun hh => hno ⟨by have := hh.1; simpa using this, hh.2.1⟩)])]; rfl))
            have HA := Lib.hid (show inB (gq zs k 0) 0 ((ws.length : Int) - 1) = true → inB (gq zs k 0) 0 (((ws.map Prod.snd).length : Int) - 1) = true from fun h => by simpa using h)
            have Hnx0 := Lib.hid (show ∀ (p : Nat) (word : List Int), (ws[p]?).map Prod.snd = some word → gq zs k 0 = (p : Int) → nxt (ws.map Prod.snd) (gq zs k 0) (gq zs k 1) = if gq zs k 1 = -1 then word else word ++ [gq zs k 1] from fun p word hp he => by
              have hw : wordAt (ws.map Prod.snd) (gq zs k 0) = word := by
                unfold wordAt; rw [he, Int.toNat_natCast, List.getElem?_map, hp]; rfl
              unfold nxt; rw [hw])
            obtain ⟨a, ha⟩ : ∃ a, gq zs k 0 = a := ⟨_, rfl⟩
            obtain ⟨x, hx⟩ : ∃ x, gq zs k 1 = x := ⟨_, rfl⟩
            have Ha := Lib.hid ha
            have Hx := Lib.hid hx
            rw [ha] at hc0
            rw [hx] at hc1 hc1w hx64
            rw [ha, hx] at HA0 Hnx0
            rw [ha] at HA
            clear ha hx hq0 hcs
            by_cases hA : inB a 0 ((ws.length : Int) - 1) = true
            · by_cases hX : inB x (-1) (n - 1) = true
              · have hAA := inB_eq hA
                have hXX := inB_eq hX
                simp only [if_true] at hAA hXX
                obtain ⟨p, rfl⟩ := Int.eq_ofNat_of_zero_le hAA.1
                have hpw : p < ws.length := by omega
                have hpI : (p : Int) < (ws.length : Int) := by omega
                obtain ⟨gw, _, e, hcw⟩ := hst.hd.at p hpw
                simp only [Value.slice.injEq, true_and] at e
                obtain ⟨rfl, rfl⟩ := e
                have hri := hst.rd _ (List.getElem_mem hpw)
                have hwl2 := Hpl.out _ (List.getElem_mem hpw)
                have Hnx1 := Lib.hid (Hnx0.out p ws[p].2 (by rw [List.getElem?_eq_getElem hpw]; rfl) rfl)
                have HA2 := Lib.hid (HA.out hA)
                have HX2 := Lib.hid hX
                clear HA0 Hnx0
                generalize ws[p] = pw at *
                obtain ⟨wv, word⟩ := pw
                replace hcw : wr.cell? ⟨gw, p, none⟩ = some wv := hcw
                replace hri : RI wr wv word := hri
                replace hwl2 : word.length ≤ k := hwl2
                have Hri := Lib.hid hri
                have HE := Lib.hid (show OwnI wr.heap.size (wr.alloc (.cells #[] 2)) (.slice (some ⟨wr.heap.size, 0, none⟩) 0 0) [] from own_empty wr _ (Nat.le_refl _))
                have hBE : Below wr.heap.size wr (wr.alloc (.cells #[] 2)) := by go_grown
                have HriE := Lib.hid (hri.below hBE).2
                have hsE := hBE.size
                have hc0E := cnext hBE hc0
                have hcwE := cnext hBE hcw
                clear hri hst hB
                go_wp2_with (first
                  | (go_at_call 17; refine (l00In_any _ _ _ _).mono ?_; rintro e w' ⟨rfl, rfl⟩)
                  | (at_builtin; go_must (refine app_src_at rfl _ _ rfl wr.heap.size wr.heap.size (Nat.le_refl _) (.slice (some ⟨wr.heap.size, 0, none⟩) 0 0) [] rfl HE.out hBE word _ rfl HriE.out (by simp; omega) hsE ?_)))
                intro v2 w2 hown2 hB2 hg2 hat2
                clear hg2 hat2
                have hc1 := cnext hB2 hc1
                by_cases hx1 : x = -1
                · have hxn : ¬ (0 : Int) ≤ x := by omega
                  have Hnxt := Lib.hid (show nxt (ws.map Prod.snd) (gq zs k 0) (gq zs k 1) = word by rw [Ha.out, Hx.out, Hnx1.out, if_pos hx1])
                  have HX := Lib.hid (show inB (gq zs k 1) (-1) (n - 1) = true by rw [Hx.out]; exact HX2.out)
                  have HA := Lib.hid (show inB (gq zs k 0) 0 (((ws.map Prod.snd).length : Int) - 1) = true by rw [Ha.out]; exact HA2.out)
                  have Hn64 := Lib.hid Hri.out.1
                  have Hnl := Lib.hid (show word.length ≤ k + 1 by omega)
                  obtain ⟨nv, rfl⟩ : ∃ nv, nv = v2 := ⟨_, rfl⟩
                  have hownn := hown2
                  have hBn := hB2
                  obtain ⟨w3, rfl⟩ : ∃ w3, w3 = w2 := ⟨_, rfl⟩
                  clear hx1
                  have hst3 := Hst.out.below hBn
                  have hB3 := bnext HB.out hBn
                  have hszn := hBn.size
                  have Hnew := Lib.hid (show ∀ k, nv.ownBlock = some k → k < w3.heap.size ∧ (Value.slice (some ⟨gw, 0, none⟩) ws.length capw).ownBlock ≠ some k ∧ (Value.slice aoo out.length capo).ownBlock ≠ some k ∧ ¬ noF k from fun k hk => by
                    have h1 := hownn.lt k hk
                    refine ⟨h1.2, fun e => ?_, fun e => ?_, id⟩
                    · have := (World.ownsRow.lt Hst.out.hd k e).2; omega
                    · have := (Hst.out.o.lt k e).2; omega)
                  have Hrn := Lib.hid (hownn.oi Hn64.out).ri
                  have Hst3 := Lib.hid hst3
                  obtain ⟨aon, capn, rfl⟩ := hownn.shape
                  have hszw := hB3.size
                  have hcz1 := cnext hB3 hc1w
                  clear hst3 hownn hBn hc0 hc1 hcw
                  generalize hNX : word = nx at *
                  have HNX := Lib.hid hNX
                  clear hNX
                  have hnl : nx.length ≤ 65 := by have := Hnl.out; omega
                  go_wp2_with (at_builtin; go_must (refine app_row_at rfl _ _ rfl w.heap.size w.heap.size (Nat.le_refl _) (.slice (some ⟨gw, 0, none⟩) ws.length capw) ws rfl Hst3.out.hd hB3 _ _ (Value.slice aon nx.length capn, nx) rfl rfl rfl (by omega) hszw ?_))
                  intro v5 w5 hown5 hB5 hg5 hat5
                  have hst5 := Hst3.out.pushW (p := (Value.slice aon nx.length capn, nx)) Hrn.out Hnew.out hown5 hg5 hat5
                  have Hwl5 := Lib.hid (show (ws ++ [(Value.slice aon nx.length capn, nx)]).length = ws.length + 1 by simp)
                  have Hws5 := Lib.hid (show (ws ++ [(Value.slice aon nx.length capn, nx)]).map Prod.snd = ws.map Prod.snd ++ [nx] by simp)
                  have Hpl5 := Lib.hid (show ∀ p ∈ ws ++ [(Value.slice aon nx.length capn, nx)], p.2.length ≤ k + 1 from fun p hp => by
                    rcases List.mem_append.1 hp with hp | hp
                    · have := Hpl.out p hp; omega
                    · obtain rfl := List.mem_singleton.1 hp; exact Hnl.out)
                  have Hr5 := Lib.hid (hst5.rd _ (List.mem_append_right _ (List.mem_singleton.2 rfl))).2
                  have hsz5 := hB5.size
                  obtain ⟨aw5, cw5, rfl⟩ := hown5.shape
                  clear hown5 hg5 hat5 hszw hB3 Hst3 hcz1
                  generalize ws ++ [(Value.slice aon nx.length capn, nx)] = ws5 at *
                  have Hst5 := Lib.hid hst5
                  clear hst5
                  go_wp2_with (at_builtin; go_must (refine app_src_at rfl _ _ rfl w.heap.size w.heap.size (Nat.le_refl _) (.slice aoo out.length capo) out rfl Hst5.out.o hB5 nx _ rfl Hr5.out (by omega) hsz5 ?_))
                  intro v6 w6 hown6 hB6 hg6 hat6
                  have hst6 := Hst5.out.grow hown6 hg6 hat6
                  have Ho6 := Lib.hid (show AllI64 (out ++ nx) from fun z hz => by rcases List.mem_append.1 hz with hz | hz; exact Ho64.out z hz; exact Hn64.out z hz)
                  have Hq6 := Lib.hid (show (out ++ nx).length ≤ 64 → gsF n zs (List.range (k + 1)) = some (ws5.map Prod.snd, out ++ nx) from fun h => by
                    rw [List.range_succ, gsF_snoc, Hf.out, Hws5.out]
                    exact (if_pos ⟨HA.out, HX.out, by rw [Hnxt.out]; exact h⟩).trans (by rw [Hnxt.out]))
                  have HN6 := Lib.hid (show ¬ (out ++ nx).length ≤ 64 → gsF n zs (List.range (k + 1)) = none from fun h => by
                    rw [List.range_succ, gsF_snoc, Hf.out]
                    exact if_neg (fun hh => h (by have := hh.2.2; rw [Hnxt.out] at this; exact this)))
                  obtain ⟨ao6, cap6, rfl⟩ := hown6.shape
                  have Hst6 := Lib.hid hst6
                  clear hst6 hown6 hg6 hat6 Hst5
                  generalize out ++ nx = out6 at *
                  by_cases hl6 : out6.length ≤ 64
                  · have hng : ¬ (64 : Int) < (out6.length : Int) := by omega
                    have hng2 : ¬ 64 < out6.length := by omega
                    go_wp2
                    go_roundg (gk - 1)
                    case rel => exact ⟨k + 1, ws5, out6, by omega, by first | (go_num; done) | exact vi (by omega), by omega, Hq6.out hl6, by rw [Hwl5.out]; omega, Hpl5.out, hl6, Ho6.out, Hst6.out, hB6⟩
                    case measure => omega
                  · have hng : (64 : Int) < (out6.length : Int) := by omega
                    have hng2 : 64 < out6.length := by omega
                    have HNo := Lib.hid (gt_none (zs := zs) (n := n) (by rw [HO.out, HQ.out (HN6.out hl6)]; rfl))
                    go_wp2
                    go_ret2
                    exact ⟨_, ret2 rfl (vb HNo.out.2.symm), by rw [HNo.out.1]; exact OI.nil _ _, hB6⟩
                · have hxn : (0 : Int) ≤ x := by omega
                  have Hnxt := Lib.hid (show nxt (ws.map Prod.snd) (gq zs k 0) (gq zs k 1) = word ++ [x] by rw [Ha.out, Hx.out, Hnx1.out, if_neg hx1])
                  have HX := Lib.hid (show inB (gq zs k 1) (-1) (n - 1) = true by rw [Hx.out]; exact HX2.out)
                  have HA := Lib.hid (show inB (gq zs k 0) 0 (((ws.map Prod.snd).length : Int) - 1) = true by rw [Ha.out]; exact HA2.out)
                  have Hn64 := Lib.hid (show AllI64 (word ++ [x]) from fun z hz => by rcases List.mem_append.1 hz with hz | hz; exact Hri.out.1 z hz; obtain rfl := List.mem_singleton.1 hz; exact hx64)
                  have Hnl := Lib.hid (show (word ++ [x]).length ≤ k + 1 by simp; omega)
                  have hs2 := hB2.size
                  obtain ⟨ao2, cap2, rfl⟩ := hown2.shape
                  clear hx1
                  go_wp2_with (at_builtin; go_must (refine app_ints rfl _ _ rfl wr.heap.size wr.heap.size (Nat.le_refl _) (.slice ao2 word.length cap2) word rfl hown2 hB2 _ _ [x] rfl rfl (by simp; omega) hs2 ?_))
                  intro nv w3 hownn hBn hgn
                  clear hown2 hB2 hgn hs2
                  have hst3 := Hst.out.below hBn
                  have hB3 := bnext HB.out hBn
                  have hszn := hBn.size
                  have Hnew := Lib.hid (show ∀ k, nv.ownBlock = some k → k < w3.heap.size ∧ (Value.slice (some ⟨gw, 0, none⟩) ws.length capw).ownBlock ≠ some k ∧ (Value.slice aoo out.length capo).ownBlock ≠ some k ∧ ¬ noF k from fun k hk => by
                    have h1 := hownn.lt k hk
                    refine ⟨h1.2, fun e => ?_, fun e => ?_, id⟩
                    · have := (World.ownsRow.lt Hst.out.hd k e).2; omega
                    · have := (Hst.out.o.lt k e).2; omega)
                  have Hrn := Lib.hid (hownn.oi Hn64.out).ri
                  have Hst3 := Lib.hid hst3
                  obtain ⟨aon, capn, rfl⟩ := hownn.shape
                  have hszw := hB3.size
                  have hcz1 := cnext hB3 hc1w
                  clear hst3 hownn hBn hc0 hc1 hcw
                  generalize hNX : word ++ [x] = nx at *
                  have HNX := Lib.hid hNX
                  clear hNX
                  have hnl : nx.length ≤ 65 := by have := Hnl.out; omega
                  go_wp2_with (at_builtin; go_must (refine app_row_at rfl _ _ rfl w.heap.size w.heap.size (Nat.le_refl _) (.slice (some ⟨gw, 0, none⟩) ws.length capw) ws rfl Hst3.out.hd hB3 _ _ (Value.slice aon nx.length capn, nx) rfl rfl rfl (by omega) hszw ?_))
                  intro v5 w5 hown5 hB5 hg5 hat5
                  have hst5 := Hst3.out.pushW (p := (Value.slice aon nx.length capn, nx)) Hrn.out Hnew.out hown5 hg5 hat5
                  have Hwl5 := Lib.hid (show (ws ++ [(Value.slice aon nx.length capn, nx)]).length = ws.length + 1 by simp)
                  have Hws5 := Lib.hid (show (ws ++ [(Value.slice aon nx.length capn, nx)]).map Prod.snd = ws.map Prod.snd ++ [nx] by simp)
                  have Hpl5 := Lib.hid (show ∀ p ∈ ws ++ [(Value.slice aon nx.length capn, nx)], p.2.length ≤ k + 1 from fun p hp => by
                    rcases List.mem_append.1 hp with hp | hp
                    · have := Hpl.out p hp; omega
                    · obtain rfl := List.mem_singleton.1 hp; exact Hnl.out)
                  have Hr5 := Lib.hid (hst5.rd _ (List.mem_append_right _ (List.mem_singleton.2 rfl))).2
                  have hsz5 := hB5.size
                  obtain ⟨aw5, cw5, rfl⟩ := hown5.shape
                  clear hown5 hg5 hat5 hszw hB3 Hst3 hcz1
                  generalize ws ++ [(Value.slice aon nx.length capn, nx)] = ws5 at *
                  have Hst5 := Lib.hid hst5
                  clear hst5
                  go_wp2_with (at_builtin; go_must (refine app_src_at rfl _ _ rfl w.heap.size w.heap.size (Nat.le_refl _) (.slice aoo out.length capo) out rfl Hst5.out.o hB5 nx _ rfl Hr5.out (by omega) hsz5 ?_))
                  intro v6 w6 hown6 hB6 hg6 hat6
                  have hst6 := Hst5.out.grow hown6 hg6 hat6
                  have Ho6 := Lib.hid (show AllI64 (out ++ nx) from fun z hz => by rcases List.mem_append.1 hz with hz | hz; exact Ho64.out z hz; exact Hn64.out z hz)
                  have Hq6 := Lib.hid (show (out ++ nx).length ≤ 64 → gsF n zs (List.range (k + 1)) = some (ws5.map Prod.snd, out ++ nx) from fun h => by
                    rw [List.range_succ, gsF_snoc, Hf.out, Hws5.out]
                    exact (if_pos ⟨HA.out, HX.out, by rw [Hnxt.out]; exact h⟩).trans (by rw [Hnxt.out]))
                  have HN6 := Lib.hid (show ¬ (out ++ nx).length ≤ 64 → gsF n zs (List.range (k + 1)) = none from fun h => by
                    rw [List.range_succ, gsF_snoc, Hf.out]
                    exact if_neg (fun hh => h (by have := hh.2.2; rw [Hnxt.out] at this; exact this)))
                  obtain ⟨ao6, cap6, rfl⟩ := hown6.shape
                  have Hst6 := Lib.hid hst6
                  clear hst6 hown6 hg6 hat6 Hst5
                  generalize out ++ nx = out6 at *
                  by_cases hl6 : out6.length ≤ 64
                  · have hng : ¬ (64 : Int) < (out6.length : Int) := by omega
                    have hng2 : ¬ 64 < out6.length := by omega
                    go_wp2
                    go_roundg (gk - 1)
                    case rel => exact ⟨k + 1, ws5, out6, by omega, by first | (go_num; done) | exact vi (by omega), by omega, Hq6.out hl6, by rw [Hwl5.out]; omega, Hpl5.out, hl6, Ho6.out, Hst6.out, hB6⟩
                    case measure => omega
                  · have hng : (64 : Int) < (out6.length : Int) := by omega
                    have hng2 : 64 < out6.length := by omega
                    have HNo := Lib.hid (gt_none (zs := zs) (n := n) (by rw [HO.out, HQ.out (HN6.out hl6)]; rfl))
                    go_wp2
                    go_ret2
                    exact ⟨_, ret2 rfl (vb HNo.out.2.symm), by rw [HNo.out.1]; exact OI.nil _ _, hB6⟩
              · have hX : inB x (-1) (n - 1) = false := by simpa using hX
                have HNo := Lib.hid (HA0.out (fun hh => by rw [hX] at hh; exact absurd hh.2 (by decide)))
                clear hst hB
                go_wp2_with (first | (go_at_call 17; refine (l00In_any _ _ _ _).mono ?_; rintro e w' ⟨rfl, rfl⟩))
                go_ret2
                exact ⟨_, ret2 rfl (vb HNo.out.2.symm), by rw [HNo.out.1]; exact OI.nil _ _, HB.out⟩
            · have hA : inB a 0 ((ws.length : Int) - 1) = false := by simpa using hA
              have HNo := Lib.hid (HA0.out (fun hh => by rw [hA] at hh; exact absurd hh.1 (by decide)))
              clear hst hB
              go_wp2_with (first | (go_at_call 17; refine (l00In_any _ _ _ _).mono ?_; rintro e w' ⟨rfl, rfl⟩))
              go_ret2
              exact ⟨_, ret2 rfl (vb HNo.out.2.symm), by rw [HNo.out.1]; exact OI.nil _ _, HB.out⟩
          · have hkq2 : k = q := by omega
            subst hkq2
            have hq0 := Hq.out
            have hnl2 : ¬ ((2 * k : Nat) : Int) < (zs.length : Int) := by omega
            have hnl : ¬ 2 * k < zs.length := by omega
            have HO2 := Lib.hid (show gtO zs n = if eqL (grF out [[]] [] 0) zs = true then some out else none by rw [HO.out, Hf.out]; rfl)
            have Hro := Lib.hid (hst.o.oi Ho64.out)
            have Hrz := Lib.hid (H.out.below hB)
            clear hq0 hst hB
            go_wp2_with fail
            refine (l05Grow_any _ out _ Hro.out.ri hol).mono ?_
            rintro e w1 ⟨v1, rfl, ho1, hb1⟩
            have hri1 := ho1.ri
            have hrz1 := Hrz.out.below hb1
            have Hro1 := Lib.hid (Hro.out.below hb1)
            have hB1 := bnext HB.out hb1
            clear ho1 hb1
            by_cases hE : eqL (grF out [[]] [] 0) zs = true
            · have HS := Lib.hid (gt_some (HO2.out.trans (if_pos hE)))
              go_wp2_with fail
              refine (l00Same_any _ _ _ zs _ hri1 hrz1).mono ?_
              rw [hE]
              rintro e w2 ⟨rfl, m, rfl⟩
              have Hro2 := Lib.hid (Hro1.out.below (below_drewN w1 m))
              have hB2 := bnext hB1 (below_drewN w1 m)
              go_wp2
              go_ret2
              exact ⟨_, ret2 rfl (vb HS.out.2.symm), by rw [HS.out.1]; exact Hro2.out, hB2⟩
            · have hE : eqL (grF out [[]] [] 0) zs = false := by simpa using hE
              have HS := Lib.hid (gt_none (HO2.out.trans (if_neg (by rw [hE]; decide))))
              go_wp2_with fail
              refine (l00Same_any _ _ _ zs _ hri1 hrz1).mono ?_
              rw [hE]
              rintro e w2 ⟨rfl, m, rfl⟩
              have hB2 := bnext hB1 (below_drewN w1 m)
              go_wp2
              go_ret2
              exact ⟨_, ret2 rfl (vb HS.out.2.symm), by rw [HS.out.1]; exact OI.nil _ _, hB2⟩
      · have hgt : decide ((128 : Int) < (zs.length : Int)) = true := decide_eq_true (by omega)
        have hgt2 : (128 : Nat) < zs.length := by omega
        have HNo := Lib.hid (gt_none (zs := zs) (n := n) (by rw [gtO, if_neg]; simp [gtOk0, hl]))
        clear hm
        go_enter Try.func14, Try.ntmps14
        go_wp2_with (go_at_call 16; refine (l05Letters_any _ _).mono ?_; rw [hs]; rintro e w' ⟨rfl, rfl⟩)
        go_ret2
        exact ⟨_, ret2 rfl (vb HNo.out.2.symm), by rw [HNo.out.1]; exact OI.nil _ _, Below.refl _ _⟩
    · have hm3 : ((zs.length : Int).tmod 2 != 0) = true := by
        rw [Int.tmod_eq_emod_of_nonneg (by omega)]; simp; omega
      have hm4 : ((zs.length : Int) % 2 != 0) = true := by simp; omega
      have HNo := Lib.hid (gt_none (zs := zs) (n := n) (by rw [gtO, if_neg]; simp [gtOk0, hm]))
      clear hm
      go_enter Try.func14, Try.ntmps14
      go_wp2_with (go_at_call 16; refine (l05Letters_any _ _).mono ?_; rw [hs]; rintro e w' ⟨rfl, rfl⟩)
      go_ret2
      exact ⟨_, ret2 rfl (vb HNo.out.2.symm), by rw [HNo.out.1]; exact OI.nil _ _, Below.refl _ _⟩
  · have hs : sgn n = false := by simpa using hs
    have HNo := Lib.hid (gt_none (zs := zs) (n := n) (by rw [gtO, if_neg]; simp [gtOk0, hs]))
    go_enter Try.func14, Try.ntmps14
    go_wp2_with (go_at_call 16; refine (l05Letters_any _ _).mono ?_; rw [hs]; rintro e w' ⟨rfl, rfl⟩)
    go_ret2
    exact ⟨_, ret2 rfl (vb HNo.out.2.symm), by rw [HNo.out.1]; exact OI.nil _ _, Below.refl _ _⟩
end Go.Proofs.Ytkjgplomdnhblaa
