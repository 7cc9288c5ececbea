/- Slices of slices of integers: what one reads as; the helpers of the statements' own package for them. No conditions but that the slices read. -/
import Derived.Test.YtnhgloplobphnaaLaws
import Derived.Test.YtnhgloplobphnaaSt
import Derived.Test.YtnhgloplobphnaaMem
import Derived.Test.YtnhgloplobphnaaState
import Derived.Test.YtnhgloplobphnaaKpt
import Derived.Handy
namespace Go.Proofs.Ytnhgloplobphnaa
open Go.RowKit
set_option maxRecDepth 100000
set_option linter.unusedVariables false
set_option linter.unusedSimpArgs false

abbrev Row := Value × List Int
/-- The slice v reads as rows, each of which reads as its list. -/
def SS (w : World) (v : Value) (ps : List Row) : Prop := Rg Prod.fst w v ps ∧ ∀ p ∈ ps, RI w p.1 p.2
/-- .. in memory of block B or later that may be written, the rows apart from one another. -/
def SSo (B : Nat) (w : World) (v : Value) (ps : List Row) : Prop := Og Prod.fst B w v ps ∧ (∀ p ∈ ps, OI B w p.1 p.2) ∧ ps.Pairwise (fun p q => sep p.1 q.1) ∧ ∀ p ∈ ps, sep v p.1
section
variable {w w' : World} {v : Value} {ps : List Row} {B : Nat}
theorem SS.below (hb : Below w.heap.size w w') (h : SS w v ps) : SS w' v ps := ⟨h.1.below hb, fun p hp => (h.2 p hp).below hb⟩
theorem SSo.below (hb : Below w.heap.size w w') (h : SSo B w v ps) : SSo B w' v ps := ⟨h.1.below hb, fun p hp => (h.2.1 p hp).below hb, h.2.2⟩
theorem SSo.ss (h : SSo B w v ps) : SS w v ps := ⟨h.1.rg, fun p hp => (h.2.1 p hp).ri⟩
theorem SS.shape (h : SS w v ps) : ∃ ao cap, v = .slice ao ps.length cap := h.1.shape
theorem SS.len (h : SS w v ps) : ps.length ≤ 9223372036854775807 := h.1.len
end
def totR : List Row → Nat
  | [] => 0
  | p :: ps => p.2.length + totR ps
theorem totR_drop {ps : List Row} {k : Nat} (h : k < ps.length) : totR (ps.drop k) = ps[k].2.length + totR (ps.drop (k + 1)) := by
  rw [List.drop_eq_getElem_cons h, totR]
theorem le_totR {ps : List Row} {p : Row} (h : p ∈ ps) : p.2.length ≤ totR ps := by
  induction ps with
  | nil => cases h
  | cons a t ih =>
    rw [totR]
    rcases List.mem_cons.1 h with rfl | h
    · omega
    · have := ih h; omega
theorem totR_snd {ps qs : List Row} (h : ps.map Prod.snd = qs.map Prod.snd) : totR ps = totR qs := by
  induction ps generalizing qs with
  | nil => cases qs with
    | nil => rfl
    | cons q t => simp at h
  | cons p t ih => cases qs with
    | nil => simp at h
    | cons q s =>
      simp only [List.map_cons, List.cons.injEq] at h
      rw [totR, totR, ih h.2, h.1]
theorem snd_len {ps qs : List Row} (h : ps.map Prod.snd = qs.map Prod.snd) : ps.length = qs.length := by
  have := congrArg List.length h; simpa using this
theorem snd_get {ps qs : List Row} (h : ps.map Prod.snd = qs.map Prod.snd) (k : Nat) (hk : k < ps.length) (hq : k < qs.length) : ps[k].2 = qs[k].2 := by
  have h1 : (ps.map Prod.snd)[k]'(by simpa using hk) = (qs.map Prod.snd)[k]'(by simpa using hq) := by simp only [h]
  simpa using h1
set_option maxHeartbeats 400000 in
theorem szSS_any (v : Value) (ps : List Row) (left : Int) (w : World) (h : SS w v ps) (h0 : 0 ≤ left) (hl : left ≤ 1048576) :
    Calls Try.prog 4 #[v, .int .i64 left] w fun e w' => e = .returned (.int .i64 (if left < ps.length + totR ps then -1 else left - ps.length - totR ps)) ∧ w = w' := by
  have hlen := h.len
  obtain ⟨ao, cap, rfl⟩ := h.shape
  by_cases hc : left < ps.length
  · rw [if_pos (by omega)]
    go_enter Try.func4, Try.ntmps4
    go_wp2
    go_ret
    exact ⟨rfl, rfl⟩
  · obtain ⟨⟨_, _, e, h1, h2, h3⟩, hr⟩ := h
    simp only [Value.slice.injEq, true_and] at e
    obtain ⟨rfl, rfl⟩ := e
    have Hr := Lib.hid hr
    have H3 := Lib.hid h3
    have hle : (ps.length : Int) ≤ left := by omega
    have hv : IntKind.i64.wrap (left - ps.length) = left - ps.length := IntWalk.i64_in _ (by omega)
    clear hr h3
    obtain ⟨R, hR0⟩ : ∃ R : Int, (if left < (ps.length : Int) + (totR ps : Int) then (-1 : Int) else left - ps.length - totR ps) = R := ⟨_, rfl⟩
    rw [hR0]
    have HR0 := Lib.hid hR0
    clear hR0
    go_enter Try.func4, Try.ntmps4
    go_wp2
    go_loop [1, 5] (fun lv i => ∃ (k : Nat) (lf : Int), k ≤ ps.length ∧ i = .int .i64 k ∧ lv = .int .i64 lf ∧ 0 ≤ lf ∧ lf ≤ 1048576 ∧ lf - totR (ps.drop k) = left - ps.length - totR ps) (fun _ i => ps.length - (intOf i).toNat)
    case atStart => exact ⟨0, left - ps.length, Nat.zero_le _, rfl, rfl, by omega, by omega, by simp⟩
    case round =>
      obtain ⟨k, lf, hk, rfl, rfl, hl0, hl1, hq⟩ := hrel
      by_cases hlt : k < ps.length
      · obtain ⟨b, off, rfl, hc2⟩ := H3.out k hlt
        have ht := totR_drop hlt
        have hri := Hr.out ps[k] (List.getElem_mem hlt)
        have Hsz := Lib.hid (sz_any _ _ lf w hri hl0 hl1)
        generalize ps[k] = p at *
        rw [ht] at hq
        clear ht hri
        by_cases hp : lf < p.2.length
        · rw [if_pos hp] at Hsz
          have hR : R = -1 := by rw [← HR0.out]; exact if_pos (by omega)
          have HR := Lib.hid hR
          clear hR hq
          go_wp2_with fail
          refine Hsz.out.mono ?_
          rintro e w' ⟨rfl, rfl⟩
          go_wp2
          go_ret
          exact ⟨ret_i64 HR.out.symm, rfl⟩
        · rw [if_neg hp] at Hsz
          have Hq := Lib.hid hq
          clear hq
          go_wp2_with fail
          refine Hsz.out.mono ?_
          rintro e w' ⟨rfl, rfl⟩
          go_wp2
          go_round
          case rel => exact ⟨k + 1, _, by omega, by go_num, rfl, by omega, by omega, by have := Hq.out; omega⟩
          case measure => simp [intOf]; omega
      · have hd : totR (ps.drop k) = 0 := by rw [List.drop_of_length_le (by omega)]; rfl
        rw [hd] at hq
        have hR : R = lf := by rw [← HR0.out, if_neg (by omega)]; omega
        have HR := Lib.hid hR
        clear hR hq hd
        go_wp2
        go_ret
        exact ⟨ret_i64 HR.out.symm, rfl⟩
theorem info_ints : (Try.prog.info? 24).map (fun i => (i.zero, i.size, i.bytes)) = some (some (.slice none 0 0), 1, 24) := by kernel_rfl
theorem nils_set (bs : List Value) (n : Nat) (r : Value) (hn : 0 < n) : (bs ++ List.replicate n (Value.slice none 0 0)).set bs.length r = (bs ++ [r]) ++ List.replicate (n - 1) (Value.slice none 0 0) := by
  obtain ⟨m, rfl⟩ : ∃ m, n = m + 1 := ⟨n - 1, by omega⟩
  rw [List.replicate_succ, List.set_append_right _ _ (Nat.le_refl _)]
  simp [List.replicate_succ]
set_option maxHeartbeats 1000000 in
theorem toSS_any (v : Value) (ps : List Row) (w : World) (h : SS w v ps) (hl : ps.length ≤ 1048576) (hr : totR ps ≤ 1048576) :
    Calls Try.prog 6 #[v] w fun e w' => ∃ v' qs, e = .returned v' ∧ qs.map Prod.snd = ps.map Prod.snd ∧ SSo w.heap.size w' v' qs ∧ Below w.heap.size w w' := by
  obtain ⟨⟨ao, cap, rfl, h1, h2, h3⟩, hp⟩ := h
  obtain ⟨i0, hi, hz0, hz1, hz2⟩ := info_parts info_ints
  have Hp := Lib.hid hp
  have H3 := Lib.hid h3
  clear hp h3
  go_enter Try.func6, Try.ntmps6
  go_wp2_with (at_make; refine wpList_make_full _ rfl _ _ 22 rfl w.heap.size 24 i0 (.slice none 0 0) 1 Try.underlying22 hi hz0 hz1 _ _ _ _ ps.length rfl rfl rfl rfl ?b1 ?b2 ?b3 ?_)
  case b1 => rw [hz2]; omega
  case b2 => unfold maxLen; omega
  case b3 => exact Nat.le_refl _
  intro w1 hown hgrow
  have hB : Below w.heap.size w w1 := grow_below hgrow
  have hown : w1.ownsRow w.heap.size 24 1 (.slice (some ⟨w.heap.size, 0, none⟩) ps.length ps.length) ps.length (([] : List Row).map Prod.fst ++ List.replicate (ps.length - ([] : List Row).length) (.slice none 0 0)) := by
    simpa [toList_madeCells_one] using hown
  have hsz : w.heap.size < w1.heap.size := World.ownsRow.lt hown w.heap.size rfl |>.2
  clear hgrow
  go_wp2
  go_loopw [4] (fun i wr => ∃ (qs : List Row), i = .int .i64 qs.length ∧ qs.length ≤ ps.length ∧ qs.map Prod.snd = (ps.take qs.length).map Prod.snd ∧ wr.ownsRow w.heap.size 24 1 (.slice (some ⟨w.heap.size, 0, none⟩) ps.length ps.length) ps.length (qs.map Prod.fst ++ List.replicate (ps.length - qs.length) (.slice none 0 0)) ∧ (∀ q ∈ qs, OI (w.heap.size + 1) wr q.1 q.2) ∧ qs.Pairwise (fun p q => sep p.1 q.1) ∧ Below w.heap.size w wr)
    (fun i _ => ps.length - (intOf i).toNat)
  case atStart => exact ⟨[], rfl, Nat.zero_le _, by simp, hown, (fun q hq => by cases hq), List.Pairwise.nil, hB⟩
  case round =>
    clear hown hB
    obtain ⟨qs, rfl, hk, hsn, hown, hoi, hpw, hB⟩ := hrel
    have Hsn := Lib.hid hsn
    have Hoi := Lib.hid hoi
    have Hpw := Lib.hid hpw
    clear hsn hoi hpw
    by_cases hlt : qs.length < ps.length
    · obtain ⟨b, off, rfl, hc⟩ := H3.out qs.length hlt
      have hc' : wr.cell? ⟨b, off + qs.length, none⟩ = some ps[qs.length].1 := (hB.cell (p := ⟨b, off + qs.length, none⟩) (World.block_lt_of_cell? w _ hc)).trans hc
      have hri := (Hp.out _ (List.getElem_mem hlt)).below hB
      have hll : ps[qs.length].2.length ≤ 1048576 := Nat.le_trans (le_totR (List.getElem_mem hlt)) hr
      have Hto := Lib.hid (to_any _ _ wr hri hll)
      have Htk := Lib.hid (show (ps.take (qs.length + 1)).map Prod.snd = (ps.take qs.length).map Prod.snd ++ [ps[qs.length].2] by rw [List.take_succ_eq_append_getElem hlt, List.map_append]; rfl)
      have hgt : w.heap.size < wr.heap.size := (World.ownsRow.lt hown w.heap.size rfl).2
      generalize ps[qs.length] = p at *
      have Hown := Lib.hid hown
      clear hc hri hown
      go_wp2_with fail
      refine Hto.out.mono ?_
      rintro e w2 ⟨v2, rfl, ho2, hb2⟩
      obtain ⟨ao2, cap2, rfl⟩ := ho2.shape
      have hown2 := own_below hb2 Hown.out
      have hs := hown2.cellAt qs.length (by omega)
      rw [List.getElem?_append_right (by simp), List.length_map, Nat.sub_self, List.getElem?_replicate, if_pos (by omega)] at hs
      replace hs : w2.cell? ⟨w.heap.size, qs.length, none⟩ = some (.slice none 0 0) := hs
      have hf := hown2.frozenAt qs.length
      have hn := hown2.stored qs.length (Value.slice ao2 p.2.length cap2)
      have hset := nils_set (qs.map Prod.fst) (ps.length - qs.length) (Value.slice ao2 p.2.length cap2) (by omega)
      rw [List.length_map] at hset
      have hn1 := hn.1
      rw [hset] at hn1
      have hown3 : (w2.setCell ⟨w.heap.size, qs.length, none⟩ (Value.slice ao2 p.2.length cap2)).ownsRow w.heap.size 24 1 (.slice (some ⟨w.heap.size, 0, none⟩) ps.length ps.length) ps.length ((qs ++ [((Value.slice ao2 p.2.length cap2), p.2)]).map Prod.fst ++ List.replicate (ps.length - (qs ++ [((Value.slice ao2 p.2.length cap2), p.2)]).length) (.slice none 0 0)) := by
        simpa [Nat.sub_sub] using hn1
      have ho3 := ho2.set ⟨w.heap.size, qs.length, none⟩ (Value.slice ao2 p.2.length cap2) (by show w.heap.size < wr.heap.size; exact hgt)
      have Hall := Lib.hid (show (∀ q ∈ qs ++ [((Value.slice ao2 p.2.length cap2), p.2)], OI (w.heap.size + 1) (w2.setCell ⟨w.heap.size, qs.length, none⟩ (Value.slice ao2 p.2.length cap2)) q.1 q.2) ∧ (qs ++ [((Value.slice ao2 p.2.length cap2), p.2)]).Pairwise (fun p q => sep p.1 q.1) from by
        refine ⟨fun q hq => ?_, ?_⟩
        · rcases List.mem_append.1 hq with hq | hq
          · exact ((Hoi.out q hq).below hb2).set ⟨w.heap.size, qs.length, none⟩ (Value.slice ao2 p.2.length cap2) (Nat.lt_succ_self _)
          · obtain rfl := List.mem_singleton.1 hq
            exact OI.mono (by omega) ho3
        · refine List.pairwise_append.2 ⟨Hpw.out, List.pairwise_singleton _ _, fun a ha c hc => ?_⟩
          obtain rfl := List.mem_singleton.1 hc
          exact Og.apart (Hoi.out a ha).2 ho2.2 (Nat.le_refl _))
      have Hown3 := Lib.hid hown3
      have hB3 := (bnext hB hb2).setCell (p := ⟨w.heap.size, qs.length, none⟩) (Nat.le_refl _) (Value.slice ao2 p.2.length cap2)
      have Hl := Lib.hid (show (qs ++ [((Value.slice ao2 p.2.length cap2), p.2)]).length = qs.length + 1 by simp)
      clear hown2 hn hset hn1 hown3 ho3 ho2 Hown Hto
      go_wp2
      go_roundw
      case rel => exact ⟨qs ++ [((Value.slice ao2 p.2.length cap2), p.2)], by rw [Hl.out]; go_num, by rw [Hl.out]; omega, by rw [Hl.out, Htk.out, List.map_append, Hsn.out]; rfl, Hown3.out, Hall.out.1, Hall.out.2, hB3⟩
      case measure => simp [intOf]; omega
    · have hke : qs.length = ps.length := by omega
      have hfin : SSo w.heap.size wr (.slice (some ⟨w.heap.size, 0, none⟩) ps.length ps.length) qs := by
        refine ⟨?_, fun q hq => OI.mono (Nat.le_succ _) (Hoi.out q hq), Hpw.out, fun q hq => ?_⟩
        · rw [hke, Nat.sub_self, List.replicate_zero, List.append_nil, ← hke] at hown
          rw [← hke]; exact Og.own hown
        · right; intro e
          have := (Hoi.out q hq).2.blk w.heap.size e.symm
          omega
      have hs : qs.map Prod.snd = ps.map Prod.snd := by rw [Hsn.out, hke, List.take_length]
      have Hfin := Lib.hid (And.intro hs hfin)
      clear hs hfin hown
      go_wp2
      go_ret
      exact ⟨_, qs, rfl, Hfin.out.1, Hfin.out.2, hB⟩
set_option maxHeartbeats 1000000 in
theorem eqSS_same (v v' : Value) (ps qs : List Row) (w : World) (h : SS w v ps) (h' : SS w v' qs) (hs : ps.map Prod.snd = qs.map Prod.snd) :
    Calls Try.prog 9 #[v, v'] w fun e w' => e = .returned (.bool true) ∧ ∃ n, w' = w.drewN n := by
  have hlen := h.len
  have hll := snd_len hs
  obtain ⟨⟨ao, cap, rfl, h1, h2, h3⟩, hp⟩ := h
  obtain ⟨⟨ao', cap', rfl, h1', h2', h3'⟩, hp'⟩ := h'
  have Hs := Lib.hid hs
  have Hp := Lib.hid hp
  have Hp' := Lib.hid hp'
  have H3 := Lib.hid h3
  have H3' := Lib.hid h3'
  clear hs hp hp' h3 h3'
  have hll' : ¬ (ps.length : Int) ≠ (qs.length : Int) := by omega
  go_enter Try.func9, Try.ntmps9
  go_wp2
  go_loopw [5] (fun i wr => ∃ k : Nat, k ≤ ps.length ∧ i = .int .i64 k ∧ ∃ n, wr = w.drewN n) (fun i _ => ps.length - (intOf i).toNat)
  case atStart => exact ⟨0, Nat.zero_le _, rfl, 0, rfl⟩
  case round =>
    obtain ⟨k, hk, rfl, n, rfl⟩ := hrel
    by_cases hlt : k < ps.length
    · have hltq : k < qs.length := by omega
      obtain ⟨b, off, rfl, hc⟩ := H3.out k hlt
      obtain ⟨b', off', rfl, hc'⟩ := H3'.out k hltq
      have he := snd_get Hs.out k hlt hltq
      have hr := Hp.out _ (List.getElem_mem hlt)
      have hr' := Hp'.out _ (List.getElem_mem hltq)
      rw [← he] at hr'
      clear he
      generalize ps[k] = p at *
      generalize qs[k] = p' at *
      obtain ⟨x, px⟩ := p
      obtain ⟨x', px'⟩ := p'
      replace hr : RI w x px := hr
      replace hr' : RI w x' px := hr'
      replace hc : w.cell? ⟨b, off + k, none⟩ = some x := hc
      replace hc' : w.cell? ⟨b', off' + k, none⟩ = some x' := hc'
      have hB := below_drewN w n
      replace hr := hr.below hB
      replace hr' := hr'.below hB
      replace hc := cnext hB hc
      replace hc' := cnext hB hc'
      obtain ⟨W, hW⟩ : ∃ W, w.drewN n = W := ⟨_, rfl⟩
      have HW := Lib.hid hW
      rw [hW] at hr hr' hc hc'
      rw [hW]
      have Heq := Lib.hid (show ∀ q, Calls Try.prog 8 #[x, x'] (W.drewN q) fun e w' => e = .returned (.bool true) ∧ ∃ m, w' = (W.drewN q).drewN m from fun q => eq_same _ _ _ (W.drewN q) (hr.below (below_drewN _ q)) (hr'.below (below_drewN _ q)))
      clear hr hr' hB hW
      have hkI : (k : Int) < (ps.length : Int) := by omega
      have hkI' : (k : Int) < (qs.length : Int) := by omega
      go_wp2_with fail
      go_quiet ((go_at_call 8; exact Calls.quiet_of (Heq.out _)))
      go_wp2
      go_roundw
      case rel => exact ⟨k + 1, by omega, by go_num, _, by rw [← HW.out]; exact World.drewN_drewN _ _ _⟩
      case measure => simp [intOf]; omega
    · go_wp2
      go_ret
      exact ⟨rfl, n, rfl⟩
theorem Kpt.og {α : Type} {enc : α → Value} {F : Nat → Prop} {w w1 : World} {B : Nat} {v : Value} {xs : List α} (h : Kpt F w w1) (ho : Og enc B w v xs) (hf : ∀ k, v.ownBlock = some k → ¬ F k) : Og enc B w1 v xs := by
  obtain ⟨ao, cap, rfl, h1, h2, h4, h3⟩ := ho
  refine ⟨ao, cap, rfl, h1, h2, fun a ha => ⟨(h4 a ha).1, Nat.lt_of_lt_of_le (h4 a ha).2 h.size⟩, fun i hi => ?_⟩
  obtain ⟨b, off, rfl, hc, hfr⟩ := h3 i hi
  have hlt := World.block_lt_of_cell? w _ hc
  have hbl := h.block b hlt (hf b rfl)
  exact ⟨b, off, rfl, (World.cell?_of_block (a := ⟨b, off + i, none⟩) hbl).trans hc, (World.frozen?_of_block (a := ⟨b, off + i, none⟩) hbl).trans hfr⟩
theorem Kpt.oi {F : Nat → Prop} {w w1 : World} {B : Nat} {v : Value} {zs : List Int} (h : Kpt F w w1) (ho : OI B w v zs) (hf : ∀ k, v.ownBlock = some k → ¬ F k) : OI B w1 v zs := ⟨ho.1, h.og ho.2 hf⟩
set_option maxHeartbeats 1000000 in
theorem markSS_any (v : Value) (ps : List Row) (B : Nat) (k0 : Int) (w : World) (h : SSo B w v ps) (hl : totR ps ≤ 16777216) (h0 : 0 ≤ k0) (hk0 : k0 ≤ 1048576) :
    Calls Try.prog 10 #[v, .int .i64 k0] w fun e w' => e = .returned (.int .i64 (k0 + totR ps)) ∧ Kpt (fun k => ∃ p ∈ ps, p.1.ownBlock = some k) w w' := by
  have hlen := h.ss.len
  obtain ⟨ao, cap, rfl⟩ := h.ss.shape
  obtain ⟨hhd, hoi, hpw, hsp⟩ := h
  have Hoi := Lib.hid hoi
  have Hpw := Lib.hid hpw
  have Hsp := Lib.hid hsp
  have Hhd := Lib.hid hhd
  clear hoi hpw hsp hhd
  go_enter Try.func10, Try.ntmps10
  go_wp2
  go_loopw [1, 5] (fun kv i wr => ∃ k : Nat, k ≤ ps.length ∧ i = .int .i64 k ∧ kv = .int .i64 (k0 + totR ps - totR (ps.drop k)) ∧ (∀ p ∈ ps.drop k, OI B wr p.1 p.2) ∧ Og Prod.fst B wr (.slice ao ps.length cap) ps ∧ Kpt (fun k => ∃ p ∈ ps, p.1.ownBlock = some k) w wr)
    (fun _ i _ => ps.length - (intOf i).toNat)
  case atStart => exact ⟨0, Nat.zero_le _, rfl, by rw [List.drop_zero]; congr 1; omega, by rw [List.drop_zero]; exact Hoi.out, Hhd.out, Kpt.refl _ _⟩
  case round =>
    obtain ⟨k, hk, rfl, rfl, ho, hh, hkp⟩ := hrel
    by_cases hlt : k < ps.length
    · have hd := List.drop_eq_getElem_cons hlt
      have hmem : ps[k] ∈ ps := List.getElem_mem hlt
      have ht := totR_drop hlt
      have hto : ps[k].2.length ≤ totR ps := le_totR hmem
      have htd : totR (ps.drop k) ≤ totR ps := by
        have : ∀ (l : List Row) (j : Nat), totR (l.drop j) ≤ totR l := fun l => by
          induction l with
          | nil => intro j; simp
          | cons a t ih =>
            intro j
            cases j with
            | zero => simp
            | succ j => rw [List.drop_succ_cons, totR]; have := ih j; omega
        exact this ps k
      rw [hd] at ho
      have hok := ho _ (List.mem_cons_self ..)
      have Hrest := Lib.hid (show ∀ q ∈ ps.drop (k + 1), OI B wr q.1 q.2 from fun q hq => ho q (List.mem_cons_of_mem _ hq))
      have hpk : ∀ q ∈ ps.drop (k + 1), sep ps[k].1 q.1 := by
        have h2 := List.pairwise_iff_getElem.1 Hpw.out
        intro q hq
        obtain ⟨j, hj, rfl⟩ := List.getElem_of_mem hq
        rw [List.getElem_drop]
        exact h2 k (k + 1 + j) hlt _ (by omega)
      have hsk := Hsp.out _ hmem
      obtain ⟨_, _, e, _, _, _, h3⟩ := id hh
      obtain ⟨b, off, eo, hc, _⟩ := h3 k hlt
      simp only [Value.slice.injEq, true_and] at e
      obtain ⟨rfl, rfl⟩ := e
      subst eo
      have Hmk := Lib.hid (mark_any _ _ B (k0 + totR ps - totR (ps.drop k)) wr hok (by omega) (by omega) (by omega))
      have Hh := Lib.hid hh
      have Hpk := Lib.hid hpk
      have Hsk := Lib.hid hsk
      have Hmem := Lib.hid hmem
      have Hkp := Lib.hid hkp
      clear h3 hpk hsk hmem hkp hh ho hok hd
      generalize ps[k] = p at *
      have Ht := Lib.hid ht
      clear ht
      generalize totR (ps.drop k) = td at *
      have hkI : (k : Int) < (ps.length : Int) := by omega
      go_wp2_with fail
      refine Hmk.out.mono ?_
      rintro e w2 ⟨rfl, -, hg⟩
      have hA1 : ∀ q ∈ ps.drop (k + 1), OI B w2 q.1 q.2 := fun q hq => OI.other hg (sep.symm (Hpk.out q hq)) (Hrest.out q hq)
      have hA2 : Og Prod.fst B w2 (.slice (some ⟨b, off, none⟩) ps.length cap) ps := Og.other hg Hsk.out Hh.out
      have hA3 : Kpt (fun k => ∃ p ∈ ps, p.1.ownBlock = some k) w w2 := Hkp.out.grown hg (fun j e => .inl ⟨p, Hmem.out, e⟩)
      have Hall := Lib.hid (And.intro hA1 (And.intro hA2 hA3))
      clear hA1 hA2 hA3
      clear hg hc
      go_wp2
      go_roundw
      case rel => exact ⟨k + 1, by omega, by go_num, by have := Ht.out; congr 1; omega, Hall.out.1, Hall.out.2.1, Hall.out.2.2⟩
      case measure => simp [intOf]; omega
    · have hd : totR (ps.drop k) = 0 := by rw [List.drop_of_length_le (by omega)]; rfl
      rw [hd]
      have Hkp := Lib.hid hkp
      clear ho hh hkp hd
      go_wp2
      go_ret
      exact ⟨ret_i64 (by omega), Hkp.out⟩
end Go.Proofs.Ytnhgloplobphnaa
