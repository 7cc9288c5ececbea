/- Growing pairs, in the reference: l05Grow. Conditions: a text of at most 64 numbers. -/
import Derived.Test.YtjeakgakpioieaaGrP
import Derived.Test.YtjeakgakpioieaaWds
import Derived.Test.YtjeakgakpioieaaEq
import Derived.Test.YtjeakgakpioieaaPop
import Derived.Deep.CutRange
import Derived.Deep.LoopGhost
import Derived.Handy
namespace Go.Proofs.Ytjeakgakpioieaa
open Go.RowKit
set_option maxRecDepth 100000
set_option linter.unusedVariables false
set_option linter.unusedSimpArgs false

theorem fndF_bd (ws : List (List Int)) (n : List Int) (k : Nat) (f : Int) (h : -1 ≤ f) (h1 : f < k) : -1 ≤ fndF ws n k f ∧ fndF ws n k f < k + ws.length := by
  induction ws generalizing k f with
  | nil => exact ⟨h, by simpa [fndF] using h1⟩
  | cons w ws ih =>
    rw [fndF, List.length_cons]
    by_cases hw : w = n
    · rw [if_pos hw]
      have := ih (k + 1) (k : Int) (by omega) (by omega)
      omega
    · rw [if_neg hw]
      have := ih (k + 1) f h (by omega)
      omega
theorem fndF_step {ws : List (List Int)} {n : List Int} {j : Nat} {f : Int} (h : j < ws.length) : fndF (ws.drop j) n j f = fndF (ws.drop (j + 1)) n (j + 1) (if ws[j] = n then (j : Int) else f) := by
  rw [List.drop_eq_getElem_cons h, fndF]
theorem step_app_rg {W w0 : World} {ops : Array Oper} {o : Oper} {a : Act} {K : Act → World → Prop} {Q : Exit → Act → World → Prop} {E : Prop} (hgd : o.guard = none) (s x : Operand)
    (ho : o.op = .call { callee := .builtin .append, args := #[s, x], argTypes := #[25, 25] })
    (B B0 : Nat) (hB0 : B0 ≤ B) (v : Value) (zs : List Int) (hs : a.eval s = v) (hown : OwnI B W v zs) (hB : Below B0 w0 W)
    (news : List Int) (xv : Value) (hx : a.eval x = xv) (hr : Rg (Value.int .i64) W xv news)
    (hl : zs.length + news.length ≤ 1099511627776) (hbs : B ≤ W.heap.size)
    (h : ∀ v' w', OwnI B w' v' (zs ++ news) → Below B0 w0 w' → W.grownBy w' v.ownBlock → K (a.put o.dst v') w') :
    if Region.wanted o (yielded ops a.tmps) = true then Oper.wp Try.prog o a W K Q else E := by
  obtain ⟨ao, cap, rfl, h1, h2, h3⟩ := hr
  cases ao with
  | none =>
    have h0 : news = [] := by
      cases news with
      | nil => rfl
      | cons n ns => obtain ⟨b, off, e, _⟩ := h3 0 (by simp); cases e
    subst h0
    obtain ⟨i0, hi, hz0, hz1, hz2⟩ := info_parts info_int
    have hw : Region.wanted o (yielded ops a.tmps) = true := by simp [Region.wanted, hgd]
    rw [if_pos hw]
    have hrun := run_app_none (P := Try.prog) (w := W) B 25 o.type 2 i0 1 cap Try.underlying25 hi v zs.length (zs.map (Value.int .i64)) hown
    unfold Oper.wp
    simp only [List.length_nil] at hx
    simp [execOp, ho, resolve, invoke, builtin, hs, hx, hrun, Result.andThen]
    exact h v W (by rw [List.append_nil]; exact hown) hB (World.grownBy.refl _ _)
  | some ad =>
    refine step_app hgd s x ho B B0 hB0 v zs hs hown hB news ad cap hx (fun j hj => ?_) hl hbs h
    obtain ⟨b, off, e, hc⟩ := h3 j hj
    obtain rfl := Option.some.inj e
    rw [Addr.add_lit]; exact hc
abbrev noF : Nat → Prop := fun _ => False
theorem wds0 (w : World) : WdS noF w.heap.size (((w.alloc (.cells #[] 2)).alloc (.cells #[.slice (some ⟨w.heap.size, 0, none⟩) 0 0] 25)).alloc (.cells #[] 2)) (.slice (some ⟨w.heap.size + 1, 0, none⟩) 1 1) (.slice (some ⟨w.heap.size + 1 + 1, 0, none⟩) 0 0) [(.slice (some ⟨w.heap.size, 0, none⟩) 0 0, [])] [] := by
  refine ⟨?_, fun p hp => ?_, fun p hp k hk => ?_, ?_, fun k hk => ?_, fun k hk => hk.elim⟩
  · refine World.ownsRow.alloc ?_ _
    have := World.ownsRow_lit (base := w.heap.size) (e := 25) (size := 1) (w.alloc (.cells #[] 2)) #[.slice (some ⟨w.heap.size, 0, none⟩) 0 0] 1 (by simp) (by unfold maxLen; omega) rfl
    simpa [OwnR] using this
  · obtain rfl := List.mem_singleton.1 hp
    exact ((own_empty w w.heap.size (Nat.le_refl _)).oi (fun z hz => by cases hz)).ri.below (by go_grown)
  · obtain rfl := List.mem_singleton.1 hp
    simp [Value.ownBlock] at hk
    subst hk
    simp [Value.ownBlock]; omega
  · have := own_empty ((w.alloc (.cells #[] 2)).alloc (.cells #[.slice (some ⟨w.heap.size, 0, none⟩) 0 0] 25)) w.heap.size (by simp; omega)
    simpa using this
  · simp [Value.ownBlock] at hk ⊢
    omega
set_option maxHeartbeats 4000000 in
theorem l05Grow_any (v : Value) (zs : List Int) (w : World) (h : RI w v zs) (hl : zs.length ≤ 64) :
    Calls Try.prog 23 #[v] w fun e w' => ∃ v', e = .returned v' ∧ OI w.heap.size w' v' (grF zs [[]] [] 0) ∧ Below w.heap.size w w' := by
  obtain ⟨hz, ao, cap, rfl, h1, h2, h3⟩ := h
  have Hz := Lib.hid hz
  have H3 := Lib.hid h3
  clear hz h3
  have hst0 := wds0 w
  have hB0 : Below w.heap.size w (((w.alloc (.cells #[] 2)).alloc (.cells #[.slice (some ⟨w.heap.size, 0, none⟩) 0 0] 25)).alloc (.cells #[] 2)) := by go_grown
  go_enter Try.func23, Try.ntmps23
  go_wp2_with fail
  generalize ((w.alloc (.cells #[] 2)).alloc (.cells #[.slice (some ⟨w.heap.size, 0, none⟩) 0 0] 25)).alloc (.cells #[] 2) = W3 at *
  go_loopg [3, 4, 5, 15] zs.length (fun (f : Nat) vw vo nv iv wr => ∃ (k : Nat) (ws : List (Value × List Int)) (out : List Int) (now : Nat), f = zs.length - k ∧ k ≤ zs.length ∧ iv = .int .i64 k ∧ nv = .int .i64 now ∧ grF (zs.drop k) (ws.map Prod.snd) out now = grF zs [[]] [] 0 ∧ now < ws.length ∧ ws.length ≤ k + 1 ∧ out.length ≤ 2 * k ∧ AllI64 out ∧ (∀ p ∈ ws, p.2.length ≤ k) ∧ WdS noF w.heap.size wr vw vo ws out ∧ Below w.heap.size w wr)
  case atStart => exact ⟨0, _, [], 0, by omega, Nat.zero_le _, by rfl, by rfl, rfl, by simp, by simp, by simp, (fun z hz => by cases hz), (fun p hp => by obtain rfl := List.mem_singleton.1 hp; exact Nat.le_refl _), hst0, hB0⟩
  case round =>
    obtain ⟨k, ws, out, now, hf, hk, rfl, rfl, hq, hnow, hwl, hol, ho64, hpl, hst, hB⟩ := hrel
    have Hq := Lib.hid hq
    have Ho64 := Lib.hid ho64
    have Hpl := Lib.hid hpl
    clear hq ho64 hpl
    by_cases hlt : k < zs.length
    · obtain ⟨b, off, rfl, hc⟩ := H3.out k hlt
      have hc0 := hc
      replace hc := cnext hB hc
      have hx := Hz.out zs[k] (List.getElem_mem hlt)
      have Hd := Lib.hid (List.drop_eq_getElem_cons hlt)
      generalize zs[k] = x at *
      obtain ⟨gw, capw, rfl, hcw⟩ := hst.hd.at now hnow
      obtain ⟨aoo, capo, rfl⟩ := hst.o.shape
      have hri := hst.rd _ (List.getElem_mem hnow)
      have hwl2 := Hpl.out _ (List.getElem_mem hnow)
      have Hw := Lib.hid (show wordAt (ws.map Prod.snd) (now : Int) = ws[now].2 by unfold wordAt; rw [Int.toNat_natCast, List.getElem?_map, List.getElem?_eq_getElem hnow]; rfl)
      generalize ws[now] = pw at *
      obtain ⟨wv, word⟩ := pw
      replace hcw : wr.cell? ⟨gw, now, none⟩ = some wv := hcw
      replace hri : RI wr wv word := hri
      replace hwl2 : word.length ≤ k := hwl2
      have Hri := Lib.hid hri
      have Hst := Lib.hid hst
      have HB := Lib.hid hB
      have hnI : (now : Int) < (ws.length : Int) := by omega
      have hkI : (k : Int) < (zs.length : Int) := by omega
      have hbw : Below wr.heap.size wr wr.drew := below_drewN wr 1
      obtain ⟨nw, hnw⟩ : ∃ nw, now = nw := ⟨_, rfl⟩
      subst hnw
      clear hri hst hB
      go_upto_region 7 with fail
      go_cut [7] from 18 to 29 (fun v7 wx => ∃ nv, v7 = nv ∧ OwnI wr.heap.size wx nv (word ++ [x]) ∧ Below wr.heap.size wr wx)
      case first =>
        refine wp_region_held_tail 11 (S := fun W' => W'.cell? ⟨gw, now, none⟩ = some wv ∧ W'.cell? ⟨b, off + k, none⟩ = some (.int .i64 x) ∧ Below wr.heap.size wr W') (by kernel_rfl) (by decide +kernel) ?_ (fun hHeld => ?_)
        · (try go_split_ands); refine ⟨?_, ?_, ?_⟩ <;> first | assumption | exact cnext (by assumption) (by assumption) | exact bnext (by assumption) (by assumption) | exact Below.alloc (by assumption) (Below.size (by assumption)) _ | (go_keep; done)
        simp only [List.take_succ_cons, List.take_zero, List.drop_succ_cons, List.drop_zero, List.length_cons, List.length_nil, Nat.reduceAdd]
        refine wpAnyH_tk (i := 1) (v := ?_) (some 19) rfl rfl (by kernel_rfl) (by decide +kernel) (by decide +kernel) (fun _ _ _ h => h) (by kernel_rfl) ?_ hHeld ?_
        rotate_left
        · (intro w hSw; (try dsimp only at hSw); go_simp <;> with_reducible rfl)
        (try simp only [Act.put, List.setIfInBounds_toArray, List.set_cons_zero, List.set_cons_succ])
        refine wpAnyH_tk (i := 2) (v := ?_) (some 20) rfl rfl (by kernel_rfl) (by decide +kernel) (by decide +kernel) (fun _ _ _ h => h) (by kernel_rfl) ?_ hHeld ?_
        rotate_left
        · (intro w hSw; (try dsimp only at hSw); go_simp <;> with_reducible rfl)
        (try simp only [Act.put, List.setIfInBounds_toArray, List.set_cons_zero, List.set_cons_succ])
        refine wpAnyH_tk (i := 3) (v := ?_) (some 21) rfl rfl (by kernel_rfl) (by decide +kernel) (by decide +kernel) (fun _ _ _ h => h) (by kernel_rfl) ?_ hHeld ?_
        rotate_left
        · (intro w hSw; (try dsimp only at hSw); go_simp <;> with_reducible rfl)
        (try simp only [Act.put, List.setIfInBounds_toArray, List.set_cons_zero, List.set_cons_succ])
        refine wpAnyH_tk (i := 4) (v := ?_) (some 22) rfl rfl (by kernel_rfl) (by decide +kernel) (by decide +kernel) (fun _ _ _ h => h) (by kernel_rfl) ?_ hHeld ?_
        rotate_left
        · (intro w hSw; (try dsimp only at hSw); go_simp <;> with_reducible rfl)
        (try simp only [Act.put, List.setIfInBounds_toArray, List.set_cons_zero, List.set_cons_succ])
        refine wpAnyH_tk (i := 6) (v := ?_) (some 24) rfl rfl (by kernel_rfl) (by decide +kernel) (by decide +kernel) (fun _ _ _ h => h) (by kernel_rfl) ?_ hHeld ?_
        rotate_left
        · (intro w hSw; (try dsimp only at hSw); go_simp <;> with_reducible rfl)
        (try simp only [Act.put, List.setIfInBounds_toArray, List.set_cons_zero, List.set_cons_succ])
        refine wpAnyH_tk (i := 7) (v := ?_) (some 25) rfl rfl (by kernel_rfl) (by decide +kernel) (by decide +kernel) (fun _ _ _ h => h) (by kernel_rfl) ?_ hHeld ?_
        rotate_left
        · (intro w hSw; (try dsimp only at hSw); go_simp <;> with_reducible rfl)
        (try simp only [Act.put, List.setIfInBounds_toArray, List.set_cons_zero, List.set_cons_succ])
        refine wpAnyH_tk (i := 8) (v := ?_) (some 26) rfl rfl (by kernel_rfl) (by decide +kernel) (by decide +kernel) (fun _ _ _ h => h) (by kernel_rfl) ?_ hHeld ?_
        rotate_left
        · (intro w hSw; (try dsimp only at hSw); go_simp <;> with_reducible rfl)
        (try simp only [Act.put, List.setIfInBounds_toArray, List.set_cons_zero, List.set_cons_succ])
        refine wpAnyH_tk (i := 9) (v := ?_) (some 27) rfl rfl (by kernel_rfl) (by decide +kernel) (by decide +kernel) (fun _ _ _ h => h) (by kernel_rfl) ?_ hHeld ?_
        rotate_left
        · (intro w hSw; (try dsimp only at hSw); go_simp <;> with_reducible rfl)
        (try simp only [Act.put, List.setIfInBounds_toArray, List.set_cons_zero, List.set_cons_succ])
        refine wpAnyH_ready (rs := [0, 10]) (by kernel_rfl) (by simp) ?_
        refine (AllReadyH.cons rfl (fun K hK => ?_) (AllReadyH.cons rfl (fun K hK => ?_) AllReadyH.nil))
        · skip
          go_simp
          refine hK.out _ _ ?_ (fun hHeld => ?_)
          · (try go_split_ands); refine ⟨?_, ?_, ?_⟩ <;> first | assumption | exact cnext (by assumption) (by assumption) | exact bnext (by assumption) (by assumption) | exact Below.alloc (by assumption) (Below.size (by assumption)) _ | (go_keep; done)
          clear hK K
          have hE : OwnI wr.heap.size (wr.drew.alloc (.cells #[] 2)) (.slice (some ⟨wr.heap.size, 0, none⟩) 0 0) [] := by have h7 := own_empty wr.drew wr.heap.size (by first | exact Nat.le_refl _ | (simp; done) | (simp; omega)); rw [show wr.drew.heap.size = wr.heap.size from by first | rfl | simp] at h7; exact h7
          (try simp only [Act.put, List.setIfInBounds_toArray, List.set_cons_zero, List.set_cons_succ])
          refine wpAnyH_ready (rs := [5, 10]) (by kernel_rfl) (by simp) ?_
          refine (AllReadyH.cons rfl (fun K hK => ?_) (AllReadyH.cons rfl (fun K hK => ?_) AllReadyH.nil))
          · skip
            have hBw : Below wr.heap.size wr (wr.drew.alloc (.cells #[] 2)) := by go_split_ands; assumption
            refine step_app_rg rfl (.tmp 18) (.tmp 22) rfl wr.heap.size wr.heap.size (Nat.le_refl _) (.slice (some ⟨wr.heap.size, 0, none⟩) 0 0) [] (by simp [Act.eval, Act.put]) hE hBw word wv (by simp [Act.eval, Act.put]) (Hri.out.below hBw).2 (by simp; omega) hBw.size ?_
            intro v1 w1 hown1 hB1 hg1
            rw [List.nil_append] at hown1
            refine hK.out _ _ ?_ (fun hHeld => ?_)
            · (try go_split_ands); refine ⟨?_, ?_, ?_⟩ <;> first | assumption | exact cnext (by assumption) (by assumption) | exact bnext (by assumption) (by assumption) | exact Below.alloc (by assumption) (Below.size (by assumption)) _ | (go_keep; done)
            clear hK K
            obtain ⟨ao1, cap1, rfl⟩ := hown1.shape
            (try simp only [Act.put, List.setIfInBounds_toArray, List.set_cons_zero, List.set_cons_succ])
            refine wpAnyH_ready (rs := [10]) (by kernel_rfl) (by simp) ?_
            refine (AllReadyH.cons rfl (fun K hK => ?_) AllReadyH.nil)
            · skip
              go_simp
              refine hK.out _ _ ?_ (fun hHeld => ?_)
              · (try go_split_ands); refine ⟨?_, ?_, ?_⟩ <;> first | assumption | exact cnext (by assumption) (by assumption) | exact bnext (by assumption) (by assumption) | exact Below.alloc (by assumption) (Below.size (by assumption)) _ | (go_keep; done)
              clear hK K
              have hX1 : (w1.alloc (.cells #[.int .i64 x] 2)).cell? ⟨w1.heap.size, 0, none⟩ = some (.int .i64 x) := by have h7 := heap_alloc_new w1 (.cells #[.int .i64 x] 2); rw [show w1.heap.size = w1.heap.size from by first | rfl | simp] at h7; exact (cell_of_row _ _ _ _ _ _ h7).trans rfl
              have hX := hX1
              (try simp only [Act.put, List.setIfInBounds_toArray, List.set_cons_zero, List.set_cons_succ])
              refine wpAnyH_done (by kernel_rfl) ?_ _
              show wpList _ _ _ _ _ _
              have hBz : Below wr.heap.size wr w1 := by go_split_ands; assumption
              clear hHeld hE hX hX1
              refine app_ints rfl _ _ rfl wr.heap.size wr.heap.size (Nat.le_refl _) (.slice ao1 word.length cap1) word (by rfl) hown1 hBz _ _ [x] (by rfl) (by rfl) (by simp; omega) hBz.size ?_
              intro v2 w2 hown2 hB2 hg2
              clear hown1 hg2 hg1 hB1 hBz
              go_wp2_with fail
              go_meet
              case rel => exact ⟨_, rfl, hown2, hB2⟩
          · skip
            go_simp
            refine hK.out _ _ ?_ (fun hHeld => ?_)
            · (try go_split_ands); refine ⟨?_, ?_, ?_⟩ <;> first | assumption | exact cnext (by assumption) (by assumption) | exact bnext (by assumption) (by assumption) | exact Below.alloc (by assumption) (Below.size (by assumption)) _ | (go_keep; done)
            clear hK K
            have hX1 : ((wr.drew.alloc (.cells #[] 2)).alloc (.cells #[.int .i64 x] 2)).cell? ⟨wr.heap.size + 1, 0, none⟩ = some (.int .i64 x) := by have h7 := heap_alloc_new (wr.drew.alloc (.cells #[] 2)) (.cells #[.int .i64 x] 2); rw [show (wr.drew.alloc (.cells #[] 2)).heap.size = wr.heap.size + 1 from by first | rfl | simp] at h7; exact (cell_of_row _ _ _ _ _ _ h7).trans rfl
            have hX := hX1
            replace hE := World.ownsRow.alloc hE (.cells #[.int .i64 x] 2)
            (try simp only [Act.put, List.setIfInBounds_toArray, List.set_cons_zero, List.set_cons_succ])
            refine wpAnyH_ready (rs := [5]) (by kernel_rfl) (by simp) ?_
            refine (AllReadyH.cons rfl (fun K hK => ?_) AllReadyH.nil)
            · skip
              have hBw : Below wr.heap.size wr ((wr.drew.alloc (.cells #[] 2)).alloc (.cells #[.int .i64 x] 2)) := by go_split_ands; assumption
              refine step_app_rg rfl (.tmp 18) (.tmp 22) rfl wr.heap.size wr.heap.size (Nat.le_refl _) (.slice (some ⟨wr.heap.size, 0, none⟩) 0 0) [] (by simp [Act.eval, Act.put]) hE hBw word wv (by simp [Act.eval, Act.put]) (Hri.out.below hBw).2 (by simp; omega) hBw.size ?_
              intro v1 w1 hown1 hB1 hg1
              rw [List.nil_append] at hown1
              refine hK.out _ _ ?_ (fun hHeld => ?_)
              · (try go_split_ands); refine ⟨?_, ?_, ?_⟩ <;> first | assumption | exact cnext (by assumption) (by assumption) | exact bnext (by assumption) (by assumption) | exact Below.alloc (by assumption) (Below.size (by assumption)) _ | (go_keep; done)
              clear hK K
              have hX2 := hg1.cell hX1 (by simp [Value.ownBlock]); clear hX1; try clear hX
              obtain ⟨ao1, cap1, rfl⟩ := hown1.shape
              (try simp only [Act.put, List.setIfInBounds_toArray, List.set_cons_zero, List.set_cons_succ])
              refine wpAnyH_done (by kernel_rfl) ?_ _
              show wpList _ _ _ _ _ _
              have hBz : Below wr.heap.size wr w1 := by go_split_ands; assumption
              clear hHeld hE
              refine app_src rfl _ _ rfl wr.heap.size wr.heap.size (Nat.le_refl _) (.slice ao1 word.length cap1) word (by rfl) hown1 hBz [x] ⟨wr.heap.size + 1, 0, none⟩ 1 (by first | rfl | simp [Act.eval, Act.put]) (fun j hj => by obtain rfl : j = 0 := (by simpa using hj); rw [Addr.add_lit]; exact hX2) (by simp; omega) hBz.size ?_
              intro v2 w2 hown2 hB2 hg2
              clear hown1 hg2 hg1 hB1 hBz hX2
              go_wp2_with fail
              go_meet
              case rel => exact ⟨_, rfl, hown2, hB2⟩
        · skip
          go_simp
          refine hK.out _ _ ?_ (fun hHeld => ?_)
          · (try go_split_ands); refine ⟨?_, ?_, ?_⟩ <;> first | assumption | exact cnext (by assumption) (by assumption) | exact bnext (by assumption) (by assumption) | exact Below.alloc (by assumption) (Below.size (by assumption)) _ | (go_keep; done)
          clear hK K
          have hX1 : (wr.drew.alloc (.cells #[.int .i64 x] 2)).cell? ⟨wr.heap.size, 0, none⟩ = some (.int .i64 x) := by have h7 := heap_alloc_new wr.drew (.cells #[.int .i64 x] 2); rw [show wr.drew.heap.size = wr.heap.size from by first | rfl | simp] at h7; exact (cell_of_row _ _ _ _ _ _ h7).trans rfl
          have hX := hX1
          (try simp only [Act.put, List.setIfInBounds_toArray, List.set_cons_zero, List.set_cons_succ])
          refine wpAnyH_ready (rs := [0]) (by kernel_rfl) (by simp) ?_
          refine (AllReadyH.cons rfl (fun K hK => ?_) AllReadyH.nil)
          · skip
            go_simp
            refine hK.out _ _ ?_ (fun hHeld => ?_)
            · (try go_split_ands); refine ⟨?_, ?_, ?_⟩ <;> first | assumption | exact cnext (by assumption) (by assumption) | exact bnext (by assumption) (by assumption) | exact Below.alloc (by assumption) (Below.size (by assumption)) _ | (go_keep; done)
            clear hK K
            have hE : OwnI wr.heap.size ((wr.drew.alloc (.cells #[.int .i64 x] 2)).alloc (.cells #[] 2)) (.slice (some ⟨wr.heap.size + 1, 0, none⟩) 0 0) [] := by have h7 := own_empty (wr.drew.alloc (.cells #[.int .i64 x] 2)) wr.heap.size (by first | exact Nat.le_refl _ | (simp; done) | (simp; omega)); rw [show (wr.drew.alloc (.cells #[.int .i64 x] 2)).heap.size = wr.heap.size + 1 from by first | rfl | simp] at h7; exact h7
            have hX1 := cnext (show Below (wr.drew.alloc (.cells #[.int .i64 x] 2)).heap.size (wr.drew.alloc (.cells #[.int .i64 x] 2)) ((wr.drew.alloc (.cells #[.int .i64 x] 2)).alloc (.cells #[] 2)) by go_grown) hX
            clear hX
            (try simp only [Act.put, List.setIfInBounds_toArray, List.set_cons_zero, List.set_cons_succ])
            refine wpAnyH_ready (rs := [5]) (by kernel_rfl) (by simp) ?_
            refine (AllReadyH.cons rfl (fun K hK => ?_) AllReadyH.nil)
            · skip
              have hBw : Below wr.heap.size wr ((wr.drew.alloc (.cells #[.int .i64 x] 2)).alloc (.cells #[] 2)) := by go_split_ands; assumption
              refine step_app_rg rfl (.tmp 18) (.tmp 22) rfl wr.heap.size wr.heap.size (Nat.le_refl _) (.slice (some ⟨wr.heap.size + 1, 0, none⟩) 0 0) [] (by simp [Act.eval, Act.put]) hE hBw word wv (by simp [Act.eval, Act.put]) (Hri.out.below hBw).2 (by simp; omega) hBw.size ?_
              intro v1 w1 hown1 hB1 hg1
              rw [List.nil_append] at hown1
              refine hK.out _ _ ?_ (fun hHeld => ?_)
              · (try go_split_ands); refine ⟨?_, ?_, ?_⟩ <;> first | assumption | exact cnext (by assumption) (by assumption) | exact bnext (by assumption) (by assumption) | exact Below.alloc (by assumption) (Below.size (by assumption)) _ | (go_keep; done)
              clear hK K
              have hX2 := hg1.cell hX1 (by simp [Value.ownBlock]); clear hX1; try clear hX
              obtain ⟨ao1, cap1, rfl⟩ := hown1.shape
              (try simp only [Act.put, List.setIfInBounds_toArray, List.set_cons_zero, List.set_cons_succ])
              refine wpAnyH_done (by kernel_rfl) ?_ _
              show wpList _ _ _ _ _ _
              have hBz : Below wr.heap.size wr w1 := by go_split_ands; assumption
              clear hHeld hE
              refine app_src rfl _ _ rfl wr.heap.size wr.heap.size (Nat.le_refl _) (.slice ao1 word.length cap1) word (by rfl) hown1 hBz [x] ⟨wr.heap.size, 0, none⟩ 1 (by first | rfl | simp [Act.eval, Act.put]) (fun j hj => by obtain rfl : j = 0 := (by simpa using hj); rw [Addr.add_lit]; exact hX2) (by simp; omega) hBz.size ?_
              intro v2 w2 hown2 hB2 hg2
              clear hown1 hg2 hg1 hB1 hBz hX2
              go_wp2_with fail
              go_meet
              case rel => exact ⟨_, rfl, hown2, hB2⟩
      case rest =>
        obtain ⟨nv, hnv, hown, hB2⟩ := hcut
        obtain rfl := hnv.symm
        clear hc hcw hbw
        have hst2 := Hst.out.below hB2
        have hB3 := bnext HB.out hB2
        have hbk := hown.lt
        have Hnl := Lib.hid (show (word ++ [x]).length = word.length + 1 by simp)
        have Hn64 := Lib.hid (show AllI64 (word ++ [x]) from fun z hz => by rcases List.mem_append.1 hz with hz | hz; exact Hri.out.1 z hz; obtain rfl := List.mem_singleton.1 hz; exact hx)
        have Hown := Lib.hid hown
        have Hrn := Lib.hid (hown.oi Hn64.out).ri
        have Hst2 := Lib.hid hst2
        have HB3 := Lib.hid hB3
        have Hbk := Lib.hid hbk
        have Hnew := Lib.hid (show ∀ k, nv.ownBlock = some k → k < wc.heap.size ∧ (Value.slice (some ⟨gw, 0, none⟩) ws.length capw).ownBlock ≠ some k ∧ (Value.slice aoo out.length capo).ownBlock ≠ some k ∧ ¬ noF k from fun k hk => by
          have h1 := Hbk.out k hk
          refine ⟨h1.2, fun e => ?_, fun e => ?_, id⟩
          · have := (World.ownsRow.lt Hst.out.hd k e).2; omega
          · have := (Hst.out.o.lt k e).2; omega)
        have Hq2 := Lib.hid (show grF (x :: zs.drop (k + 1)) (ws.map Prod.snd) out now = grF zs [[]] [] 0 by rw [← Hd.out]; exact Hq.out)
        clear hown hst2 hB3 hB2 Hst HB Hri Hq Hd hbk Hbk
        have Hnx := Lib.hid (show wordAt (ws.map Prod.snd) (now : Int) ++ [x] = word ++ [x] by rw [Hw.out])
        obtain ⟨aon, capn, rfl⟩ := Hown.out.shape
        generalize word ++ [x] = nx at *
        have hnk : nx.length ≤ k + 1 := by have := Hnl.out; omega
        clear Hw
        obtain ⟨FD, hFD⟩ : ∃ FD, fndF (ws.map Prod.snd) nx 0 (-1) = FD := ⟨_, rfl⟩
        have hbd := fndF_bd (ws.map Prod.snd) nx 0 (-1) (by omega) (by omega)
        rw [hFD, List.length_map] at hbd
        have HFD := Lib.hid hFD
        clear hFD
        go_wp2_with fail
        go_loopw [8, 32] (fun fv jv wi => ∃ (j : Nat) (f : Int) (n : Nat), jv = .int .i64 j ∧ j ≤ ws.length ∧ fv = .int .i64 f ∧ fndF ((ws.map Prod.snd).drop j) nx j f = FD ∧ -1 ≤ f ∧ f < j ∧ wi = wc.drewN n) (fun _ jv _ => ws.length - (intOf jv).toNat)
        case atStart => exact ⟨0, -1, 0, rfl, Nat.zero_le _, rfl, HFD.out, by omega, by omega, rfl⟩
        case round =>
          obtain ⟨j, f, n, rfl, hj, rfl, hq, hf0, hf1, rfl⟩ := hrel
          by_cases hjl : j < ws.length
          · rw [fndF_step (by simpa using hjl), List.getElem_map] at hq
            obtain ⟨_, _, e, hcw⟩ := Hst2.out.hd.at j hjl
            simp only [Value.slice.injEq, Option.some.injEq, Addr.mk.injEq, and_true, true_and] at e
            obtain ⟨rfl, rfl⟩ := e
            have hri := Hst2.out.rd _ (List.getElem_mem hjl)
            have Hq := Lib.hid hq
            clear hq
            generalize ws[j] = pw at *
            obtain ⟨wv2, word2⟩ := pw
            replace hcw : wc.cell? ⟨gw, j, none⟩ = some wv2 := hcw
            replace hri : RI wc wv2 word2 := hri
            have hB := below_drewN wc n
            replace hri := hri.below hB
            have hrn := Hrn.out.below hB
            replace hcw := cnext hB hcw
            have hjI : (j : Int) < (ws.length : Int) := by omega
            have Hbn := Lib.hid (show ∀ m, (wc.drewN n).drewN m = wc.drewN (n + m) from fun m => World.drewN_drewN _ _ _)
            have Hsame := Lib.hid (l00Same_any _ _ word2 nx (wc.drewN n) hri hrn)
            obtain ⟨W, hW⟩ : ∃ W, wc.drewN n = W := ⟨_, rfl⟩
            rw [hW] at hcw Hsame Hbn
            rw [hW]
            clear hri hrn hB hW
            by_cases he : word2 = nx
            · have Hq3 := Lib.hid (show fndF ((ws.map Prod.snd).drop (j + 1)) nx (j + 1) (j : Int) = FD by rw [← Hq.out]; rw [if_pos he])
              have Heq := Lib.hid (show eqL word2 nx = true by rw [he]; exact eqL_self _)
              clear he
              go_wp2_with fail
              refine Hsame.out.mono ?_
              rw [Heq.out]
              rintro e w' ⟨rfl, m, rfl⟩
              go_wp2
              go_roundw
              case rel => exact ⟨j + 1, j, _, by go_num, by omega, rfl, Hq3.out, by omega, by omega, Hbn.out _⟩
              case measure => simp [intOf]; omega
            · have Hq3 := Lib.hid (show fndF ((ws.map Prod.snd).drop (j + 1)) nx (j + 1) f = FD by rw [← Hq.out]; rw [if_neg he])
              have Heq := Lib.hid (show eqL word2 nx = false by cases h : eqL word2 nx with | false => rfl | true => exact absurd (eqL_true h) he)
              clear he
              go_wp2_with fail
              refine Hsame.out.mono ?_
              rw [Heq.out]
              rintro e w' ⟨rfl, m, rfl⟩
              go_wp2
              go_roundw
              case rel => exact ⟨j + 1, f, _, by go_num, by omega, rfl, Hq3.out, hf0, by omega, Hbn.out _⟩
              case measure => simp [intOf]; omega
          · rw [List.drop_of_length_le (by simp; omega), fndF] at hq
            subst hq
            have hst3 := Hst2.out.below (below_drewN wc n)
            have hB4 := bnext HB3.out (below_drewN wc n)
            have hrn := Hrn.out.below (below_drewN wc n)
            have hsz : wc.heap.size = (wc.drewN n).heap.size := rfl
            have Hnew2 := Lib.hid (show ∀ k, (Value.slice aon nx.length capn).ownBlock = some k → k < (wc.drewN n).heap.size ∧ (Value.slice (some ⟨gw, 0, none⟩) ws.length capw).ownBlock ≠ some k ∧ (Value.slice aoo out.length capo).ownBlock ≠ some k ∧ ¬ noF k from Hnew.out)
            clear hsz Hnew
            generalize wc.drewN n = wd at *
            by_cases hf : 0 ≤ f
            · obtain ⟨m, rfl⟩ := Int.eq_ofNat_of_zero_le hf
              have Hq3 := Lib.hid (show grF (zs.drop (k + 1)) (ws.map Prod.snd) out (m : Int) = grF zs [[]] [] 0 by
                rw [← Hq2.out, grF, Hnx.out, HFD.out, if_pos hf])
              have Hst3 := Lib.hid hst3
              clear hst3 hrn
              go_wp2
              go_roundg (gk - 1)
              case rel => exact ⟨k + 1, ws, out, m, by omega, by omega, by go_num, rfl, Hq3.out, by omega, by omega, by omega, Ho64.out, (fun p hp => by have := Hpl.out p hp; omega), Hst3.out, hB4⟩
              case measure => omega
            · have Hq3 := Lib.hid (show grF (zs.drop (k + 1)) (ws.map Prod.snd ++ [nx]) (out ++ [(now : Int), x]) 0 = grF zs [[]] [] 0 by
                rw [← Hq2.out, grF, Hnx.out, HFD.out, if_neg hf])
              have Hst3 := Lib.hid hst3
              have Hrn2 := Lib.hid hrn
              have hfn : f < 0 := by omega
              have hn64 : I64 (now : Int) := by constructor <;> omega
              have hcz := cnext hB4 hc0
              have hszw := hB4.size
              clear hst3 hrn
              go_wp2_with (at_builtin; go_must (refine app_row_at rfl _ _ rfl w.heap.size w.heap.size (Nat.le_refl _) (.slice (some ⟨gw, 0, none⟩) ws.length capw) ws rfl Hst3.out.hd hB4 _ _ (Value.slice aon nx.length capn, nx) rfl rfl rfl (by omega) hszw ?_))
              intro v5 w5 hown5 hB5 hg5 hat5
              have hst5 := Hst3.out.pushW (p := (Value.slice aon nx.length capn, nx)) Hrn2.out Hnew2.out hown5 hg5 hat5
              have Hwl5 := Lib.hid (show (ws ++ [(Value.slice aon nx.length capn, nx)]).length = ws.length + 1 by simp)
              have Hws5 := Lib.hid (show (ws ++ [(Value.slice aon nx.length capn, nx)]).map Prod.snd = ws.map Prod.snd ++ [nx] by simp)
              have Hpl5 := Lib.hid (show ∀ p ∈ ws ++ [(Value.slice aon nx.length capn, nx)], p.2.length ≤ k + 1 from fun p hp => by
                rcases List.mem_append.1 hp with hp | hp
                · have := Hpl.out p hp; omega
                · obtain rfl := List.mem_singleton.1 hp; exact hnk)
              have hcy := cnext hB5 hc0
              have hsz5 := hB5.size
              obtain ⟨aw5, cw5, rfl⟩ := hown5.shape
              clear hown5 hg5 hat5 hcz hszw hB4 Hst3
              generalize ws ++ [(Value.slice aon nx.length capn, nx)] = ws5 at *
              have Hst5 := Lib.hid hst5
              clear hst5
              go_wp2_with (at_builtin; go_must (refine app_ints_at rfl _ _ rfl w.heap.size w.heap.size (Nat.le_refl _) (.slice aoo out.length capo) out rfl Hst5.out.o hB5 _ _ [(now : Int), x] rfl rfl (by simp; omega) hsz5 ?_))
              intro v6 w6 hown6 hB6 hg6 hat6
              have hst6 := Hst5.out.pushO hown6 hg6 hat6
              have Hol6 := Lib.hid (show (out ++ [(now : Int), x]).length = out.length + 2 by simp)
              have Ho6 := Lib.hid (show AllI64 (out ++ [(now : Int), x]) from fun z hz => by rcases List.mem_append.1 hz with hz | hz; exact Ho64.out z hz; simp at hz; rcases hz with rfl | rfl; exact hn64; exact hx)
              have Hq6 := Lib.hid (show grF (zs.drop (k + 1)) (ws5.map Prod.snd) (out ++ [(now : Int), x]) ((0 : Nat) : Int) = grF zs [[]] [] 0 by rw [Hws5.out]; exact Hq3.out)
              obtain ⟨ao6, cap6, rfl⟩ := hown6.shape
              have Hst6 := Lib.hid hst6
              clear hst6 hown6 hg6 hat6 hcy Hst5
              generalize out ++ [(now : Int), x] = out6 at *
              go_wp2
              go_roundg (gk - 1)
              case rel => exact ⟨k + 1, ws5, out6, 0, by omega, by omega, by go_num, rfl, Hq6.out, by have := Hwl5.out; omega, by have := Hwl5.out; omega, by have := Hol6.out; omega, Ho6.out, Hpl5.out, Hst6.out, hB6⟩
              case measure => omega
    · have hke : zs.drop k = [] := List.drop_of_length_le (by omega)
      obtain ⟨aoo, capo, rfl⟩ := hst.o.shape
      have hn64 : I64 (now : Int) := by constructor <;> omega
      by_cases hn : 0 < now
      · have HF := Lib.hid (show out ++ [(now : Int), -1] = grF zs [[]] [] 0 by rw [← Hq.out, hke, grF, if_pos (by omega)])
        have Ho2 := Lib.hid (show AllI64 (out ++ [(now : Int), -1]) from fun z hz => by rcases List.mem_append.1 hz with hz | hz; exact Ho64.out z hz; simp at hz; rcases hz with rfl | rfl; exact hn64; exact ⟨by decide, by decide⟩)
        have hsz := hB.size
        have Hst := Lib.hid hst
        have hnI : (0 : Int) < (now : Int) := by omega
        clear hke hst
        go_wp2_with (at_builtin; go_must (refine app_ints rfl _ _ rfl w.heap.size w.heap.size (Nat.le_refl _) (.slice aoo out.length capo) out rfl Hst.out.o hB _ _ [(now : Int), -1] rfl rfl (by simp; omega) hsz ?_))
        intro v2 w2 hown2 hB2 hg2
        go_wp2
        go_ret
        exact ⟨_, rfl, by rw [← HF.out]; exact OwnI.oi hown2 Ho2.out, hB2⟩
      · have HF := Lib.hid (show out = grF zs [[]] [] 0 by rw [← Hq.out, hke, grF, if_neg (by omega)])
        have Hst := Lib.hid hst
        have hnI : ¬ (0 : Int) < (now : Int) := by omega
        clear hke hst
        go_wp2
        go_ret
        exact ⟨_, rfl, by rw [← HF.out]; exact OwnI.oi Hst.out.o Ho64.out, hB⟩
end Go.Proofs.Ytjeakgakpioieaa
