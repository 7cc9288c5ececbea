/- The bits of a text, in the reference. Conditions: valid counts, letters of them, a growth of at most 16. -/
import Derived.Test.YtnhgloplobphnaaRngR
import Derived.Deep.CutRange
namespace Go.Proofs.Ytnhgloplobphnaa
open Go.RowKit
set_option maxRecDepth 100000
set_option linter.unusedVariables false
set_option linter.unusedSimpArgs false
attribute [local go_sem ↓] Go.wp_at_zero Go.wp_at_succ

/-- What lies in memory between two letters: the counts' box and row, the bits' row, the range. -/
structure RsS (w : World) (n : Int) (A R g off len cap : Nat) (wr : World) (cs : List Int) (low high : Int) (wait : Nat) (bits : List Bool) (bv : Value) : Prop where
  a : wr.heap[A]? = some (.cells #[.int .i64 n, .slice (some ⟨g, off, none⟩) len cap] 40 (0, 0))
  cl : OB (Value.int .i64) w.heap.size wr g off len cap cs
  r : wr.heap[R + 1]? = some (.cells #[.int .i64 low, .int .i64 high, .int .i64 wait, bv] 47 (0, 0))
  b : OwnB R wr bv bits
  lo : Below w.heap.size w wr
  gR : g < R
  aR : A < R
  ag : A ≠ g
  aw : w.heap.size ≤ A
section
variable {w : World} {n : Int} {A R g off len cap : Nat} {wr wc : World} {cs : List Int} {low high : Int} {wait : Nat} {bits : List Bool} {bv : Value}
theorem RsS.cut (h : RsS w n A R g off len cap wr cs low high wait bits bv) {low' high' : Int} (h1 : wc.heap[R + 1]? = some (.cells #[.int .i64 low', .int .i64 high', .int .i64 wait, bv] 47 (0, 0))) (h2 : Kpt (· = R + 1) wr wc) : RsS w n A R g off len cap wc cs low' high' wait bits bv :=
  have := h.gR; have := h.aR; have := h.aw
  have hne : bv.ownBlock ≠ some (R + 1) := blk_not_row h.r (by decide) h.b
  ⟨h2.blk h.a (by omega), h2.ob h.cl (by omega), h1, h2.row h.b (fun k e hk => hne (by rw [e, hk])), h2.below h.lo (fun k e => by omega) h.lo.size, h.gR, h.aR, h.ag, h.aw⟩
theorem RsS.put (h : RsS w n A R g off len cap wr cs low high wait bits bv) {low' high' : Int} {bv' : Value} {wait' : Nat} {bits' : List Bool} (h1 : wc.heap[R + 1]? = some (.cells #[.int .i64 low', .int .i64 high', .int .i64 wait', bv'] 47 (0, 0))) (h2 : OwnB R wc bv' bits') (h3 : Kpt (SndF R (R + 1) wr) wr wc) : RsS w n A R g off len cap wc cs low' high' wait' bits' bv' :=
  have := h.gR; have := h.aR; have := h.aw
  ⟨h3.blk h.a (by unfold SndF; omega), h3.ob h.cl (by unfold SndF; omega), h1, h2, h3.below h.lo (fun k e => by rcases e with e | e <;> omega) h.lo.size, h.gR, h.aR, h.ag, h.aw⟩
theorem RsS.set (h : RsS w n A R g off len cap wr cs low high wait bits bv) (wait' : Nat) : RsS w n A R g off len cap (wr.setCell ⟨R + 1, 2, none⟩ (.int .i64 wait')) cs low high wait' bits bv := by
  have := h.gR; have := h.aR; have := h.aw
  have hne : bv.ownBlock ≠ some (R + 1) := blk_not_row h.r (by decide) h.b
  exact ⟨blk_other (by show R + 1 ≠ _; omega) h.a, h.cl.far _ _ (by show R + 1 ≠ _; omega), four2 h.r, World.ownsRow.kept h.b (grown_setCell wr ⟨R + 1, 2, none⟩ _) (.inr hne), h.lo.setCell (p := ⟨R + 1, 2, none⟩) (by show w.heap.size ≤ R + 1; omega) _, h.gR, h.aR, h.ag, h.aw⟩
theorem RsS.bump (h : RsS w n A R g off len cap wr cs low high wait bits bv) (l : Nat) (hl : l < cs.length) (x : Int) : RsS w n A R g off len cap (wr.setCell ⟨g, off + l, none⟩ (.int .i64 x)) (cs.set l x) low high wait bits bv := by
  have := h.gR; have := h.aR; have := h.aw
  have hlo := h.cl.lo
  have hne : bv.ownBlock ≠ some g := fun e => by have := (World.ownsRow.lt h.b g e).1; omega
  exact ⟨blk_other (fun e => h.ag e.symm) h.a, h.cl.put l hl x, blk_other (by show g ≠ _; omega) h.r, World.ownsRow.kept h.b (grown_setCell wr ⟨g, off + l, none⟩ _) (.inr hne), h.lo.setCell (p := ⟨g, off + l, none⟩) (by show w.heap.size ≤ g; omega) _, h.gR, h.aR, h.ag, h.aw⟩
theorem RsS.drewN (h : RsS w n A R g off len cap wr cs low high wait bits bv) (m : Nat) : RsS w n A R g off len cap (wr.drewN m) cs low high wait bits bv :=
  ⟨h.a, h.cl, h.r, h.b, bnext h.lo (below_drewN _ m), h.gR, h.aR, h.ag, h.aw⟩
end
set_option maxHeartbeats 4000000 in
theorem l05Bits_any (n : Int) (v : Value) (cs : List Int) (P : Nat) (vt : Value) (zs : List Int) (gr : Int) (w : World) (h : RI w v cs) (c0 : w.cell? ⟨P, 0, none⟩ = some (.int .i64 n)) (c1 : w.cell? ⟨P, 1, none⟩ = some v) (ht : RI w vt zs) (hp : Pos cs) (hcl : cs.length ≤ 16) (hcl1 : 1 ≤ cs.length) (hsum : sumL cs + gr * zs.length ≤ 16384) (hg0 : 0 ≤ gr) (hg1 : gr ≤ 16) (hzl : zs.length ≤ 64) (hz : ∀ z ∈ zs, 0 ≤ z ∧ z < cs.length) :
    Calls Try.prog 23 #[.pointer (some ⟨P, 0, none⟩), vt, .int .i64 gr] w fun e w' => ∃ v', e = .returned (.tuple #[v', .bool (rbOk gr cs zs)]) ∧ Og Value.bool w.heap.size w' v' (rb gr cs zs) ∧ Below w.heap.size w w' := by
  obtain ⟨ao, cap, rfl⟩ := h.shape
  obtain ⟨aot, capt, rfl⟩ := ht.shape
  have hlen := h.len
  have hlt := ht.len
  obtain ⟨b0, o0, e0, -, hcs⟩ := h.2.cells (by omega)
  obtain rfl := e0
  have H := Lib.hid h
  have HT := Lib.hid ht
  have Hz := Lib.hid hz
  have Hp := Lib.hid hp
  have Hsum := Lib.hid hsum
  have hbw : Below w.heap.size w w.drew := below_drewN w 1
  clear h ht hz hp hsum
  go_enter Try.func23, Try.ntmps23
  go_upto_region 1 with fail
  go_cut [8] from 11 to 21 (fun v8 wx => ∃ A g off ck, v8 = .pointer (some ⟨A, 0, none⟩) ∧ wx.heap[A]? = some (.cells #[.int .i64 n, .slice (some ⟨g, off, none⟩) cs.length ck] 40 (0, 0)) ∧ OB (Value.int .i64) w.heap.size wx g off cs.length ck cs ∧ A ≠ g ∧ w.heap.size ≤ A ∧ Below w.heap.size w wx)
  case first =>
    refine wp_region_held_tail 12 (S := fun W' => W'.cell? ⟨P, 0, none⟩ = some (.int .i64 n) ∧ W'.cell? ⟨P, 1, none⟩ = some (.slice (some ⟨b0, o0, none⟩) cs.length cap) ∧ Below w.heap.size w W') (by kernel_rfl) (by decide +kernel) ?_ (fun hHeld => ?_)
    · (try go_split_ands); refine ⟨?_, ?_, ?_⟩ <;> first | assumption | exact cnext (by assumption) (by assumption) | exact bnext (by assumption) (by assumption) | exact Below.alloc (by assumption) (Below.size (by assumption)) _ | (go_keep; done)
    simp only [List.take_succ_cons, List.take_zero, List.drop_succ_cons, List.drop_zero, List.length_cons, List.length_nil, Nat.reduceAdd]
    refine wpAnyH_tk (i := 0) (v := ?_) (some 11) rfl rfl (by kernel_rfl) (by decide +kernel) (by decide +kernel) (fun _ _ _ h => h) (by kernel_rfl) ?_ hHeld ?_
    rotate_left
    · (intro w hSw; (try dsimp only at hSw); go_simp <;> with_reducible rfl)
    (try simp only [Act.put, List.setIfInBounds_toArray, List.set_cons_zero, List.set_cons_succ])
    refine wpAnyH_tk (i := 1) (v := ?_) (some 12) rfl rfl (by kernel_rfl) (by decide +kernel) (by decide +kernel) (fun _ _ _ h => h) (by kernel_rfl) ?_ hHeld ?_
    rotate_left
    · (intro w hSw; (try dsimp only at hSw); go_simp <;> with_reducible rfl)
    (try simp only [Act.put, List.setIfInBounds_toArray, List.set_cons_zero, List.set_cons_succ])
    refine wpAnyH_tk (i := 2) (v := ?_) (some 13) rfl rfl (by kernel_rfl) (by decide +kernel) (by decide +kernel) (fun _ _ _ h => h) (by kernel_rfl) ?_ hHeld ?_
    rotate_left
    · (intro w hSw; (try dsimp only at hSw); go_simp <;> with_reducible rfl)
    (try simp only [Act.put, List.setIfInBounds_toArray, List.set_cons_zero, List.set_cons_succ])
    refine wpAnyH_tk (i := 3) (v := ?_) (some 14) rfl rfl (by kernel_rfl) (by decide +kernel) (by decide +kernel) (fun _ _ _ h => h) (by kernel_rfl) ?_ hHeld ?_
    rotate_left
    · (intro w hSw; (try dsimp only at hSw); go_simp <;> with_reducible rfl)
    (try simp only [Act.put, List.setIfInBounds_toArray, List.set_cons_zero, List.set_cons_succ])
    refine wpAnyH_tk (i := 5) (v := ?_) (some 16) rfl rfl (by kernel_rfl) (by decide +kernel) (by decide +kernel) (fun _ _ _ h => h) (by kernel_rfl) ?_ hHeld ?_
    rotate_left
    · (intro w hSw; (try dsimp only at hSw); go_simp <;> with_reducible rfl)
    (try simp only [Act.put, List.setIfInBounds_toArray, List.set_cons_zero, List.set_cons_succ])
    refine wpAnyH_tk (i := 6) (v := ?_) (some 17) rfl rfl (by kernel_rfl) (by decide +kernel) (by decide +kernel) (fun _ _ _ h => h) (by kernel_rfl) ?_ hHeld ?_
    rotate_left
    · (intro w hSw; (try dsimp only at hSw); go_simp <;> with_reducible rfl)
    (try simp only [Act.put, List.setIfInBounds_toArray, List.set_cons_zero, List.set_cons_succ])
    refine wpAnyH_tk (i := 7) (v := ?_) (some 18) rfl rfl (by kernel_rfl) (by decide +kernel) (by decide +kernel) (fun _ _ _ h => h) (by kernel_rfl) ?_ hHeld ?_
    rotate_left
    · (intro w hSw; (try dsimp only at hSw); go_simp <;> with_reducible rfl)
    (try simp only [Act.put, List.setIfInBounds_toArray, List.set_cons_zero, List.set_cons_succ])
    refine wpAnyH_tk (i := 8) (v := ?_) (some 19) rfl rfl (by kernel_rfl) (by decide +kernel) (by decide +kernel) (fun _ _ _ h => h) (by kernel_rfl) ?_ hHeld ?_
    rotate_left
    · (intro w hSw; (try dsimp only at hSw); go_simp <;> with_reducible rfl)
    (try simp only [Act.put, List.setIfInBounds_toArray, List.set_cons_zero, List.set_cons_succ])
    refine wpAnyH_ready (rs := [4, 11]) (by kernel_rfl) (by simp) ?_
    refine (AllReadyH.cons rfl (fun K hK => ?_) (AllReadyH.cons rfl (fun K hK => ?_) AllReadyH.nil))
    · skip
      go_simp
      refine hK.out _ _ ?_ (fun hHeld => ?_)
      · (try go_split_ands); refine ⟨?_, ?_, ?_⟩ <;> first | assumption | exact cnext (by assumption) (by assumption) | exact bnext (by assumption) (by assumption) | exact Below.alloc (by assumption) (Below.size (by assumption)) _ | (go_keep; done)
      clear hK K
      have hE : OwnI w.heap.size (w.drew.alloc (.cells #[] 2)) (.slice (some ⟨w.drew.heap.size, 0, none⟩) 0 0) [] := own_empty w.drew _ (by first | exact Nat.le_refl _ | (simp; done) | (simp; omega))
      (try simp only [Act.put, List.setIfInBounds_toArray, List.set_cons_zero, List.set_cons_succ])
      refine wpAnyH_ready (rs := [9, 11]) (by kernel_rfl) (by simp) ?_
      refine (AllReadyH.cons rfl (fun K hK => ?_) (AllReadyH.cons rfl (fun K hK => ?_) AllReadyH.nil))
      · skip
        have hBw : Below w.heap.size w (w.drew.alloc (.cells #[] 2)) := by go_split_ands; assumption
        refine step_app rfl (.tmp 15) (.tmp 19) rfl w.heap.size w.heap.size (Nat.le_refl _) (.slice (some ⟨w.drew.heap.size, 0, none⟩) 0 0) [] (by simp [Act.eval, Act.put]) hE hBw cs ⟨b0, o0, none⟩ cap (by simp [Act.eval, Act.put]) (fun j hj => by rw [Addr.add_lit]; exact cnext hBw (hcs j hj)) (by simp; omega) hBw.size ?_
        intro v1 w1 hown1 hB1 hg1
        rw [List.nil_append] at hown1
        refine hK.out _ _ ?_ (fun hHeld => ?_)
        · (try go_split_ands); refine ⟨?_, ?_, ?_⟩ <;> first | assumption | exact cnext (by assumption) (by assumption) | exact bnext (by assumption) (by assumption) | exact Below.alloc (by assumption) (Below.size (by assumption)) _ | (go_keep; done)
        clear hK K
        obtain ⟨g, off, ck, rfl, hob⟩ := Og.ob (Og.own hown1 : Og (Value.int .i64) w.heap.size w1 v1 cs) (by omega)
        (try simp only [Act.put, List.setIfInBounds_toArray, List.set_cons_zero, List.set_cons_succ])
        refine wpAnyH_tk (i := 10) (v := ?_) (some 21) rfl rfl (by kernel_rfl) (by decide +kernel) (by decide +kernel) (fun _ _ _ h => h) (by kernel_rfl) ?_ hHeld ?_
        rotate_left
        · (intro w hSw; (try dsimp only at hSw); go_simp <;> with_reducible rfl)
        (try simp only [Act.put, List.setIfInBounds_toArray, List.set_cons_zero, List.set_cons_succ])
        refine wpAnyH_ready (rs := [11]) (by kernel_rfl) (by simp) ?_
        refine (AllReadyH.cons rfl (fun K hK => ?_) AllReadyH.nil)
        · skip
          go_simp
          refine hK.out _ _ ?_ (fun hHeld => ?_)
          · (try go_split_ands); refine ⟨?_, ?_, ?_⟩ <;> first | assumption | exact cnext (by assumption) (by assumption) | exact bnext (by assumption) (by assumption) | exact Below.alloc (by assumption) (Below.size (by assumption)) _ | (go_keep; done)
          clear hK K
          have hA : (w1.alloc (.cells #[.int .i64 0, .slice none 0 0] 40)).heap[w1.heap.size]? = some (.cells #[.int .i64 0, .slice none 0 0] 40 (0, 0)) := by have h7 := heap_alloc_new w1 (.cells #[.int .i64 0, .slice none 0 0] 40); first | exact h7 | (simpa using h7)
          have hlo : w.heap.size ≤ w1.heap.size := by first | exact Nat.le_refl _ | exact hB1.size | (simp; done) | (simp; omega)
          have hAg : w1.heap.size ≠ g := by have := hob.hi; omega
          have hob1 := hob
          replace hob := hob.below (show Below w1.heap.size w1 (w1.alloc (.cells #[.int .i64 0, .slice none 0 0] 40)) by go_grown)
          (try simp only [Act.put, List.setIfInBounds_toArray, List.set_cons_zero, List.set_cons_succ])
          refine wpAnyH_done (by kernel_rfl) ?_ _
          show wpList _ _ _ _ _ _
          have hbl : Below w1.heap.size w1 (w1.alloc (.cells #[.int .i64 n, .slice (some ⟨g, off, none⟩) cs.length ck] 40)) := by go_grown
          have Hfin := Lib.hid (And.intro (heap_alloc_new w1 (.cells #[.int .i64 n, .slice (some ⟨g, off, none⟩) cs.length ck] 40)) (And.intro (hob1.below hbl) (And.intro hAg (And.intro hlo (bnext hB1 hbl)))))
          clear hHeld hE hown1 hg1 hA hob hob1 hAg hB1
          go_wp2_with fail
          go_meet
          case rel => exact ⟨_, g, off, ck, rfl, Hfin.out⟩
      · skip
        go_simp
        refine hK.out _ _ ?_ (fun hHeld => ?_)
        · (try go_split_ands); refine ⟨?_, ?_, ?_⟩ <;> first | assumption | exact cnext (by assumption) (by assumption) | exact bnext (by assumption) (by assumption) | exact Below.alloc (by assumption) (Below.size (by assumption)) _ | (go_keep; done)
        clear hK K
        have hA : ((w.drew.alloc (.cells #[] 2)).alloc (.cells #[.int .i64 0, .slice none 0 0] 40)).heap[(w.heap.size + 1)]? = some (.cells #[.int .i64 0, .slice none 0 0] 40 (0, 0)) := by have h7 := heap_alloc_new (w.drew.alloc (.cells #[] 2)) (.cells #[.int .i64 0, .slice none 0 0] 40); first | exact h7 | (simpa using h7)
        have hlo : w.heap.size ≤ (w.heap.size + 1) := by first | exact Nat.le_refl _ | exact hB1.size | (simp; done) | (simp; omega)
        replace hE := World.ownsRow.alloc hE (.cells #[.int .i64 0, .slice none 0 0] 40)
        (try simp only [Act.put, List.setIfInBounds_toArray, List.set_cons_zero, List.set_cons_succ])
        refine wpAnyH_ready (rs := [9]) (by kernel_rfl) (by simp) ?_
        refine (AllReadyH.cons rfl (fun K hK => ?_) AllReadyH.nil)
        · skip
          have hBw : Below w.heap.size w ((w.drew.alloc (.cells #[] 2)).alloc (.cells #[.int .i64 0, .slice none 0 0] 40)) := by go_split_ands; assumption
          refine step_app rfl (.tmp 15) (.tmp 19) rfl w.heap.size w.heap.size (Nat.le_refl _) (.slice (some ⟨w.drew.heap.size, 0, none⟩) 0 0) [] (by simp [Act.eval, Act.put]) hE hBw cs ⟨b0, o0, none⟩ cap (by simp [Act.eval, Act.put]) (fun j hj => by rw [Addr.add_lit]; exact cnext hBw (hcs j hj)) (by simp; omega) hBw.size ?_
          intro v1 w1 hown1 hB1 hg1
          rw [List.nil_append] at hown1
          refine hK.out _ _ ?_ (fun hHeld => ?_)
          · (try go_split_ands); refine ⟨?_, ?_, ?_⟩ <;> first | assumption | exact cnext (by assumption) (by assumption) | exact bnext (by assumption) (by assumption) | exact Below.alloc (by assumption) (Below.size (by assumption)) _ | (go_keep; done)
          clear hK K
          obtain ⟨g, off, ck, rfl, hob⟩ := Og.ob (Og.own hown1 : Og (Value.int .i64) w.heap.size w1 v1 cs) (by omega)
          have hAg : (w.heap.size + 1) ≠ g := by intro e; exact blk_not_row (blk_grown hg1 (fun e => (blk_not_row hA (by decide) hE) e.symm) hA) (by decide) hown1 (by rw [e]; rfl)
          replace hA := blk_grown hg1 (fun e => (blk_not_row hA (by decide) hE) e.symm) hA
          (try simp only [Act.put, List.setIfInBounds_toArray, List.set_cons_zero, List.set_cons_succ])
          refine wpAnyH_tk (i := 10) (v := ?_) (some 21) rfl rfl (by kernel_rfl) (by decide +kernel) (by decide +kernel) (fun _ _ _ h => h) (by kernel_rfl) ?_ hHeld ?_
          rotate_left
          · (intro w hSw; (try dsimp only at hSw); go_simp <;> with_reducible rfl)
          (try simp only [Act.put, List.setIfInBounds_toArray, List.set_cons_zero, List.set_cons_succ])
          refine wpAnyH_done (by kernel_rfl) ?_ _
          show wpList _ _ _ _ _ _
          have hBz : Below w.heap.size w w1 := by go_split_ands; assumption
          clear hHeld hE hown1 hg1
          obtain ⟨a0, a1, af0, af1⟩ := blk2 hA
          have Hfin := Lib.hid (And.intro (blk_set1 (u := .slice (some ⟨g, off, none⟩) cs.length ck) (blk_set0 (u := .int .i64 n) hA)) (And.intro ((hob.far ⟨(w.heap.size + 1), 0, none⟩ (.int .i64 n) hAg).far ⟨(w.heap.size + 1), 1, none⟩ (.slice (some ⟨g, off, none⟩) cs.length ck) hAg) (And.intro hAg (And.intro hlo (below_box hBz (w.heap.size + 1) hlo (.int .i64 n) (.slice (some ⟨g, off, none⟩) cs.length ck))))))
          clear hA hob hAg hBz hB1
          go_wp2_with fail
          go_meet
          case rel => exact ⟨_, g, off, ck, rfl, Hfin.out⟩
    · skip
      go_simp
      refine hK.out _ _ ?_ (fun hHeld => ?_)
      · (try go_split_ands); refine ⟨?_, ?_, ?_⟩ <;> first | assumption | exact cnext (by assumption) (by assumption) | exact bnext (by assumption) (by assumption) | exact Below.alloc (by assumption) (Below.size (by assumption)) _ | (go_keep; done)
      clear hK K
      have hA : (w.drew.alloc (.cells #[.int .i64 0, .slice none 0 0] 40)).heap[w.heap.size]? = some (.cells #[.int .i64 0, .slice none 0 0] 40 (0, 0)) := by have h7 := heap_alloc_new w.drew (.cells #[.int .i64 0, .slice none 0 0] 40); first | exact h7 | (simpa using h7)
      have hlo : w.heap.size ≤ w.heap.size := by first | exact Nat.le_refl _ | exact hB1.size | (simp; done) | (simp; omega)
      (try simp only [Act.put, List.setIfInBounds_toArray, List.set_cons_zero, List.set_cons_succ])
      refine wpAnyH_ready (rs := [4]) (by kernel_rfl) (by simp) ?_
      refine (AllReadyH.cons rfl (fun K hK => ?_) AllReadyH.nil)
      · skip
        go_simp
        refine hK.out _ _ ?_ (fun hHeld => ?_)
        · (try go_split_ands); refine ⟨?_, ?_, ?_⟩ <;> first | assumption | exact cnext (by assumption) (by assumption) | exact bnext (by assumption) (by assumption) | exact Below.alloc (by assumption) (Below.size (by assumption)) _ | (go_keep; done)
        clear hK K
        have hE : OwnI w.heap.size ((w.drew.alloc (.cells #[.int .i64 0, .slice none 0 0] 40)).alloc (.cells #[] 2)) (.slice (some ⟨(w.drew.alloc (.cells #[.int .i64 0, .slice none 0 0] 40)).heap.size, 0, none⟩) 0 0) [] := own_empty (w.drew.alloc (.cells #[.int .i64 0, .slice none 0 0] 40)) _ (by first | exact Nat.le_refl _ | (simp; done) | (simp; omega))
        replace hA := blk_alloc (o' := .cells #[] 2) hA
        (try simp only [Act.put, List.setIfInBounds_toArray, List.set_cons_zero, List.set_cons_succ])
        refine wpAnyH_ready (rs := [9]) (by kernel_rfl) (by simp) ?_
        refine (AllReadyH.cons rfl (fun K hK => ?_) AllReadyH.nil)
        · skip
          have hBw : Below w.heap.size w ((w.drew.alloc (.cells #[.int .i64 0, .slice none 0 0] 40)).alloc (.cells #[] 2)) := by go_split_ands; assumption
          refine step_app rfl (.tmp 15) (.tmp 19) rfl w.heap.size w.heap.size (Nat.le_refl _) (.slice (some ⟨(w.drew.alloc (.cells #[.int .i64 0, .slice none 0 0] 40)).heap.size, 0, none⟩) 0 0) [] (by simp [Act.eval, Act.put]) hE hBw cs ⟨b0, o0, none⟩ cap (by simp [Act.eval, Act.put]) (fun j hj => by rw [Addr.add_lit]; exact cnext hBw (hcs j hj)) (by simp; omega) hBw.size ?_
          intro v1 w1 hown1 hB1 hg1
          rw [List.nil_append] at hown1
          refine hK.out _ _ ?_ (fun hHeld => ?_)
          · (try go_split_ands); refine ⟨?_, ?_, ?_⟩ <;> first | assumption | exact cnext (by assumption) (by assumption) | exact bnext (by assumption) (by assumption) | exact Below.alloc (by assumption) (Below.size (by assumption)) _ | (go_keep; done)
          clear hK K
          obtain ⟨g, off, ck, rfl, hob⟩ := Og.ob (Og.own hown1 : Og (Value.int .i64) w.heap.size w1 v1 cs) (by omega)
          have hAg : w.heap.size ≠ g := by intro e; exact blk_not_row (blk_grown hg1 (fun e => (blk_not_row hA (by decide) hE) e.symm) hA) (by decide) hown1 (by rw [e]; rfl)
          replace hA := blk_grown hg1 (fun e => (blk_not_row hA (by decide) hE) e.symm) hA
          (try simp only [Act.put, List.setIfInBounds_toArray, List.set_cons_zero, List.set_cons_succ])
          refine wpAnyH_tk (i := 10) (v := ?_) (some 21) rfl rfl (by kernel_rfl) (by decide +kernel) (by decide +kernel) (fun _ _ _ h => h) (by kernel_rfl) ?_ hHeld ?_
          rotate_left
          · (intro w hSw; (try dsimp only at hSw); go_simp <;> with_reducible rfl)
          (try simp only [Act.put, List.setIfInBounds_toArray, List.set_cons_zero, List.set_cons_succ])
          refine wpAnyH_done (by kernel_rfl) ?_ _
          show wpList _ _ _ _ _ _
          have hBz : Below w.heap.size w w1 := by go_split_ands; assumption
          clear hHeld hE hown1 hg1
          obtain ⟨a0, a1, af0, af1⟩ := blk2 hA
          have Hfin := Lib.hid (And.intro (blk_set1 (u := .slice (some ⟨g, off, none⟩) cs.length ck) (blk_set0 (u := .int .i64 n) hA)) (And.intro ((hob.far ⟨w.heap.size, 0, none⟩ (.int .i64 n) hAg).far ⟨w.heap.size, 1, none⟩ (.slice (some ⟨g, off, none⟩) cs.length ck) hAg) (And.intro hAg (And.intro hlo (below_box hBz w.heap.size hlo (.int .i64 n) (.slice (some ⟨g, off, none⟩) cs.length ck))))))
          clear hA hob hAg hBz hB1
          go_wp2_with fail
          go_meet
          case rel => exact ⟨_, g, off, ck, rfl, Hfin.out⟩
  case rest =>
    obtain ⟨A, gk, off, ck, rfl, hA, hob, hAg, hAw, hB⟩ := hcut
    clear hcs c0 c1 hbw
    have hst0 : RsS w n A wc.heap.size gk off cs.length ck ((wc.alloc (.cells #[] 4)).alloc (.cells #[.int .i64 0, .int .i64 65535, .int .i64 0, .slice (some ⟨wc.heap.size, 0, none⟩) 0 0] 47)) cs 0 65535 0 [] (.slice (some ⟨wc.heap.size, 0, none⟩) 0 0) := by
      have hbl : Below wc.heap.size wc ((wc.alloc (.cells #[] 4)).alloc (.cells #[.int .i64 0, .int .i64 65535, .int .i64 0, .slice (some ⟨wc.heap.size, 0, none⟩) 0 0] 47)) := by go_grown
      refine ⟨blk_next hbl hA, hob.below hbl, ?_, ?_, bnext hB hbl, hob.hi, blk_lt hA, hAg, hAw⟩
      · have := heap_alloc_new (wc.alloc (.cells #[] 4)) (.cells #[.int .i64 0, .int .i64 65535, .int .i64 0, .slice (some ⟨wc.heap.size, 0, none⟩) 0 0] 47)
        simp only [World.size_alloc] at this
        exact this
      · exact World.ownsRow.alloc (ownB_empty wc wc.heap.size (Nat.le_refl _)) _
    go_wp2_with fail
    generalize (wc.alloc (.cells #[] 4)).alloc (.cells #[.int .i64 0, .int .i64 65535, .int .i64 0, .slice (some ⟨wc.heap.size, 0, none⟩) 0 0] 47) = W3 at *
    clear hA hob hB
    generalize wc.heap.size = R at *
    go_loopw [27] (fun i wr => ∃ (k : Nat) (cs' : List Int) (low high : Int) (wait : Nat) (bits : List Bool) (bv : Value), i = .int .i64 k ∧ k ≤ zs.length ∧ rbF gr (zs.drop k) cs' ⟨low, high, wait, bits⟩ = rb gr cs zs ∧ Rok ⟨low, high, wait, bits⟩ cs' (17 * k) ∧ Pos cs' ∧ cs'.length = cs.length ∧ sumL cs' + gr * ((zs.length - k : Nat) : Int) ≤ 16384 ∧ RsS w n A R gk off cs.length ck wr cs' low high wait bits bv) (fun i _ => zs.length - (intOf i).toNat)
    case atStart => exact ⟨0, cs, 0, 65535, 0, [], _, rfl, Nat.zero_le _, rfl, ⟨by show (0 : Int) ≤ 0; omega, by show (0 : Int) ≤ 65535; omega, by show (65535 : Int) ≤ 65535; omega, by show (16385 : Int) ≤ 65535 - 0 + 1; omega, by simp⟩, Hp.out, rfl, by rw [Nat.sub_zero]; exact Hsum.out, hst0⟩
    case round =>
      clear hst0
      obtain ⟨k, cs', low, high, wait, bits, bv, rfl, hk, hq, hrok, hp, hlc, hsum, hst⟩ := hrel
      obtain ⟨hr0, hr1, hr2, hr3, hr4⟩ := hrok
      dsimp only at hr0 hr1 hr2 hr3 hr4
      have Hq := Lib.hid hq
      have Hp' := Lib.hid hp
      have Hlc := Lib.hid hlc
      clear hq hp hlc
      by_cases hkl : k < zs.length
      · have hzk := Hz.out zs[k] (List.getElem_mem hkl)
        obtain ⟨bt, ot, et, -, hTc⟩ := HT.out.2.cells (by omega)
        obtain rfl := et
        have hTk0 := hTc k hkl
        obtain ⟨l, hl⟩ : ∃ l : Nat, zs[k] = l := ⟨zs[k].toNat, by omega⟩
        rw [hl] at hTk0 hzk
        have hTk := cnext hst.lo hTk0
        have hll : l < cs'.length := by rw [Hlc.out]; omega
        have hgs : gr * ((zs.length - k : Nat) : Int) = gr * ((zs.length - (k + 1) : Nat) : Int) + gr := by
          rw [show zs.length - k = (zs.length - (k + 1)) + 1 by omega, Int.natCast_add, Int.mul_add]; simp
        have hgn : 0 ≤ gr * ((zs.length - (k + 1) : Nat) : Int) := Int.mul_nonneg hg0 (by omega)
        rw [hgs] at hsum
        have hs16 : sumL cs' ≤ 16384 := by omega
        have hnb := narrow_bd Hp'.out hll hr0 hr2 (by omega)
        have Hq2 := Lib.hid (show rbF gr (zs.drop (k + 1)) (bumpG cs' l gr) (wid 17 ⟨nLow cs' l low high, nHigh cs' l low high, wait, bits⟩) = rb gr cs zs by
          rw [← Hq.out, List.drop_eq_getElem_cons hkl, rbF, hl, Int.toNat_natCast])
        have hrn := Rok.next (r := ⟨low, high, wait, bits⟩) (cs := cs') (N := 17 * k) ⟨hr0, hr1, hr2, hr3, hr4⟩ Hp'.out hs16 hll (bumpG cs' l gr)
        dsimp only at hrn
        have Hrn := Lib.hid hrn
        have HpB := Lib.hid (bumpG_pos Hp'.out hll hg0)
        have HsB := Lib.hid (show sumL (bumpG cs' l gr) + gr * ((zs.length - (k + 1) : Nat) : Int) ≤ 16384 by rw [bumpG_sum hll]; omega)
        have Hcb := Lib.hid (show git cs' l = cs'[l] from git_eq hll)
        have hgb := befo_next Hp'.out hll
        have hbb := befo_bd Hp'.out l
        have hRI : RI wr (.slice (some ⟨gk, off, none⟩) cs.length ck) cs' := ⟨pos_i64 Hp'.out hs16, hst.cl.og.rg⟩
        have hc16 : cs'.length ≤ 16 := by rw [Hlc.out]; exact hcl
        have HN := Lib.hid (l05Narrow_any A (R + 1) _ bv cs' l low high wait _ hRI (blk2 hst.a).2.1 Hp'.out hs16 hll hc16 hst.r hr0 hr1 hr2)
        clear hl hTc hrn hgs hRI
        go_wp2_with fail
        refine HN.out.mono ?_
        rintro e wn ⟨rfl, hRc, hkc⟩
        have hst2 := hst.cut hRc hkc
        clear hst hRc hkc hTk HN
        obtain ⟨nl, hnl⟩ : ∃ nl, nLow cs' l low high = nl := ⟨_, rfl⟩
        obtain ⟨nh, hnh⟩ : ∃ nh, nHigh cs' l low high = nh := ⟨_, rfl⟩
        rw [hnl, hnh] at hst2 hnb Hq2 Hrn
        have hRs : R ≤ wn.heap.size := by have := blk_lt hst2.r; omega
        have HW := Lib.hid (l05Widen_any (R + 1) R nl nh bv bits wait _ hst2.r hst2.b hRs (by omega) (by omega) hnb.2.1 (by omega))
        clear hnl hnh
        go_wp2_with fail
        refine HW.out.mono ?_
        rintro e wr2 ⟨rfl, bv2, hS2, hb2, hk2⟩
        have hst3 := hst2.put hS2 hb2 hk2
        clear hst2 hS2 hb2 hk2 HW hRs
        have hgb1 := hgb.1
        have hgb2 : git cs' l ≤ 16384 := by omega
        have hst4 := ((hst3.drewN 1).bump l hll (git cs' l + gr)).drewN 1
        have Hst4 := Lib.hid (show ∀ m, RsS w n A R gk off cs.length ck ((wr2.drewN m).setCell ⟨gk, off + l, none⟩ (.int .i64 (git cs' l + gr))) (bumpG cs' l gr) _ _ _ _ bv2 from fun m => (hst3.drewN m).bump l hll (git cs' l + gr))
        have hce := hst3.cl.cell l hll
        have hcf := hst3.cl.free l hll
        rw [← Hcb.out] at hce
        obtain ⟨c0, c1, -, -⟩ := blk2 hst3.a
        have hTk := cnext hst3.lo hTk0
        have hlI : (l : Int) < (cs.length : Int) := by omega
        have hkI : (k : Int) < (zs.length : Int) := by omega
        clear hst3 hst4 hTk0
        generalize wid 17 ⟨nl, nh, wait, bits⟩ = q at *
        generalize hgv : git cs' l = gv at *
        have hvg : IntKind.i64.wrap (gv + gr) = gv + gr := IntWalk.i64_in _ (by omega)
        clear hgv
        go_wp2_with fail
        refine wp_region_held_tail 10 (S := fun W' => W'.cell? ⟨A, 1, none⟩ = some (.slice (some ⟨gk, off, none⟩) cs.length ck) ∧ W'.cell? ⟨bt, ot + k, none⟩ = some (.int .i64 l) ∧ W'.cell? ⟨gk, off + l, none⟩ = some (.int .i64 gv)) (by kernel_rfl) (by decide +kernel) ?_ (fun hHeld => ?_)
        · (try go_split_ands); refine ⟨?_, ?_, ?_⟩ <;> first | assumption | exact cnext (by assumption) (by assumption) | exact bnext (by assumption) (by assumption) | exact Below.alloc (by assumption) (Below.size (by assumption)) _ | (go_keep; done)
        simp only [List.take_succ_cons, List.take_zero, List.drop_succ_cons, List.drop_zero, List.length_cons, List.length_nil, Nat.reduceAdd]
        refine wpAnyH_tk (i := 0) (v := ?_) (some 38) rfl rfl (by kernel_rfl) (by decide +kernel) (by decide +kernel) (fun _ _ _ h => h) (by kernel_rfl) ?_ hHeld ?_
        rotate_left
        · (intro w hSw; (try dsimp only at hSw); go_simp <;> with_reducible rfl)
        (try simp only [Act.put, List.setIfInBounds_toArray, List.set_cons_zero, List.set_cons_succ])
        refine wpAnyH_tk (i := 1) (v := ?_) (some 39) rfl rfl (by kernel_rfl) (by decide +kernel) (by decide +kernel) (fun _ _ _ h => h) (by kernel_rfl) ?_ hHeld ?_
        rotate_left
        · (intro w hSw; (try dsimp only at hSw); go_simp <;> with_reducible rfl)
        (try simp only [Act.put, List.setIfInBounds_toArray, List.set_cons_zero, List.set_cons_succ])
        refine wpAnyH_tk (i := 2) (v := ?_) (some 40) rfl rfl (by kernel_rfl) (by decide +kernel) (by decide +kernel) (fun _ _ _ h => h) (by kernel_rfl) ?_ hHeld ?_
        rotate_left
        · (intro w hSw; (try dsimp only at hSw); go_simp <;> with_reducible rfl)
        (try simp only [Act.put, List.setIfInBounds_toArray, List.set_cons_zero, List.set_cons_succ])
        refine wpAnyH_tk (i := 3) (v := ?_) (some 41) rfl rfl (by kernel_rfl) (by decide +kernel) (by decide +kernel) (fun _ _ _ h => h) (by kernel_rfl) ?_ hHeld ?_
        rotate_left
        · (intro w hSw; (try dsimp only at hSw); go_simp <;> with_reducible rfl)
        (try simp only [Act.put, List.setIfInBounds_toArray, List.set_cons_zero, List.set_cons_succ])
        refine wpAnyH_tk (i := 4) (v := ?_) (some 42) rfl rfl (by kernel_rfl) (by decide +kernel) (by decide +kernel) (fun _ _ _ h => h) (by kernel_rfl) ?_ hHeld ?_
        rotate_left
        · (intro w hSw; (try dsimp only at hSw); go_simp <;> with_reducible rfl)
        (try simp only [Act.put, List.setIfInBounds_toArray, List.set_cons_zero, List.set_cons_succ])
        refine wpAnyH_tk (i := 5) (v := ?_) (some 43) rfl rfl (by kernel_rfl) (by decide +kernel) (by decide +kernel) (fun _ _ _ h => h) (by kernel_rfl) ?_ hHeld ?_
        rotate_left
        · (intro w hSw; (try dsimp only at hSw); go_simp <;> with_reducible rfl)
        (try simp only [Act.put, List.setIfInBounds_toArray, List.set_cons_zero, List.set_cons_succ])
        refine wpAnyH_tk (i := 6) (v := ?_) (some 44) rfl rfl (by kernel_rfl) (by decide +kernel) (by decide +kernel) (fun _ _ _ h => h) (by kernel_rfl) ?_ hHeld ?_
        rotate_left
        · (intro w hSw; (try dsimp only at hSw); go_simp <;> with_reducible rfl)
        (try simp only [Act.put, List.setIfInBounds_toArray, List.set_cons_zero, List.set_cons_succ])
        refine wpAnyH_tk (i := 7) (v := ?_) (some 45) rfl rfl (by kernel_rfl) (by decide +kernel) (by decide +kernel) (fun _ _ _ h => h) (by kernel_rfl) ?_ hHeld ?_
        rotate_left
        · (intro w hSw; (try dsimp only at hSw); go_simp <;> with_reducible rfl)
        (try simp only [Act.put, List.setIfInBounds_toArray, List.set_cons_zero, List.set_cons_succ])
        refine wpAnyH_tk (i := 8) (v := ?_) (some 46) rfl rfl (by kernel_rfl) (by decide +kernel) (by decide +kernel) (fun _ _ _ h => h) (by kernel_rfl) ?_ hHeld ?_
        rotate_left
        · (intro w hSw; (try dsimp only at hSw); go_simp <;> with_reducible rfl)
        (try simp only [Act.put, List.setIfInBounds_toArray, List.set_cons_zero, List.set_cons_succ])
        refine wpAnyH_tk (i := 9) (v := ?_) (some 47) rfl rfl (by kernel_rfl) (by decide +kernel) (by decide +kernel) (fun _ _ _ h => h) (by kernel_rfl) ?_ hHeld ?_
        rotate_left
        · (intro w hSw; (try dsimp only at hSw); go_simp <;> with_reducible rfl)
        (try simp only [Act.put, List.setIfInBounds_toArray, List.set_cons_zero, List.set_cons_succ])
        refine wpAnyH_done (by kernel_rfl) ?_ _
        show wpList _ _ _ _ _ _
        clear hHeld
        go_wp2
        go_roundw
        case rel => exact ⟨k + 1, bumpG cs' l gr, q.low, q.high, q.wait, q.bits, bv2, by go_num, by omega, Hq2.out, by rw [Nat.mul_add]; exact Hrn.out, HpB.out, by rw [bumpG_len]; exact Hlc.out, HsB.out, Hst4.out 1⟩
        case measure => simp [intOf] <;> omega
      · have hke : k = zs.length := by omega
        have hq3 : bits ++ tellB (decide (16384 ≤ low)) (wait + 1) = rb gr cs zs := by rw [← Hq.out, hke, List.drop_length, rbF]
        have Hq3 := Lib.hid hq3
        obtain ⟨bt2, hbt2⟩ : ∃ bt2, decide ((16384 : Int) ≤ low) = bt2 := ⟨_, rfl⟩
        rw [hbt2] at Hq3
        have hst2 := hst.set (wait + 1)
        obtain ⟨⟨s0, s1, s2, s3⟩, hf⟩ := blk4 hst.r
        have f2 := hf 2
        have hRs : R ≤ (wr.setCell ⟨R + 1, 2, none⟩ (.int .i64 ((wait + 1 : Nat) : Int))).heap.size := by have := blk_lt hst2.r; omega
        have hput := l05Tell_any (R + 1) R low high bv bits bt2 (wait + 1) _ hst2.r hst2.b hRs (by omega)
        have s0' := (blk4 hst2.r).1.1
        clear hst hke hq3 hf
        have hst3 : RsS w n A R gk off cs.length ck (wr.setCell ⟨R + 1, 2, none⟩ (.int .i64 ((wait : Int) + 1))) cs' low high (wait + 1) bits bv := hst2
        have s0'' : (wr.setCell ⟨R + 1, 2, none⟩ (.int .i64 ((wait : Int) + 1))).cell? ⟨R + 1, 0, none⟩ = some (.int .i64 low) := s0'
        have Hput := Lib.hid hput
        have Hst3 := Lib.hid hst3
        clear hst2 hst3 hput s0'
        go_wp2_with fail
        refine (show Calls Try.prog 29 #[.pointer (some ⟨R + 1, 0, none⟩), .bool bt2] (wr.setCell ⟨R + 1, 2, none⟩ (.int .i64 ((wait : Int) + 1))) _ from Hput.out).mono ?_
        rintro e wp ⟨rfl, v6, hS6, hb6, hk6⟩
        have hst4 := Hst3.out.put hS6 hb6 hk6
        rw [Hq3.out] at hst4
        obtain ⟨ao6, cap6, rfl⟩ := hst4.b.shape
        clear s0 s1 s2 s3 s0'' f2
        obtain ⟨⟨s0, s1, s2, s3⟩, -⟩ := blk4 hst4.r
        have hog := hst4.b.og.mono (show w.heap.size ≤ R by have := hst4.aw; have := hst4.aR; omega)
        have hlo := hst4.lo
        have Hog := Lib.hid (show ∀ m, Og Value.bool w.heap.size (wp.drewN m) _ _ ∧ Below w.heap.size w (wp.drewN m) from fun m => And.intro (hog.below (below_drewN _ m)) (bnext hlo (below_drewN _ m)))
        have Hzn := Lib.hid (show rbOk gr cs zs = decide ((rb gr cs zs).length ≤ 1024) from rfl)
        clear hst4 hS6 hb6 hk6 hog hlo Hst3 Hput
        by_cases h1024 : (rb gr cs zs).length ≤ 1024
        · have Hz1 := Lib.hid (show rbOk gr cs zs = true by rw [Hzn.out]; exact decide_eq_true h1024)
          have hgt : ((rb gr cs zs).length : Int) ≤ 1024 := by omega
          go_wp2_with fail
          go_quiet (fail)
          go_wp2
          go_ret2
          exact ⟨_, ret2 rfl (vb (by rw [Hz1.out] <;> exact decide_eq_false (by omega))), Hog.out _⟩
        · have Hz1 := Lib.hid (show rbOk gr cs zs = false by rw [Hzn.out]; exact decide_eq_false h1024)
          have hgt : ¬ ((rb gr cs zs).length : Int) ≤ 1024 := by omega
          go_wp2_with fail
          go_quiet (fail)
          go_wp2
          go_ret2
          exact ⟨_, ret2 rfl (vb (by rw [Hz1.out] <;> exact decide_eq_false (by omega))), Hog.out _⟩
end Go.Proofs.Ytnhgloplobphnaa
