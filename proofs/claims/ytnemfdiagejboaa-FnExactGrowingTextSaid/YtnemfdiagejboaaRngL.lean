/- The text of bits, in the reference. Conditions: valid counts, a growth of at most 16, at most 64 letters. -/
import Derived.Test.YtnemfdiagejboaaRngK
import Derived.Test.YtnemfdiagejboaaRngS
namespace Go.Proofs.Ytnemfdiagejboaa
open Go.RowKit
set_option maxRecDepth 100000
set_option linter.unusedVariables false
set_option linter.unusedSimpArgs false
attribute [local go_sem ↓] Go.wp_at_zero Go.wp_at_succ

abbrev rngO (low high : Int) : Obj := .cells #[.int .i64 low, .int .i64 high, .int .i64 0, .slice none 0 0] 61
set_option maxHeartbeats 4000000 in
theorem l05Read_any (v : Value) (cs : List Int) (P : Nat) (vb : Value) (bs : List Bool) (m : Nat) (gr : Int) (w : World) (h : RI w v cs) (c0 : w.cell? ⟨P, 0, none⟩ = some (.int .i64 cs.length)) (c1 : w.cell? ⟨P, 1, none⟩ = some v) (hbs : Rg Value.bool w vb bs) (hp : Pos cs) (hcl : cs.length ≤ 16) (hcl1 : 1 ≤ cs.length) (hsum : sumL cs + gr * m ≤ 16384) (hg0 : 0 ≤ gr) (hg1 : gr ≤ 16) (hm : m ≤ 64) :
    Calls Try.prog 35 #[.pointer (some ⟨P, 0, none⟩), vb, .int .i64 m, .int .i64 gr] w fun e w' => ∃ v', e = .returned v' ∧ OI w.heap.size w' v' (rt gr cs bs m) ∧ Below w.heap.size w w' := by
  obtain ⟨ao, cap, rfl⟩ := h.shape
  have hlen := h.len
  obtain ⟨b0, o0, e0, -, hcs⟩ := h.2.cells (by omega)
  obtain rfl := e0
  have Hbit := Lib.hid (show ∀ W' : World, Below w.heap.size w W' → ∀ i : Nat, Calls Try.prog 52 #[vb, .int .i64 i] W' fun e w' => e = .returned (.int .i64 (bitI bs i)) ∧ W' = w' from fun W' hB i => l05Bit_any vb bs i W' (hbs.below hB))
  have Hbi := Lib.hid (bitI_bd bs)
  have Hp := Lib.hid hp
  have Hsum := Lib.hid hsum
  have hbw : Below w.heap.size w w.drew := below_drewN w 1
  obtain ⟨n, hn⟩ : ∃ n : Int, (cs.length : Int) = n := ⟨_, rfl⟩
  rw [hn] at c0
  have Hn := Lib.hid hn
  clear h hp hsum hbs hn
  go_enter Try.func35, Try.ntmps35
  go_upto_region 1 with fail
  go_cut [9] from 18 to 28 (fun v8 wx => ∃ A g off ck, v8 = .pointer (some ⟨A, 0, none⟩) ∧ wx.heap[A]? = some (.cells #[.int .i64 n, .slice (some ⟨g, off, none⟩) cs.length ck] 29 (0, 0)) ∧ OB (Value.int .i64) w.heap.size wx g off cs.length ck cs ∧ A ≠ g ∧ w.heap.size ≤ A ∧ Below w.heap.size w wx)
  case first =>
    refine wp_region_held_tail 12 (S := fun W' => W'.cell? ⟨P, 0, none⟩ = some (.int .i64 n) ∧ W'.cell? ⟨P, 1, none⟩ = some (.slice (some ⟨b0, o0, none⟩) cs.length cap) ∧ Below w.heap.size w W') (by kernel_rfl) (by decide +kernel) ?_ (fun hHeld => ?_)
    · (try go_split_ands); refine ⟨?_, ?_, ?_⟩ <;> first | assumption | exact cnext (by assumption) (by assumption) | exact bnext (by assumption) (by assumption) | exact Below.alloc (by assumption) (Below.size (by assumption)) _ | (go_keep; done)
    simp only [List.take_succ_cons, List.take_zero, List.drop_succ_cons, List.drop_zero, List.length_cons, List.length_nil, Nat.reduceAdd]
    refine wpAnyH_tk (i := 0) (v := ?_) (some 18) rfl rfl (by kernel_rfl) (by decide +kernel) (by decide +kernel) (fun _ _ _ h => h) (by kernel_rfl) ?_ hHeld ?_
    rotate_left
    · (intro w hSw; (try dsimp only at hSw); go_simp <;> with_reducible rfl)
    (try simp only [Act.put, List.setIfInBounds_toArray, List.set_cons_zero, List.set_cons_succ])
    refine wpAnyH_tk (i := 1) (v := ?_) (some 19) rfl rfl (by kernel_rfl) (by decide +kernel) (by decide +kernel) (fun _ _ _ h => h) (by kernel_rfl) ?_ hHeld ?_
    rotate_left
    · (intro w hSw; (try dsimp only at hSw); go_simp <;> with_reducible rfl)
    (try simp only [Act.put, List.setIfInBounds_toArray, List.set_cons_zero, List.set_cons_succ])
    refine wpAnyH_tk (i := 2) (v := ?_) (some 20) rfl rfl (by kernel_rfl) (by decide +kernel) (by decide +kernel) (fun _ _ _ h => h) (by kernel_rfl) ?_ hHeld ?_
    rotate_left
    · (intro w hSw; (try dsimp only at hSw); go_simp <;> with_reducible rfl)
    (try simp only [Act.put, List.setIfInBounds_toArray, List.set_cons_zero, List.set_cons_succ])
    refine wpAnyH_tk (i := 3) (v := ?_) (some 21) rfl rfl (by kernel_rfl) (by decide +kernel) (by decide +kernel) (fun _ _ _ h => h) (by kernel_rfl) ?_ hHeld ?_
    rotate_left
    · (intro w hSw; (try dsimp only at hSw); go_simp <;> with_reducible rfl)
    (try simp only [Act.put, List.setIfInBounds_toArray, List.set_cons_zero, List.set_cons_succ])
    refine wpAnyH_tk (i := 5) (v := ?_) (some 23) rfl rfl (by kernel_rfl) (by decide +kernel) (by decide +kernel) (fun _ _ _ h => h) (by kernel_rfl) ?_ hHeld ?_
    rotate_left
    · (intro w hSw; (try dsimp only at hSw); go_simp <;> with_reducible rfl)
    (try simp only [Act.put, List.setIfInBounds_toArray, List.set_cons_zero, List.set_cons_succ])
    refine wpAnyH_tk (i := 6) (v := ?_) (some 24) rfl rfl (by kernel_rfl) (by decide +kernel) (by decide +kernel) (fun _ _ _ h => h) (by kernel_rfl) ?_ hHeld ?_
    rotate_left
    · (intro w hSw; (try dsimp only at hSw); go_simp <;> with_reducible rfl)
    (try simp only [Act.put, List.setIfInBounds_toArray, List.set_cons_zero, List.set_cons_succ])
    refine wpAnyH_tk (i := 7) (v := ?_) (some 25) rfl rfl (by kernel_rfl) (by decide +kernel) (by decide +kernel) (fun _ _ _ h => h) (by kernel_rfl) ?_ hHeld ?_
    rotate_left
    · (intro w hSw; (try dsimp only at hSw); go_simp <;> with_reducible rfl)
    (try simp only [Act.put, List.setIfInBounds_toArray, List.set_cons_zero, List.set_cons_succ])
    refine wpAnyH_tk (i := 8) (v := ?_) (some 26) rfl rfl (by kernel_rfl) (by decide +kernel) (by decide +kernel) (fun _ _ _ h => h) (by kernel_rfl) ?_ hHeld ?_
    rotate_left
    · (intro w hSw; (try dsimp only at hSw); go_simp <;> with_reducible rfl)
    (try simp only [Act.put, List.setIfInBounds_toArray, List.set_cons_zero, List.set_cons_succ])
    refine wpAnyH_ready (rs := [4, 11]) (by kernel_rfl) (by simp) ?_
    refine (AllReadyH.cons rfl (fun K hK => ?_) (AllReadyH.cons rfl (fun K hK => ?_) AllReadyH.nil))
    · skip
      go_simp
      refine hK.out _ _ ?_ (fun hHeld => ?_)
      · (try go_split_ands); refine ⟨?_, ?_, ?_⟩ <;> first | assumption | exact cnext (by assumption) (by assumption) | exact bnext (by assumption) (by assumption) | exact Below.alloc (by assumption) (Below.size (by assumption)) _ | (go_keep; done)
      clear hK K
      have hE : OwnI w.heap.size (w.drew.alloc (.cells #[] 2)) (.slice (some ⟨w.drew.heap.size, 0, none⟩) 0 0) [] := own_empty w.drew _ (by first | exact Nat.le_refl _ | (simp; done) | (simp; omega))
      (try simp only [Act.put, List.setIfInBounds_toArray, List.set_cons_zero, List.set_cons_succ])
      refine wpAnyH_ready (rs := [9, 11]) (by kernel_rfl) (by simp) ?_
      refine (AllReadyH.cons rfl (fun K hK => ?_) (AllReadyH.cons rfl (fun K hK => ?_) AllReadyH.nil))
      · skip
        have hBw : Below w.heap.size w (w.drew.alloc (.cells #[] 2)) := by go_split_ands; assumption
        refine step_app rfl (.tmp 22) (.tmp 26) rfl w.heap.size w.heap.size (Nat.le_refl _) (.slice (some ⟨w.drew.heap.size, 0, none⟩) 0 0) [] (by simp [Act.eval, Act.put]) hE hBw cs ⟨b0, o0, none⟩ cap (by simp [Act.eval, Act.put]) (fun j hj => by rw [Addr.add_lit]; exact cnext hBw (hcs j hj)) (by simp; omega) hBw.size ?_
        intro v1 w1 hown1 hB1 hg1
        rw [List.nil_append] at hown1
        refine hK.out _ _ ?_ (fun hHeld => ?_)
        · (try go_split_ands); refine ⟨?_, ?_, ?_⟩ <;> first | assumption | exact cnext (by assumption) (by assumption) | exact bnext (by assumption) (by assumption) | exact Below.alloc (by assumption) (Below.size (by assumption)) _ | (go_keep; done)
        clear hK K
        obtain ⟨g, off, ck, rfl, hob⟩ := Og.ob (Og.own hown1 : Og (Value.int .i64) w.heap.size w1 v1 cs) (by omega)
        (try simp only [Act.put, List.setIfInBounds_toArray, List.set_cons_zero, List.set_cons_succ])
        refine wpAnyH_tk (i := 10) (v := ?_) (some 28) rfl rfl (by kernel_rfl) (by decide +kernel) (by decide +kernel) (fun _ _ _ h => h) (by kernel_rfl) ?_ hHeld ?_
        rotate_left
        · (intro w hSw; (try dsimp only at hSw); go_simp <;> with_reducible rfl)
        (try simp only [Act.put, List.setIfInBounds_toArray, List.set_cons_zero, List.set_cons_succ])
        refine wpAnyH_ready (rs := [11]) (by kernel_rfl) (by simp) ?_
        refine (AllReadyH.cons rfl (fun K hK => ?_) AllReadyH.nil)
        · skip
          go_simp
          refine hK.out _ _ ?_ (fun hHeld => ?_)
          · (try go_split_ands); refine ⟨?_, ?_, ?_⟩ <;> first | assumption | exact cnext (by assumption) (by assumption) | exact bnext (by assumption) (by assumption) | exact Below.alloc (by assumption) (Below.size (by assumption)) _ | (go_keep; done)
          clear hK K
          have hA : (w1.alloc (.cells #[.int .i64 0, .slice none 0 0] 29)).heap[w1.heap.size]? = some (.cells #[.int .i64 0, .slice none 0 0] 29 (0, 0)) := by have h7 := heap_alloc_new w1 (.cells #[.int .i64 0, .slice none 0 0] 29); first | exact h7 | (simpa using h7)
          have hlo : w.heap.size ≤ w1.heap.size := by first | exact Nat.le_refl _ | exact hB1.size | (simp; done) | (simp; omega)
          have hAg : w1.heap.size ≠ g := by have := hob.hi; omega
          have hob1 := hob
          replace hob := hob.below (show Below w1.heap.size w1 (w1.alloc (.cells #[.int .i64 0, .slice none 0 0] 29)) by go_grown)
          (try simp only [Act.put, List.setIfInBounds_toArray, List.set_cons_zero, List.set_cons_succ])
          refine wpAnyH_done (by kernel_rfl) ?_ _
          show wpList _ _ _ _ _ _
          have hbl : Below w1.heap.size w1 (w1.alloc (.cells #[.int .i64 n, .slice (some ⟨g, off, none⟩) cs.length ck] 29)) := by go_grown
          have Hfin := Lib.hid (And.intro (heap_alloc_new w1 (.cells #[.int .i64 n, .slice (some ⟨g, off, none⟩) cs.length ck] 29)) (And.intro (hob1.below hbl) (And.intro hAg (And.intro hlo (bnext hB1 hbl)))))
          clear hHeld hE hown1 hg1 hA hob hob1 hAg hB1
          go_wp2_with fail
          go_meet
          case rel => exact ⟨_, g, off, ck, rfl, Hfin.out⟩
      · skip
        go_simp
        refine hK.out _ _ ?_ (fun hHeld => ?_)
        · (try go_split_ands); refine ⟨?_, ?_, ?_⟩ <;> first | assumption | exact cnext (by assumption) (by assumption) | exact bnext (by assumption) (by assumption) | exact Below.alloc (by assumption) (Below.size (by assumption)) _ | (go_keep; done)
        clear hK K
        have hA : ((w.drew.alloc (.cells #[] 2)).alloc (.cells #[.int .i64 0, .slice none 0 0] 29)).heap[(w.heap.size + 1)]? = some (.cells #[.int .i64 0, .slice none 0 0] 29 (0, 0)) := by have h7 := heap_alloc_new (w.drew.alloc (.cells #[] 2)) (.cells #[.int .i64 0, .slice none 0 0] 29); first | exact h7 | (simpa using h7)
        have hlo : w.heap.size ≤ (w.heap.size + 1) := by first | exact Nat.le_refl _ | exact hB1.size | (simp; done) | (simp; omega)
        replace hE := World.ownsRow.alloc hE (.cells #[.int .i64 0, .slice none 0 0] 29)
        (try simp only [Act.put, List.setIfInBounds_toArray, List.set_cons_zero, List.set_cons_succ])
        refine wpAnyH_ready (rs := [9]) (by kernel_rfl) (by simp) ?_
        refine (AllReadyH.cons rfl (fun K hK => ?_) AllReadyH.nil)
        · skip
          have hBw : Below w.heap.size w ((w.drew.alloc (.cells #[] 2)).alloc (.cells #[.int .i64 0, .slice none 0 0] 29)) := by go_split_ands; assumption
          refine step_app rfl (.tmp 22) (.tmp 26) rfl w.heap.size w.heap.size (Nat.le_refl _) (.slice (some ⟨w.drew.heap.size, 0, none⟩) 0 0) [] (by simp [Act.eval, Act.put]) hE hBw cs ⟨b0, o0, none⟩ cap (by simp [Act.eval, Act.put]) (fun j hj => by rw [Addr.add_lit]; exact cnext hBw (hcs j hj)) (by simp; omega) hBw.size ?_
          intro v1 w1 hown1 hB1 hg1
          rw [List.nil_append] at hown1
          refine hK.out _ _ ?_ (fun hHeld => ?_)
          · (try go_split_ands); refine ⟨?_, ?_, ?_⟩ <;> first | assumption | exact cnext (by assumption) (by assumption) | exact bnext (by assumption) (by assumption) | exact Below.alloc (by assumption) (Below.size (by assumption)) _ | (go_keep; done)
          clear hK K
          obtain ⟨g, off, ck, rfl, hob⟩ := Og.ob (Og.own hown1 : Og (Value.int .i64) w.heap.size w1 v1 cs) (by omega)
          have hAg : (w.heap.size + 1) ≠ g := by intro e; exact blk_not_row (blk_grown hg1 (fun e => (blk_not_row hA (by decide) hE) e.symm) hA) (by decide) hown1 (by rw [e]; rfl)
          replace hA := blk_grown hg1 (fun e => (blk_not_row hA (by decide) hE) e.symm) hA
          (try simp only [Act.put, List.setIfInBounds_toArray, List.set_cons_zero, List.set_cons_succ])
          refine wpAnyH_tk (i := 10) (v := ?_) (some 28) rfl rfl (by kernel_rfl) (by decide +kernel) (by decide +kernel) (fun _ _ _ h => h) (by kernel_rfl) ?_ hHeld ?_
          rotate_left
          · (intro w hSw; (try dsimp only at hSw); go_simp <;> with_reducible rfl)
          (try simp only [Act.put, List.setIfInBounds_toArray, List.set_cons_zero, List.set_cons_succ])
          refine wpAnyH_done (by kernel_rfl) ?_ _
          show wpList _ _ _ _ _ _
          have hBz : Below w.heap.size w w1 := by go_split_ands; assumption
          clear hHeld hE hown1 hg1
          obtain ⟨a0, a1, af0, af1⟩ := blk2 hA
          have Hfin := Lib.hid (And.intro (blk_set1 (u := .slice (some ⟨g, off, none⟩) cs.length ck) (blk_set0 (u := .int .i64 n) hA)) (And.intro ((hob.far ⟨(w.heap.size + 1), 0, none⟩ (.int .i64 n) hAg).far ⟨(w.heap.size + 1), 1, none⟩ (.slice (some ⟨g, off, none⟩) cs.length ck) hAg) (And.intro hAg (And.intro hlo (below_box hBz (w.heap.size + 1) hlo (.int .i64 n) (.slice (some ⟨g, off, none⟩) cs.length ck))))))
          clear hA hob hAg hBz hB1
          go_wp2_with fail
          go_meet
          case rel => exact ⟨_, g, off, ck, rfl, Hfin.out⟩
    · skip
      go_simp
      refine hK.out _ _ ?_ (fun hHeld => ?_)
      · (try go_split_ands); refine ⟨?_, ?_, ?_⟩ <;> first | assumption | exact cnext (by assumption) (by assumption) | exact bnext (by assumption) (by assumption) | exact Below.alloc (by assumption) (Below.size (by assumption)) _ | (go_keep; done)
      clear hK K
      have hA : (w.drew.alloc (.cells #[.int .i64 0, .slice none 0 0] 29)).heap[w.heap.size]? = some (.cells #[.int .i64 0, .slice none 0 0] 29 (0, 0)) := by have h7 := heap_alloc_new w.drew (.cells #[.int .i64 0, .slice none 0 0] 29); first | exact h7 | (simpa using h7)
      have hlo : w.heap.size ≤ w.heap.size := by first | exact Nat.le_refl _ | exact hB1.size | (simp; done) | (simp; omega)
      (try simp only [Act.put, List.setIfInBounds_toArray, List.set_cons_zero, List.set_cons_succ])
      refine wpAnyH_ready (rs := [4]) (by kernel_rfl) (by simp) ?_
      refine (AllReadyH.cons rfl (fun K hK => ?_) AllReadyH.nil)
      · skip
        go_simp
        refine hK.out _ _ ?_ (fun hHeld => ?_)
        · (try go_split_ands); refine ⟨?_, ?_, ?_⟩ <;> first | assumption | exact cnext (by assumption) (by assumption) | exact bnext (by assumption) (by assumption) | exact Below.alloc (by assumption) (Below.size (by assumption)) _ | (go_keep; done)
        clear hK K
        have hE : OwnI w.heap.size ((w.drew.alloc (.cells #[.int .i64 0, .slice none 0 0] 29)).alloc (.cells #[] 2)) (.slice (some ⟨(w.drew.alloc (.cells #[.int .i64 0, .slice none 0 0] 29)).heap.size, 0, none⟩) 0 0) [] := own_empty (w.drew.alloc (.cells #[.int .i64 0, .slice none 0 0] 29)) _ (by first | exact Nat.le_refl _ | (simp; done) | (simp; omega))
        replace hA := blk_alloc (o' := .cells #[] 2) hA
        (try simp only [Act.put, List.setIfInBounds_toArray, List.set_cons_zero, List.set_cons_succ])
        refine wpAnyH_ready (rs := [9]) (by kernel_rfl) (by simp) ?_
        refine (AllReadyH.cons rfl (fun K hK => ?_) AllReadyH.nil)
        · skip
          have hBw : Below w.heap.size w ((w.drew.alloc (.cells #[.int .i64 0, .slice none 0 0] 29)).alloc (.cells #[] 2)) := by go_split_ands; assumption
          refine step_app rfl (.tmp 22) (.tmp 26) rfl w.heap.size w.heap.size (Nat.le_refl _) (.slice (some ⟨(w.drew.alloc (.cells #[.int .i64 0, .slice none 0 0] 29)).heap.size, 0, none⟩) 0 0) [] (by simp [Act.eval, Act.put]) hE hBw cs ⟨b0, o0, none⟩ cap (by simp [Act.eval, Act.put]) (fun j hj => by rw [Addr.add_lit]; exact cnext hBw (hcs j hj)) (by simp; omega) hBw.size ?_
          intro v1 w1 hown1 hB1 hg1
          rw [List.nil_append] at hown1
          refine hK.out _ _ ?_ (fun hHeld => ?_)
          · (try go_split_ands); refine ⟨?_, ?_, ?_⟩ <;> first | assumption | exact cnext (by assumption) (by assumption) | exact bnext (by assumption) (by assumption) | exact Below.alloc (by assumption) (Below.size (by assumption)) _ | (go_keep; done)
          clear hK K
          obtain ⟨g, off, ck, rfl, hob⟩ := Og.ob (Og.own hown1 : Og (Value.int .i64) w.heap.size w1 v1 cs) (by omega)
          have hAg : w.heap.size ≠ g := by intro e; exact blk_not_row (blk_grown hg1 (fun e => (blk_not_row hA (by decide) hE) e.symm) hA) (by decide) hown1 (by rw [e]; rfl)
          replace hA := blk_grown hg1 (fun e => (blk_not_row hA (by decide) hE) e.symm) hA
          (try simp only [Act.put, List.setIfInBounds_toArray, List.set_cons_zero, List.set_cons_succ])
          refine wpAnyH_tk (i := 10) (v := ?_) (some 28) rfl rfl (by kernel_rfl) (by decide +kernel) (by decide +kernel) (fun _ _ _ h => h) (by kernel_rfl) ?_ hHeld ?_
          rotate_left
          · (intro w hSw; (try dsimp only at hSw); go_simp <;> with_reducible rfl)
          (try simp only [Act.put, List.setIfInBounds_toArray, List.set_cons_zero, List.set_cons_succ])
          refine wpAnyH_done (by kernel_rfl) ?_ _
          show wpList _ _ _ _ _ _
          have hBz : Below w.heap.size w w1 := by go_split_ands; assumption
          clear hHeld hE hown1 hg1
          obtain ⟨a0, a1, af0, af1⟩ := blk2 hA
          have Hfin := Lib.hid (And.intro (blk_set1 (u := .slice (some ⟨g, off, none⟩) cs.length ck) (blk_set0 (u := .int .i64 n) hA)) (And.intro ((hob.far ⟨w.heap.size, 0, none⟩ (.int .i64 n) hAg).far ⟨w.heap.size, 1, none⟩ (.slice (some ⟨g, off, none⟩) cs.length ck) hAg) (And.intro hAg (And.intro hlo (below_box hBz w.heap.size hlo (.int .i64 n) (.slice (some ⟨g, off, none⟩) cs.length ck))))))
          clear hA hob hAg hBz hB1
          go_wp2_with fail
          go_meet
          case rel => exact ⟨_, g, off, ck, rfl, Hfin.out⟩
  case rest =>
    obtain ⟨A, gb, off, ck, rfl, hA, hob, hAg, hAw, hB⟩ := hcut
    obtain rfl := Hn.out
    clear hcs c0 c1 hbw Hn
    have hBW3 : Below w.heap.size w (wc.alloc (.cells #[.int .i64 0, .int .i64 65535, .int .i64 0, .slice none 0 0] 61)) := bnext hB (by go_grown)
    have hst0 : RtS rngO w cs.length A wc.heap.size gb off cs.length ck ((wc.alloc (.cells #[.int .i64 0, .int .i64 65535, .int .i64 0, .slice none 0 0] 61)).alloc (.cells #[] 2)) cs 0 65535 [] (.slice (some ⟨wc.heap.size + 1, 0, none⟩) 0 0) := by
      have hbl : Below wc.heap.size wc ((wc.alloc (.cells #[.int .i64 0, .int .i64 65535, .int .i64 0, .slice none 0 0] 61)).alloc (.cells #[] 2)) := by go_grown
      refine ⟨blk_next hbl hA, hob.below hbl, blk_alloc (heap_alloc_new wc _), ?_, bnext hB hbl, hob.hi, blk_lt hA, hAg, hAw⟩
      have := own_empty (wc.alloc (.cells #[.int .i64 0, .int .i64 65535, .int .i64 0, .slice none 0 0] 61)) (wc.heap.size + 1) (by simp)
      rw [World.size_alloc] at this
      exact this
    clear hA hob hB
    go_wp2_with fail
    go_loop [11, 12] (fun c i => ∃ (k : Nat) (code : Int), i = .int .i64 k ∧ c = .int .i64 code ∧ k ≤ 16 ∧ codF bs (16 - k) k code = codF bs 16 0 0 ∧ 0 ≤ code ∧ (code + 1) * 2 ^ (16 - k) ≤ 65536) (fun _ i => 16 - (intOf i).toNat)
    case atStart => exact ⟨0, 0, rfl, rfl, by omega, rfl, by omega, by decide⟩
    case round =>
      obtain ⟨k, code, rfl, rfl, hk, hq, hc0, hc1⟩ := hrel
      have Hq := Lib.hid hq
      clear hq
      have hc2 := cod_le hc0 hc1
      have Hc1 := Lib.hid hc1
      clear hc1
      by_cases hk16 : k < 16
      · have hbk := Hbi.out k
        have Hq2 := Lib.hid (show codF bs (16 - (k + 1)) (k + 1) (2 * code + bitI bs k) = codF bs 16 0 0 by rw [← Hq.out, show 16 - k = (16 - (k + 1)) + 1 by omega, codF])
        have Hn := Lib.hid (cod_next hk16 Hc1.out hbk.2)
        have Hbc := Lib.hid (Hbit.out _ hBW3 k)
        generalize bitI bs k = bk at *
        go_wp2_with fail
        refine Hbc.out.mono ?_
        rintro e w' ⟨rfl, rfl⟩
        go_wp2
        go_round
        case rel => exact ⟨k + 1, _, by go_num, rfl, by omega, Hq2.out, by omega, Hn.out⟩
        case measure => simp [intOf]; omega
      · obtain rfl : k = 16 := by omega
        have HC := Lib.hid (show code = codF bs 16 0 0 from Hq.out)
        clear hk16 hk
        go_wp2_with fail
        generalize (wc.alloc (.cells #[.int .i64 0, .int .i64 65535, .int .i64 0, .slice none 0 0] 61)).alloc (.cells #[] 2) = W3 at *
        clear hBW3
        generalize wc.heap.size = R at *
        go_loopw [2, 11, 12, 13] (fun kv cv av ov wr => ∃ (k : Nat) (cs' : List Int) (low high code : Int) (at' : Nat) (out : List Int), kv = .int .i64 ((m : Int) - k) ∧ cv = .int .i64 code ∧ av = .int .i64 at' ∧ k ≤ m ∧ rtF gr bs (m - k) cs' ⟨low, high, code, at'⟩ out = rt gr cs bs m ∧ Tok ⟨low, high, code, at'⟩ ∧ 16385 ≤ high - low + 1 ∧ at' ≤ 16 + 17 * k ∧ Pos cs' ∧ cs'.length = cs.length ∧ sumL cs' + gr * ((m - k : Nat) : Int) ≤ 16384 ∧ out.length = k ∧ AllI64 out ∧ RtS rngO w cs.length A R gb off cs.length ck wr cs' low high out ov) (fun kv _ _ _ _ => (intOf kv).toNat)
        case atStart => exact ⟨0, cs, 0, 65535, code, 16, [], by rw [Int.natCast_zero, Int.sub_zero], rfl, rfl, Nat.zero_le _, by rw [HC.out]; rfl, ⟨by show (0 : Int) ≤ 0; omega, hc0, hc2, by show (65535 : Int) ≤ 65535; omega⟩, by omega, by omega, Hp.out, rfl, by rw [Nat.sub_zero]; exact Hsum.out, rfl, (fun z hz => by cases hz), hst0⟩
        case round =>
          clear hst0 hc0 hc2 HC Hq Hc1
          obtain ⟨k, cs', low, high, code, at', out, rfl, rfl, rfl, hk, hq, hrok, hwd, hat, hp, hlc, hsum, hol, ho64, hst⟩ := hrel
          obtain ⟨aoo, capo, rfl⟩ := hst.o.shape
          obtain ⟨hk0, hk1, hk2, hk3⟩ := hrok
          dsimp only at hk0 hk1 hk2 hk3
          have Hq := Lib.hid hq
          have Hp' := Lib.hid hp
          have Hol := Lib.hid hol
          have Ho64 := Lib.hid ho64
          clear hq hp hol ho64
          by_cases hkm : k < m
          · have hkI : (k : Int) < (m : Int) := by omega
            have hkI2 : (0 : Int) < (m : Int) - (k : Int) := by omega
            have hcn : cs' ≠ [] := by intro e; rw [e] at hlc; simp at hlc; omega
            have Hlc := Lib.hid hlc
            clear hlc
            have hgs : gr * ((m - k : Nat) : Int) = gr * ((m - (k + 1) : Nat) : Int) + gr := by
              rw [show m - k = (m - (k + 1)) + 1 by omega, Int.natCast_add, Int.mul_add]; simp
            have hgn : 0 ≤ gr * ((m - (k + 1) : Nat) : Int) := Int.mul_nonneg hg0 (by omega)
            rw [hgs] at hsum
            have hs16 : sumL cs' ≤ 16384 := by omega
            have hpl := place_bd Hp'.out hcn hk1 hk2
            have hlr := letr_bd Hp'.out hcn hpl.1 hpl.2
            have hTn := Tok.next (bs := bs) (r := ⟨low, high, code, at'⟩) ⟨hk0, hk1, hk2, hk3⟩ hwd Hp'.out hcn hs16
            have hnb := narrow_bd Hp'.out hlr.1 hk0 hk3 (by omega)
            dsimp only at hTn
            have HTn := Lib.hid hTn
            have Hq2 := Lib.hid (show rtF gr bs (m - (k + 1)) (bumpG cs' (letr cs' (place cs' low high code)) gr) (widT bs 17 ⟨nLow cs' (letr cs' (place cs' low high code)) low high, nHigh cs' (letr cs' (place cs' low high code)) low high, code, at'⟩) (out ++ [((letr cs' (place cs' low high code) : Nat) : Int)]) = rt gr cs bs m by
              rw [← Hq.out, show m - k = (m - (k + 1)) + 1 by omega, rtF])
            have Hpe := Lib.hid (show place cs' low high code = ((code - low + 1) * sumL cs' - 1) / (high - low + 1) from rfl)
            have Hlal := Lib.hid (lalF_eq Hp'.out hlr.1 hlr.2.1 (by rw [befo_succ hlr.1]; exact hlr.2.2) cs'.length 0 0 (by omega) (.inl (Nat.zero_le _)))
            have Hlet := Lib.hid (show letF cs' (place cs' low high code) (cs'.length - 1) 0 = letr cs' (place cs' low high code) from rfl)
            have hsp := sumL_pos Hp'.out
            have hwo := widT_out bs 17 ⟨nLow cs' (letr cs' (place cs' low high code)) low high, nHigh cs' (letr cs' (place cs' low high code)) low high, code, at'⟩ (fuel17 hnb.2.1) hTn
            have Hwo := Lib.hid hwo
            have Hpb := Lib.hid hpl
            generalize hl : letr cs' (place cs' low high code) = l at *
            have hll := hlr.1
            have HpB := Lib.hid (bumpG_pos Hp'.out hll hg0)
            have HsB := Lib.hid (show sumL (bumpG cs' l gr) + gr * ((m - (k + 1) : Nat) : Int) ≤ 16384 by rw [bumpG_sum hll]; omega)
            have Hcb := Lib.hid (show git cs' l = cs'[l] from git_eq hll)
            have hgb := befo_next Hp'.out hll
            have hbb := befo_bd Hp'.out l
            have Hlr := Lib.hid hlr
            generalize place cs' low high code = p at *
            have hc16 : cs'.length ≤ 16 := by rw [Hlc.out]; exact hcl
            obtain ⟨T, hT⟩ : ∃ T, sumL cs' = T := ⟨_, rfl⟩
            have HT := Lib.hid hT
            have Hs16 := Lib.hid hs16
            rw [hT] at hs16 hsum hpl Hpe hsp hgb hbb
            have hub := upto_bd (u := code - low + 1) (T := T) (by omega) (by omega) (by omega) hs16
            obtain ⟨u, hu⟩ : ∃ u, code - low + 1 = u := ⟨_, rfl⟩
            obtain ⟨wd, hwde⟩ : ∃ wd, high - low + 1 = wd := ⟨_, rfl⟩
            have hu1 : 1 ≤ u := by omega
            have hu2 : u ≤ 65536 := by omega
            have hw1 : 1 ≤ wd := by omega
            have hw2 : wd ≤ 65536 := by omega
            have Hu := Lib.hid hu
            have Hwd := Lib.hid hwde
            rw [hu] at hub Hpe
            rw [hwde] at Hpe
            have hv1 : IntKind.i64.wrap (code - low) = code - low := IntWalk.i64_in _ (by omega)
            have hv2 : IntKind.i64.wrap (code - low + 1) = u := by rw [Hu.out]; exact IntWalk.i64_in _ (by omega)
            have hv3 : IntKind.i64.wrap (u * T) = u * T := IntWalk.i64_in _ (by omega)
            have hv4 : IntKind.i64.wrap (u * T - 1) = u * T - 1 := IntWalk.i64_in _ (by omega)
            have hv5 : IntKind.i64.wrap (high - low) = high - low := IntWalk.i64_in _ (by omega)
            have hv6 : IntKind.i64.wrap (high - low + 1) = wd := by rw [Hwd.out]; exact IntWalk.i64_in _ (by omega)
            have hv7 : (u * T - 1).tdiv wd = p := by rw [Int.tdiv_eq_ediv_of_nonneg (by omega)]; exact Hpe.out.symm
            have hv8 : IntKind.i64.wrap p = p := IntWalk.i64_in _ (by omega)
            have hwne : wd ≠ 0 := by omega
            clear hT hu hwde hl hlr hTn hwo hgs hcn Hpe
            have hRI : RI wr (.slice (some ⟨gb, off, none⟩) cs.length ck) cs' := ⟨pos_i64 Hp'.out Hs16.out, hst.cl.og.rg⟩
            have Hst := Lib.hid (fun q => hst.next (below_drewN wr q))
            obtain ⟨c0, c1, -, -⟩ := blk2 hst.a
            obtain ⟨⟨r0, r1, r2, r3⟩, -⟩ := blk4 hst.r
            have HTot := Lib.hid (show ∀ q, Calls Try.prog 42 #[.pointer (some ⟨A, 0, none⟩)] (wr.drewN q) fun e w' => e = .returned (.int .i64 T) ∧ ∃ y, w' = (wr.drewN q).drewN y from fun q => by have := l05Total_any 0 _ cs' A (wr.drewN q) (hRI.below (below_drewN wr q)) (cnext (below_drewN wr q) c1) (pos_small Hp'.out Hs16.out) (by omega); rw [HT.out] at this; exact this.mono (by rintro e w' ⟨rfl, rfl⟩; exact ⟨rfl, 0, rfl⟩))
            clear hst
            go_wp2_with fail
            go_quiet ((go_at_call 42; exact Calls.quiet_of (HTot.out _)))
            rename_i nq
            have hst1 := Hst.out nq
            have hRI1 : RI (wr.drewN nq) (.slice (some ⟨gb, off, none⟩) cs.length ck) cs' := ⟨pos_i64 Hp'.out Hs16.out, hst1.cl.og.rg⟩
            have HRI1 := Lib.hid hRI1
            have hA1 := hst1.a
            have Hst1 := Lib.hid hst1
            clear hst1 hRI1 HTot Hst c0 c1 r0 r1 r2 r3
            generalize wr.drewN nq = w1 at *
            obtain ⟨c0, c1, -, -⟩ := blk2 hA1
            have Hbe := Lib.hid (fun j (hj : j ≤ cs'.length) => l05Before_any _ cs' A j w1 HRI1.out c1 Hp'.out Hs16.out hj hc16)
            clear hA1
            go_wp2_with fail
            go_loop [15] (fun lv => ∃ (j : Nat), lv = .int .i64 j ∧ j < cs.length ∧ letF cs' p (cs.length - 1 - j) j = l) (fun lv => cs.length - (intOf lv).toNat)
            case atStart => exact ⟨0, rfl, by omega, by rw [Nat.sub_zero, ← Hlc.out]; exact Hlet.out⟩
            case round =>
              obtain ⟨j, rfl, hj, hq⟩ := hrel
              have Hqj := Lib.hid hq
              clear hq
              by_cases hjl : j + 1 < cs.length
              · have hjI : (j : Int) + 1 < (cs.length : Int) := by omega
                have Hqn := Lib.hid (show (if befo cs' (j + 1) ≤ p then letF cs' p (cs.length - 1 - (j + 1)) (j + 1) else j) = l by rw [← Hqj.out, show cs.length - 1 - j = (cs.length - 1 - (j + 1)) + 1 by omega, letF])
                have HS := Lib.hid (Hbe.out (j + 1) (by rw [Hlc.out]; omega))
                rw [Int.natCast_add, Int.natCast_one] at HS
                generalize befo cs' (j + 1) = bj at *
                by_cases hbp : bj ≤ p
                · have Hqm := Lib.hid (show letF cs' p (cs.length - 1 - (j + 1)) (j + 1) = l by have := Hqn.out; rw [if_pos hbp] at this; exact this)
                  go_wp2_with fail
                  refine HS.out.mono ?_
                  rintro e w' ⟨rfl, rfl⟩
                  go_wp2
                  go_round
                  case rel => exact ⟨j + 1, by go_num, by omega, Hqm.out⟩
                  case measure => simp [intOf]; omega
                · have hle : l = j := by have := Hqn.out; rw [if_neg hbp] at this; exact this.symm
                  go_wp2_with fail
                  refine HS.out.mono ?_
                  rintro e w' ⟨rfl, rfl⟩
                  subst hle
                  have hcu := Lib.hid (l05Narrow_any A R _ (.slice none 0 0) cs' l low high 0 w1 HRI1.out c1 Hp'.out Hs16.out hll hc16 Hst1.out.r hk0 (by omega) hk3)
                  go_wp2_with fail
                  refine hcu.out.mono ?_
                  rintro e wn ⟨rfl, hRc, hkc⟩
                  have hst := Hst1.out.cut hRc hkc
                  clear hRc hkc hcu c0 c1 Hst1 HRI1 Hbe
                  have Hstw := Lib.hid hst
                  obtain ⟨nl, hnl⟩ : ∃ nl, nLow cs' l low high = nl := ⟨_, rfl⟩
                  obtain ⟨nh, hnh⟩ : ∃ nh, nHigh cs' l low high = nh := ⟨_, rfl⟩
                  rw [hnl, hnh] at hst hnb Hq2 Hwo HTn
                  have hto := Hwo.out.1
                  have HTo := Lib.hid hto
                  clear hnl hnh
                  go_wp2_with fail
                  go_loopg [11, 12] 17 (fun f cv av wr' => ∃ (lo hi co : Int) (at2 : Nat), cv = .int .i64 co ∧ av = .int .i64 at2 ∧ widT bs f ⟨lo, hi, co, at2⟩ = widT bs 17 ⟨nl, nh, code, at'⟩ ∧ Fuel f lo hi ∧ Tok ⟨lo, hi, co, at2⟩ ∧ at2 + f ≤ at' + 17 ∧ RtS rngO w cs.length A R gb off cs.length ck wr' cs' lo hi out (.slice aoo out.length capo))
                  case atStart => exact ⟨nl, nh, code, at', rfl, rfl, rfl, fuel17 hnb.2.1, HTn.out, Nat.le_refl _, hst⟩
                  case round =>
                    clear hst Hstw hto HTo
                    obtain ⟨lo, hi, co, at2, rfl, rfl, hw, hfu, htk, hat2, hst⟩ := hrel
                    obtain ⟨ht0, ht1, ht2, ht3⟩ := htk
                    dsimp only at ht0 ht1 ht2 ht3
                    have Hw := Lib.hid hw
                    have Hfu := Lib.hid hfu
                    clear hw hfu
                    cases hh : halv lo hi with
                    | none =>
                      have Hw2 := Lib.hid (show (⟨lo, hi, co, at2⟩ : Ts) = widT bs 17 ⟨nl, nh, code, at'⟩ by rw [← Hw.out, widT_none hh])
                      have hce := hst.cl.cell l hll
                      have hcf := hst.cl.free l hll
                      rw [← Hcb.out] at hce
                      obtain ⟨c0, c1, -, -⟩ := blk2 hst.a
                      have hgb1 := hgb.1
                      have hgb2 : git cs' l ≤ 16384 := by omega
                      have hlI : (l : Int) < (cs.length : Int) := by have := Hlc.out; omega
                      have hsh := Lib.hid (l05Halve_any R lo hi 0 (.slice none 0 0) _ hst.r)
                      rw [hh] at hsh
                      have hszR : R + 1 ≤ wr.heap.size := by have := blk_lt hst.r; omega
                      have Hst := Lib.hid hst
                      have HO := Lib.hid (And.intro hst.o hst.lo)
                      have Hgg := Lib.hid (show ∀ ww : World, ∀ lo2 hi2 : Int, ∀ o2 : List Int, ∀ v2 : Value, RtS rngO w cs.length A R gb off cs.length ck ww cs' lo2 hi2 o2 v2 → RtS rngO w cs.length A R gb off cs.length ck (ww.setCell ⟨gb, off + l, none⟩ (.int .i64 (git cs' l + gr))) (bumpG cs' l gr) lo2 hi2 o2 v2 from fun _ _ _ _ _ h => h.bump l hll (git cs' l + gr))
                      clear hst hh c0 c1 hce hcf
                      go_wp2_with fail
                      refine hsh.out.mono ?_
                      rintro e w' ⟨rfl, rfl⟩
                      clear hsh
                      go_wp2_with (at_builtin; go_must (refine app_ints rfl _ _ rfl (R + 1) w.heap.size (by have := Hst.out.aR; have := Hst.out.aw; omega) (.slice aoo out.length capo) out rfl HO.out.1 HO.out.2 _ _ [(l : Int)] rfl rfl (by rw [Hol.out]; simp; omega) hszR ?_))
                      intro v5 w5 hown5 hB5 hg5
                      have hst5 := Hst.out.push hg5 hown5 hB5
                      have hce := hst5.cl.cell l hll
                      have hcf := hst5.cl.free l hll
                      rw [← Hcb.out] at hce
                      obtain ⟨c0, c1, -, -⟩ := blk2 hst5.a
                      obtain ⟨ao5, cap5, rfl⟩ := hown5.shape
                      have Hst5 := Lib.hid (Hgg.out _ _ _ _ _ hst5)
                      have Hol5 := Lib.hid (show (out ++ [(l : Int)]).length = k + 1 by rw [List.length_append, Hol.out]; rfl)
                      have Ho65 := Lib.hid (show AllI64 (out ++ [(l : Int)]) from fun z hz => by rcases List.mem_append.1 hz with hz | hz; exact Ho64.out z hz; obtain rfl := List.mem_singleton.1 hz; constructor <;> omega)
                      clear hown5 hB5 hg5 hst5 Hgg
                      generalize out ++ [(l : Int)] = out5 at *
                      generalize hgv : git cs' l = gv at *
                      have hvg : IntKind.i64.wrap (gv + gr) = gv + gr := IntWalk.i64_in _ (by omega)
                      clear hgv
                      go_wp2
                      go_roundw
                      case rel => exact ⟨k + 1, bumpG cs' l gr, lo, hi, co, at2, out5, by first | go_num | (congr 1; omega), rfl, rfl, by omega, by rw [Hw2.out]; exact Hq2.out, ⟨ht0, ht1, ht2, ht3⟩, by have h9 := Hwo.out.2.1; rw [← Hw2.out] at h9; exact h9, by omega, HpB.out, by rw [bumpG_len]; exact Hlc.out, HsB.out, Hol5.out, Ho65.out, Hst5.out⟩
                      case measure => simp [intOf]; omega
                    | some b =>
                      have hb := halv_some hh ht0 (by omega) ht3
                      obtain ⟨f', rfl⟩ := Hfu.out.pos ht0 ht3
                      have Hfu2 := Lib.hid (Hfu.out.next (b := b))
                      have Hw3 := Lib.hid (widT_some (bs := bs) (f := f') (r := ⟨lo, hi, co, at2⟩) hh)
                      have hsh := Lib.hid (l05Halve_any R lo hi 0 (.slice none 0 0) _ hst.r)
                      rw [hh] at hsh
                      obtain ⟨⟨r0, r1, r2, r3⟩, hf⟩ := blk4 hst.r
                      have f0 := hf 0
                      have f1 := hf 1
                      have hR2 := four0 (v := .int .i64 (2 * (lo - b))) hst.r
                      have r1' := (blk4 hR2).1.2.1
                      have f1' := (blk4 hR2).2 1
                      have hR3 := four1 (v := .int .i64 (2 * (hi - b) + 1)) hR2
                      have hst2 := hst.cut hR3 (((Kpt.refl (· = R) wr).set (p := ⟨R, 0, none⟩) (.inl rfl) _).set (p := ⟨R, 1, none⟩) (.inl rfl) _)
                      have hbk := Hbi.out at2
                      have Hbc := Lib.hid (Hbit.out _ hst2.lo at2)
                      have Hst2 := Lib.hid hst2
                      generalize bitI bs at2 = bk at *
                      clear hh hst hst2 hf hR2 hR3
                      go_wp2_with fail
                      refine hsh.out.mono ?_
                      rintro e ws ⟨rfl, rfl⟩
                      clear hsh
                      go_wp2_with fail
                      refine Hbc.out.mono ?_
                      rintro e w' ⟨rfl, rfl⟩
                      clear Hbc r0 r1 r2 r3 f0 f1 r1' f1'
                      go_wp2
                      go_roundg f'
                      case measure => omega
                      case rel => exact ⟨2 * (lo - b), 2 * (hi - b) + 1, 2 * (co - b) + bk, at2 + 1, rfl, by go_num, by rw [← Hw.out, Hw3.out], Hfu2.out, ⟨by show (0 : Int) ≤ 2 * (lo - b); omega, by show 2 * (lo - b) ≤ 2 * (co - b) + bk; omega, by show 2 * (co - b) + bk ≤ 2 * (hi - b) + 1; omega, by show 2 * (hi - b) + 1 ≤ 65535; omega⟩, by omega, Hst2.out⟩
              · have hjI : ¬ (j : Int) + 1 < (cs.length : Int) := by omega
                have hle : l = j := by rw [← Hqj.out, show cs.length - 1 - j = 0 by omega, letF]
                subst hle
                have hcu := Lib.hid (l05Narrow_any A R _ (.slice none 0 0) cs' l low high 0 w1 HRI1.out c1 Hp'.out Hs16.out hll hc16 Hst1.out.r hk0 (by omega) hk3)
                go_wp2_with fail
                refine hcu.out.mono ?_
                rintro e wn ⟨rfl, hRc, hkc⟩
                have hst := Hst1.out.cut hRc hkc
                clear hRc hkc hcu c0 c1 Hst1 HRI1 Hbe
                have Hstw := Lib.hid hst
                obtain ⟨nl, hnl⟩ : ∃ nl, nLow cs' l low high = nl := ⟨_, rfl⟩
                obtain ⟨nh, hnh⟩ : ∃ nh, nHigh cs' l low high = nh := ⟨_, rfl⟩
                rw [hnl, hnh] at hst hnb Hq2 Hwo HTn
                have hto := Hwo.out.1
                have HTo := Lib.hid hto
                clear hnl hnh
                go_wp2_with fail
                go_loopg [11, 12] 17 (fun f cv av wr' => ∃ (lo hi co : Int) (at2 : Nat), cv = .int .i64 co ∧ av = .int .i64 at2 ∧ widT bs f ⟨lo, hi, co, at2⟩ = widT bs 17 ⟨nl, nh, code, at'⟩ ∧ Fuel f lo hi ∧ Tok ⟨lo, hi, co, at2⟩ ∧ at2 + f ≤ at' + 17 ∧ RtS rngO w cs.length A R gb off cs.length ck wr' cs' lo hi out (.slice aoo out.length capo))
                case atStart => exact ⟨nl, nh, code, at', rfl, rfl, rfl, fuel17 hnb.2.1, HTn.out, Nat.le_refl _, hst⟩
                case round =>
                  clear hst Hstw hto HTo
                  obtain ⟨lo, hi, co, at2, rfl, rfl, hw, hfu, htk, hat2, hst⟩ := hrel
                  obtain ⟨ht0, ht1, ht2, ht3⟩ := htk
                  dsimp only at ht0 ht1 ht2 ht3
                  have Hw := Lib.hid hw
                  have Hfu := Lib.hid hfu
                  clear hw hfu
                  cases hh : halv lo hi with
                  | none =>
                    have Hw2 := Lib.hid (show (⟨lo, hi, co, at2⟩ : Ts) = widT bs 17 ⟨nl, nh, code, at'⟩ by rw [← Hw.out, widT_none hh])
                    have hce := hst.cl.cell l hll
                    have hcf := hst.cl.free l hll
                    rw [← Hcb.out] at hce
                    obtain ⟨c0, c1, -, -⟩ := blk2 hst.a
                    have hgb1 := hgb.1
                    have hgb2 : git cs' l ≤ 16384 := by omega
                    have hlI : (l : Int) < (cs.length : Int) := by have := Hlc.out; omega
                    have hsh := Lib.hid (l05Halve_any R lo hi 0 (.slice none 0 0) _ hst.r)
                    rw [hh] at hsh
                    have hszR : R + 1 ≤ wr.heap.size := by have := blk_lt hst.r; omega
                    have Hst := Lib.hid hst
                    have HO := Lib.hid (And.intro hst.o hst.lo)
                    have Hgg := Lib.hid (show ∀ ww : World, ∀ lo2 hi2 : Int, ∀ o2 : List Int, ∀ v2 : Value, RtS rngO w cs.length A R gb off cs.length ck ww cs' lo2 hi2 o2 v2 → RtS rngO w cs.length A R gb off cs.length ck (ww.setCell ⟨gb, off + l, none⟩ (.int .i64 (git cs' l + gr))) (bumpG cs' l gr) lo2 hi2 o2 v2 from fun _ _ _ _ _ h => h.bump l hll (git cs' l + gr))
                    clear hst hh c0 c1 hce hcf
                    go_wp2_with fail
                    refine hsh.out.mono ?_
                    rintro e w' ⟨rfl, rfl⟩
                    clear hsh
                    go_wp2_with (at_builtin; go_must (refine app_ints rfl _ _ rfl (R + 1) w.heap.size (by have := Hst.out.aR; have := Hst.out.aw; omega) (.slice aoo out.length capo) out rfl HO.out.1 HO.out.2 _ _ [(l : Int)] rfl rfl (by rw [Hol.out]; simp; omega) hszR ?_))
                    intro v5 w5 hown5 hB5 hg5
                    have hst5 := Hst.out.push hg5 hown5 hB5
                    have hce := hst5.cl.cell l hll
                    have hcf := hst5.cl.free l hll
                    rw [← Hcb.out] at hce
                    obtain ⟨c0, c1, -, -⟩ := blk2 hst5.a
                    obtain ⟨ao5, cap5, rfl⟩ := hown5.shape
                    have Hst5 := Lib.hid (Hgg.out _ _ _ _ _ hst5)
                    have Hol5 := Lib.hid (show (out ++ [(l : Int)]).length = k + 1 by rw [List.length_append, Hol.out]; rfl)
                    have Ho65 := Lib.hid (show AllI64 (out ++ [(l : Int)]) from fun z hz => by rcases List.mem_append.1 hz with hz | hz; exact Ho64.out z hz; obtain rfl := List.mem_singleton.1 hz; constructor <;> omega)
                    clear hown5 hB5 hg5 hst5 Hgg
                    generalize out ++ [(l : Int)] = out5 at *
                    generalize hgv : git cs' l = gv at *
                    have hvg : IntKind.i64.wrap (gv + gr) = gv + gr := IntWalk.i64_in _ (by omega)
                    clear hgv
                    go_wp2
                    go_roundw
                    case rel => exact ⟨k + 1, bumpG cs' l gr, lo, hi, co, at2, out5, by first | go_num | (congr 1; omega), rfl, rfl, by omega, by rw [Hw2.out]; exact Hq2.out, ⟨ht0, ht1, ht2, ht3⟩, by have h9 := Hwo.out.2.1; rw [← Hw2.out] at h9; exact h9, by omega, HpB.out, by rw [bumpG_len]; exact Hlc.out, HsB.out, Hol5.out, Ho65.out, Hst5.out⟩
                    case measure => simp [intOf]; omega
                  | some b =>
                    have hb := halv_some hh ht0 (by omega) ht3
                    obtain ⟨f', rfl⟩ := Hfu.out.pos ht0 ht3
                    have Hfu2 := Lib.hid (Hfu.out.next (b := b))
                    have Hw3 := Lib.hid (widT_some (bs := bs) (f := f') (r := ⟨lo, hi, co, at2⟩) hh)
                    have hsh := Lib.hid (l05Halve_any R lo hi 0 (.slice none 0 0) _ hst.r)
                    rw [hh] at hsh
                    obtain ⟨⟨r0, r1, r2, r3⟩, hf⟩ := blk4 hst.r
                    have f0 := hf 0
                    have f1 := hf 1
                    have hR2 := four0 (v := .int .i64 (2 * (lo - b))) hst.r
                    have r1' := (blk4 hR2).1.2.1
                    have f1' := (blk4 hR2).2 1
                    have hR3 := four1 (v := .int .i64 (2 * (hi - b) + 1)) hR2
                    have hst2 := hst.cut hR3 (((Kpt.refl (· = R) wr).set (p := ⟨R, 0, none⟩) (.inl rfl) _).set (p := ⟨R, 1, none⟩) (.inl rfl) _)
                    have hbk := Hbi.out at2
                    have Hbc := Lib.hid (Hbit.out _ hst2.lo at2)
                    have Hst2 := Lib.hid hst2
                    generalize bitI bs at2 = bk at *
                    clear hh hst hst2 hf hR2 hR3
                    go_wp2_with fail
                    refine hsh.out.mono ?_
                    rintro e ws ⟨rfl, rfl⟩
                    clear hsh
                    go_wp2_with fail
                    refine Hbc.out.mono ?_
                    rintro e w' ⟨rfl, rfl⟩
                    clear Hbc r0 r1 r2 r3 f0 f1 r1' f1'
                    go_wp2
                    go_roundg f'
                    case measure => omega
                    case rel => exact ⟨2 * (lo - b), 2 * (hi - b) + 1, 2 * (co - b) + bk, at2 + 1, rfl, by go_num, by rw [← Hw.out, Hw3.out], Hfu2.out, ⟨by show (0 : Int) ≤ 2 * (lo - b); omega, by show 2 * (lo - b) ≤ 2 * (co - b) + bk; omega, by show 2 * (co - b) + bk ≤ 2 * (hi - b) + 1; omega, by show 2 * (hi - b) + 1 ≤ 65535; omega⟩, by omega, Hst2.out⟩
          · have hke : k = m := by omega
            have hkI2 : ¬ (0 : Int) < (m : Int) - (k : Int) := by omega
            have hfin : out = rt gr cs bs m := by rw [← Hq.out, hke, Nat.sub_self, rtF]
            have Hfin := Lib.hid hfin
            have hoi := OI.mono (show w.heap.size ≤ R + 1 by have := hst.aR; have := hst.aw; omega) (hst.o.oi Ho64.out)
            have hlo := hst.lo
            have Hoi := Lib.hid (And.intro hoi hlo)
            clear hst hfin hoi hlo
            go_wp2
            go_ret
            exact ⟨_, rfl, by rw [← Hfin.out]; exact Hoi.out.1, Hoi.out.2⟩
end Go.Proofs.Ytnemfdiagejboaa
