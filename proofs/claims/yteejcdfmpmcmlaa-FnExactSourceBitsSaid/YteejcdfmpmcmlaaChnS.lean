/- ChainChannels in the reference. No conditions but that the slices read. -/
import Derived.Test.YteejcdfmpmcmlaaGive
namespace Go.Proofs.Yteejcdfmpmcmlaa
open Go.RowKit
set_option maxRecDepth 100000
set_option linter.unusedVariables false
set_option linter.unusedSimpArgs false

/-- The chances of one behind the other, the first rows. -/
def chL (xa xb : List Nat) (ma mb k : Nat) : List Nat := (List.range k).flatMap fun i => thL (rowL xa ma i) xb ma mb mb
theorem chL_snoc (xa xb : List Nat) (ma mb k : Nat) : chL xa xb ma mb (k + 1) = chL xa xb ma mb k ++ thL (rowL xa ma k) xb ma mb mb := by simp [chL, List.range_succ]
theorem chL_len (xa xb : List Nat) (ma mb k : Nat) : (chL xa xb ma mb k).length = k * mb := by
  induction k with
  | zero => simp [chL]
  | succ k ih => rw [chL_snoc, List.length_append, ih, thL_len, Nat.add_mul, Nat.one_mul]
def coOk (n0 m0 : Int) (z0 : List Nat) (n1 m1 : Int) (z1 : List Nat) : Bool := chanW n0 m0 z0 && chanW n1 m1 z1 && decide (m0 = n1) && chanW n0 m1 (chL z0 z1 m0.toNat m1.toNat n0.toNat)
def coZ (n0 m0 : Int) (z0 : List Nat) (n1 m1 : Int) (z1 : List Nat) : List Nat := cgZ (coOk n0 m0 z0 n1 m1 z1) (chL z0 z1 m0.toNat m1.toNat n0.toNat)
theorem coZ_len (n0 m0 : Int) (z0 : List Nat) (n1 m1 : Int) (z1 : List Nat) : (coZ n0 m0 z0 n1 m1 z1).length ≤ 16777216 := by
  unfold coZ
  cases h : coOk n0 m0 z0 n1 m1 z1
  · simp [cgZ]
  · simp only [coOk, Bool.and_eq_true] at h
    obtain ⟨⟨⟨h1, h2⟩, -⟩, -⟩ := h
    obtain ⟨a, b, rfl, rfl, ha⟩ := chan_ok h1
    obtain ⟨c, d, rfl, rfl, hb⟩ := chan_ok h2
    have := Nat.mul_le_mul ha.n8 hb.m8
    simp only [cgZ, if_true, Int.toNat_natCast, chL_len]
    omega
/-- What lies in memory between two rounds. -/
structure CnS (T : TypeId) (w W : World) (n0 m0 : Int) (v0 : Value) (n1 m1 : Int) (v1 : Value) (out : Value) (xs : List Nat) : Prop where
  hB : Below w.heap.size w W
  a : ChP W w.heap.size n0 m0 v0
  b : ChP W (w.heap.size + 1) n1 m1 v1
  r : W.heap[w.heap.size + 2]? = some (.cells #[.int .i64 0, .int .i64 0, .slice none 0 0] T (0, 0))
  c : W.heap[w.heap.size + 3]? = some (.cells #[.int .i64 n0, .int .i64 m1, out] T (0, 0))
  o : OwnF (w.heap.size + 4) W out xs
theorem ChP.of {B : Nat} {W W' : World} {g : Nat} {n m : Int} {v : Value} (h : ChP W g n m v) (hb : Below B W W') (hg : g < B) : ChP W' g n m v := ⟨(hb.cell (p := ⟨g, 0, none⟩) hg).trans h.1, (hb.cell (p := ⟨g, 1, none⟩) hg).trans h.2.1, (hb.cell (p := ⟨g, 2, none⟩) hg).trans h.2.2⟩
theorem ChP.mk' {W : World} {g : Nat} {n m : Int} {v : Value} (h0 : W.cell? ⟨g, 0, none⟩ = some (.int .i64 n)) (h1 : W.cell? ⟨g, 1, none⟩ = some (.int .i64 m)) (h2 : W.cell? ⟨g, 2, none⟩ = some v) : ChP W g n m v := ⟨h0, h1, h2⟩
theorem bup {B : Nat} {a b c : World} (h : Below B a b) (hs : B ≤ a.heap.size) (hb : Below b.heap.size b c) : Below B a c := h.trans (hb.mono (Nat.le_trans hs h.size))
theorem CnS.next {T : TypeId} {w W W' : World} {n0 m0 : Int} {v0 : Value} {n1 m1 : Int} {v1 : Value} {out out' : Value} {xs xs' : List Nat} (h : CnS T w W n0 m0 v0 n1 m1 v1 out xs) (hb : Below (w.heap.size + 4) W W') (ho : OwnF (w.heap.size + 4) W' out' xs') :
    CnS T w (W'.setCell ⟨w.heap.size + 3, 2, none⟩ out') n0 m0 v0 n1 m1 v1 out' xs' := by
  refine ⟨(h.hB.trans (hb.mono (by omega))).setCell (p := ⟨w.heap.size + 3, 2, none⟩) (by show w.heap.size ≤ w.heap.size + 3; omega) _, (h.a.of hb (by omega)).far _ _ (by show w.heap.size + 3 ≠ w.heap.size; omega), (h.b.of hb (by omega)).far _ _ (by show w.heap.size + 3 ≠ w.heap.size + 1; omega), blk_other (by show w.heap.size + 3 ≠ w.heap.size + 2; omega) (blk_below hb (by omega) h.r), ?_, ?_⟩
  · exact heap_setCell_same W' (w.heap.size + 3) 2 #[.int .i64 n0, .int .i64 m1, out] T out' (blk_below hb (by omega) h.c)
  · refine World.ownsRow.kept ho (grown_setCell W' _ _) ?_
    cases hv : out'.ownBlock with
    | none => exact .inl rfl
    | some k => right; intro e; have := (World.ownsRow.lt ho k hv).1; simp at e; omega
set_option maxHeartbeats 4000000 in
theorem specCo_any (n0 m0 : Int) (v0 : Value) (z0 : List Nat) (n1 m1 : Int) (v1 : Value) (z1 : List Nat) (w : World) (h0 : Rg eF w v0 z0) (h1 : Rg eF w v1 z1) :
    Calls Try.prog 17 #[.agg #[.int .i64 n0, .int .i64 m0, v0], .agg #[.int .i64 n1, .int .i64 m1, v1]] w fun e w' => ∃ v', e = .returned (.tuple #[.agg #[.int .i64 (cgN (coOk n0 m0 z0 n1 m1 z1) n0), .int .i64 (cgN (coOk n0 m0 z0 n1 m1 z1) m1), v'], .bool (coOk n0 m0 z0 n1 m1 z1)]) ∧ Og eF w.heap.size w' v' (coZ n0 m0 z0 n1 m1 z1) ∧ Below w.heap.size w w' := by
  obtain ⟨ao0, cap0, rfl⟩ := h0.shape
  obtain ⟨ao1, cap1, rfl⟩ := h1.shape
  have G0 := Lib.hid h0
  have G1 := Lib.hid h1
  obtain ⟨W0, hW0⟩ : ∃ W0, W0 = ((w.alloc (.cells #[.int .i64 n0, .int .i64 m0, .slice ao0 z0.length cap0] 28)).alloc (.cells #[.int .i64 n1, .int .i64 m1, .slice ao1 z1.length cap1] 28)).alloc (.cells #[.int .i64 0, .int .i64 0, .slice none 0 0] 28) := ⟨_, rfl⟩
  have hB0 : Below w.heap.size w W0 := by rw [hW0]; go_grown
  have hA0 : ChP W0 w.heap.size n0 m0 (.slice ao0 z0.length cap0) := by rw [hW0]; exact ⟨by simp [go_sem], by simp [go_sem], by simp [go_sem]⟩
  have hA1 : ChP W0 (w.heap.size + 1) n1 m1 (.slice ao1 z1.length cap1) := by rw [hW0]; exact ⟨by simp [go_sem], by simp [go_sem], by simp [go_sem]⟩
  have hR : W0.heap[w.heap.size + 2]? = some (.cells #[.int .i64 0, .int .i64 0, .slice none 0 0] 28 (0, 0)) := by
    have := heap_alloc_new ((w.alloc (.cells #[.int .i64 n0, .int .i64 m0, .slice ao0 z0.length cap0] 28)).alloc (.cells #[.int .i64 n1, .int .i64 m1, .slice ao1 z1.length cap1] 28)) (.cells #[.int .i64 0, .int .i64 0, .slice none 0 0] 28)
    rw [← hW0, World.size_alloc, World.size_alloc] at this; exact this
  have hsz : W0.heap.size = w.heap.size + 3 := by rw [hW0]; simp
  have hi0 := fun W (hb : Below W0.heap.size W0 W) => l03Is_any w.heap.size n0 m0 _ z0 W (hA0.below hb) (h0.below (bnext hB0 hb))
  have hi1 := fun W (hb : Below W0.heap.size W0 W) => l03Is_any (w.heap.size + 1) n1 m1 _ z1 W (hA1.below hb) (h1.below (bnext hB0 hb))
  have HB0 := Lib.hid hB0
  have HA0 := Lib.hid hA0
  have HA1 := Lib.hid hA1
  have HR := Lib.hid hR
  have Hsz := Lib.hid hsz
  clear hB0 hA0 hA1 hR hsz h0 h1
  have hdef : coOk n0 m0 z0 n1 m1 z1 = (chanW n0 m0 z0 && chanW n1 m1 z1 && decide (m0 = n1) && chanW n0 m1 (chL z0 z1 m0.toNat m1.toNat n0.toNat)) := rfl
  cases c0 : chanW n0 m0 z0
  · rw [c0] at hdef hi0
    have Hok := Lib.hid (show coOk n0 m0 z0 n1 m1 z1 = false from hdef)
    clear hdef hi1
    go_enter Try.func17, Try.ntmps17
    go_wp2_with fail
    rw [← hW0]
    refine (hi0 _ (Below.refl _ _)).mono ?_
    rintro e w1 ⟨rfl, k1, hw1⟩
    have hbF : Below W0.heap.size W0 w1 := by rw [hw1]; exact below_drewN _ _
    clear hw1
    have hbw := bnext HB0.out hbF
    obtain ⟨r0, r1, r2, q0, q1, q2⟩ := cell3 (blk_next hbF HR.out)
    have hfB := below3 hbw (w.heap.size + 2) (by omega) (.int .i64 0) (.int .i64 0) (.slice none 0 0)
    go_wp2
    exact bodyPost_ret (v := .tuple #[.agg #[.int .i64 0, .int .i64 0, .slice none 0 0], .bool false]) (by simp [results, Try.results17, go_sem, r0, r1, r2]) rfl ⟨.slice none 0 0, by rw [Hok.out]; rfl, by unfold coZ; rw [Hok.out]; exact og_nil _, hfB⟩
  · cases c1 : chanW n1 m1 z1
    · rw [c0, c1] at hdef
      rw [c0] at hi0
      rw [c1] at hi1
      have Hok := Lib.hid (show coOk n0 m0 z0 n1 m1 z1 = false from hdef)
      clear hdef
      go_enter Try.func17, Try.ntmps17
      go_wp2_with fail
      rw [← hW0]
      refine (hi0 _ (Below.refl _ _)).mono ?_
      rintro e w1 ⟨rfl, k1, hw1⟩
      have hb1 : Below W0.heap.size W0 w1 := by rw [hw1]; exact below_drewN _ _
      obtain ⟨a0, a1, a2⟩ := HA0.out.below hb1
      obtain ⟨b0, b1, b2⟩ := HA1.out.below hb1
      clear hw1
      go_wp2_with fail
      refine (hi1 _ hb1).mono ?_
      rintro e w2 ⟨rfl, k2, hw2⟩
      have hbF : Below W0.heap.size W0 w2 := bnext hb1 (by rw [hw2]; exact below_drewN _ _)
      clear hw2 a0 a1 a2 b0 b1 b2
      obtain ⟨a0, a1, a2⟩ := HA0.out.below hbF
      obtain ⟨b0, b1, b2⟩ := HA1.out.below hbF
      have hbw := bnext HB0.out hbF
      obtain ⟨r0, r1, r2, q0, q1, q2⟩ := cell3 (blk_next hbF HR.out)
      have hfB := below3 hbw (w.heap.size + 2) (by omega) (.int .i64 0) (.int .i64 0) (.slice none 0 0)
      go_wp2
      exact bodyPost_ret (v := .tuple #[.agg #[.int .i64 0, .int .i64 0, .slice none 0 0], .bool false]) (by simp [results, Try.results17, go_sem, r0, r1, r2]) rfl ⟨.slice none 0 0, by rw [Hok.out]; rfl, by unfold coZ; rw [Hok.out]; exact og_nil _, hfB⟩
    · rw [c0, c1] at hdef
      rw [c0] at hi0
      rw [c1] at hi1
      obtain ⟨a, ma, rfl, rfl, ca⟩ := chan_ok c0
      obtain ⟨nb, mb, rfl, rfl, cb⟩ := chan_ok c1
      by_cases hm : ma = nb
      · subst hm
        have hpos : 0 < z0.length := by rw [ca.len]; exact Nat.mul_pos ca.n1 ca.m1
        obtain ⟨bb, ob, rfl, -, cp1, cp2, -⟩ := G0.out.sub 0 1 (by decide) (by omega)
        have hdef2 : coOk a ma z0 ma mb z1 = chanW a mb (chL z0 z1 ma mb a) := by rw [hdef]; simp
        have hne : (ma != ma) = false := by simp
        have hne' : ((ma : Int) != (ma : Int)) = false := by simp
        have Hok := Lib.hid hdef2
        have HZ := Lib.hid (show coZ a ma z0 ma mb z1 = cgZ (coOk a ma z0 ma mb z1) (chL z0 z1 ma mb a) from rfl)
        have CA := Lib.hid ca
        have CB := Lib.hid cb
        have a8 := ca.n8
        have b8 := cb.m8
        have ma8 := ca.m8
        have ma1 := ca.m1
        have mb1 := cb.m1
        clear hdef hdef2 ca cb
        go_enter Try.func17, Try.ntmps17
        go_wp2_with fail
        rw [← hW0]
        clear hW0
        refine (hi0 _ (Below.refl _ _)).mono ?_
        rintro e w1 ⟨rfl, k1, hw1⟩
        have hb1 : Below W0.heap.size W0 w1 := by rw [hw1]; exact below_drewN _ _
        obtain ⟨a0, a1, a2⟩ := HA0.out.below hb1
        obtain ⟨b0, b1, b2⟩ := HA1.out.below hb1
        have Hw1 := Lib.hid hw1
        clear hw1
        go_wp2_with fail
        refine (hi1 _ hb1).mono ?_
        rintro e w2 ⟨rfl, k2, hw2⟩
        have hbF : Below W0.heap.size W0 w2 := bnext hb1 (by rw [hw2]; exact below_drewN _ _)
        have Hw2 := Lib.hid hw2
        clear hw2 a0 a1 a2 b0 b1 b2
        obtain ⟨a0, a1, a2⟩ := HA0.out.below hbF
        obtain ⟨b0, b1, b2⟩ := HA1.out.below hbF
        have hs2 : w2.heap.size = w.heap.size + 3 := by
          rw [Hw2.out]; show w1.heap.size = _
          rw [Hw1.out]; exact Hsz.out
        have hst : ∀ W', W' = w2.alloc (.cells #[.int .i64 a, .int .i64 mb, .slice none 0 0] 28) → CnS 28 w W' a ma (.slice (some ⟨bb, ob, none⟩) z0.length cap0) ma mb (.slice ao1 z1.length cap1) (.slice none 0 0) [] := by
          intro W' e
          have hal : Below w2.heap.size w2 W' := by rw [e]; exact (Below.refl _ _).alloc (Nat.le_refl _) _
          have hbw := bnext hbF hal
          refine ⟨bnext HB0.out hbw, HA0.out.below hbw, HA1.out.below hbw, blk_next hbw HR.out, ?_, ownF_nil _ _⟩
          rw [e, ← hs2]; exact heap_alloc_new w2 _
        have Hst := Lib.hid hst
        clear hst
        go_wp2
        go_loopw [7] (fun iv wr => ∃ (i : Nat) (out : Value), iv = .int .i64 i ∧ i ≤ a ∧ CnS 28 w wr a ma (.slice (some ⟨bb, ob, none⟩) z0.length cap0) ma mb (.slice ao1 z1.length cap1) out (chL z0 z1 ma mb i)) (fun iv _ => a - (intOf iv).toNat)
        case atStart => exact ⟨0, .slice none 0 0, rfl, Nat.zero_le _, Hst.out _ rfl⟩
        case round =>
          clear Hst
          obtain ⟨i, out, rfl, hi, h⟩ := hrel
          have hsz4 : w.heap.size + 4 ≤ wr.heap.size := blk_lt h.c
          obtain ⟨a0, a1, a2⟩ := h.a
          obtain ⟨b0, b1, b2⟩ := h.b
          obtain ⟨c0, c1, c2, d0, d1, d2⟩ := cell3 h.c
          have HH := Lib.hid h
          have Hlen := Lib.hid (chL_len z0 z1 ma mb i)
          have hle : i * mb ≤ 64 := Nat.mul_le_mul (Nat.le_trans hi a8) b8
          obtain ⟨ao6, cap6, rfl⟩ := h.o.shape
          by_cases hin : i < a
          · have hrow := Lib.hid (rowL_len CA.out.len hin)
            have hch := Lib.hid (row_ch (CA.out.row i hin) (rowL_len CA.out.len hin))
            have hRr := Lib.hid (Rg.row G0.out CA.out.len a8 ma8 ma1 hin)
            have Hsn := Lib.hid (chL_snoc z0 z1 ma mb i)
            have hbb : Below wr.heap.size wr wr.drew := (Below.refl _ _).drew
            have hbb4 : Below (w.heap.size + 4) wr wr.drew := (Below.refl _ _).drew
            clear h
            go_wp2
            refine wp_region_held_tail 7 (S := fun W' => W'.cell? ⟨w.heap.size + 3, 2, none⟩ = some (.slice ao6 (chL z0 z1 ma mb i).length cap6) ∧ W'.cell? ⟨w.heap.size, 0, none⟩ = some (.int .i64 a) ∧ W'.cell? ⟨w.heap.size, 1, none⟩ = some (.int .i64 ma) ∧ W'.cell? ⟨w.heap.size, 2, none⟩ = some (.slice (some ⟨bb, ob, none⟩) z0.length cap0) ∧ W'.cell? ⟨w.heap.size + 1, 0, none⟩ = some (.int .i64 ma) ∧ W'.cell? ⟨w.heap.size + 1, 1, none⟩ = some (.int .i64 mb) ∧ W'.cell? ⟨w.heap.size + 1, 2, none⟩ = some (.slice ao1 z1.length cap1) ∧ Below (w.heap.size + 4) wr W') (by kernel_rfl) (by decide +kernel) ?_ (fun hHeld => ?_)
            · (go_split_ands; refine ⟨?_, ?_, ?_, ?_, ?_, ?_, ?_, ?_⟩ <;> first | assumption | exact cnext (by assumption) (by assumption) | exact bup (by assumption) hsz4 (by assumption))
            simp only [List.take_succ_cons, List.take_zero, List.drop_succ_cons, List.drop_zero, List.length_cons, List.length_nil, Nat.reduceAdd]
            refine wpAnyH_tk (i := 0) (v := ?_) (some 33) rfl rfl (by kernel_rfl) (by decide +kernel) (by decide +kernel) (fun _ _ _ h => h) (by kernel_rfl) ?_ hHeld ?_
            rotate_left
            · (intro w hSw; (try dsimp only at hSw); go_simp <;> with_reducible rfl)
            (try simp only [Act.put, List.setIfInBounds_toArray, List.set_cons_zero, List.set_cons_succ])
            refine wpAnyH_tk (i := 1) (v := ?_) (some 34) rfl rfl (by kernel_rfl) (by decide +kernel) (by decide +kernel) (fun _ _ _ h => h) (by kernel_rfl) ?_ hHeld ?_
            rotate_left
            · (intro w hSw; (try dsimp only at hSw); go_simp <;> with_reducible rfl)
            (try simp only [Act.put, List.setIfInBounds_toArray, List.set_cons_zero, List.set_cons_succ])
            refine wpAnyH_tk (i := 2) (v := ?_) (some 35) rfl rfl (by kernel_rfl) (by decide +kernel) (by decide +kernel) (fun _ _ _ h => h) (by kernel_rfl) ?_ hHeld ?_
            rotate_left
            · (intro w hSw; (try dsimp only at hSw); go_simp <;> with_reducible rfl)
            (try simp only [Act.put, List.setIfInBounds_toArray, List.set_cons_zero, List.set_cons_succ])
            refine wpAnyH_ready (rs := [3]) (by kernel_rfl) (by simp) ?_
            refine AllReadyH.cons rfl (fun K hK => ?_) AllReadyH.nil
            go_simp
            with_reducible refine Calls.mono (l03Row_at w.heap.size a ma i bb ob z0.length cap0 _ (ChP.mk' hHeld.2.1 hHeld.2.2.1 hHeld.2.2.2.1) a8 ma8 ma1 CA.out.len hin cp1 cp2) ?_
            rintro e w3 ⟨rfl, k3, hw3⟩
            have hb3 := hw3 ▸ below_drewN _ k3
            clear hw3
            try go_wp2_with fail
            refine hK.out _ _ ?_ (fun hHeld => ?_)
            · (go_split_ands; refine ⟨?_, ?_, ?_, ?_, ?_, ?_, ?_, ?_⟩ <;> first | assumption | exact cnext (by assumption) (by assumption) | exact bup (by assumption) hsz4 (by assumption))
            clear hK K
            (try simp only [Act.put, List.setIfInBounds_toArray, List.set_cons_zero, List.set_cons_succ])
            refine wpAnyH_ready (rs := [4]) (by kernel_rfl) (by simp) ?_
            refine AllReadyH.cons rfl (fun K hK => ?_) AllReadyH.nil
            go_simp
            with_reducible refine Calls.mono (l03Through_any (w.heap.size + 1) ma mb _ z1 _ (rowL z0 ma i) _ (ChP.mk' hHeld.2.2.2.2.1 hHeld.2.2.2.2.2.1 hHeld.2.2.2.2.2.2.1) (G1.out.below (HH.out.hB.trans (hHeld.2.2.2.2.2.2.2.mono (by omega)))) (hRr.out.below (HH.out.hB.trans (hHeld.2.2.2.2.2.2.2.mono (by omega)))) CB.out hrow.out hch.out) ?_
            rintro e w4 ⟨v4, rfl, ho4, hb4⟩
            obtain ⟨g4, of4, cp4, rfl, hob4⟩ := Og.ob ho4.og (by rw [thL_len]; omega)
            try go_wp2_with fail
            refine hK.out _ _ ?_ (fun hHeld => ?_)
            · (go_split_ands; refine ⟨?_, ?_, ?_, ?_, ?_, ?_, ?_, ?_⟩ <;> first | assumption | exact cnext (by assumption) (by assumption) | exact bup (by assumption) hsz4 (by assumption))
            clear hK K
            (try simp only [Act.put, List.setIfInBounds_toArray, List.set_cons_zero, List.set_cons_succ])
            refine wpAnyH_ready (rs := [5]) (by kernel_rfl) (by simp) ?_
            refine AllReadyH.cons rfl (fun K hK => ?_) AllReadyH.nil
            refine step_appF rfl (.tmp 34) (.tmp 37) rfl (w.heap.size + 4) (w.heap.size + 4) (Nat.le_refl _) (.slice ao6 (chL z0 z1 ma mb i).length cap6) (chL z0 z1 ma mb i) (by simp [Act.eval, Act.put]) (own_below hb4 (own_below hb3 (own_below hbb HH.out.o))) hHeld.2.2.2.2.2.2.2 (thL (rowL z0 ma i) z1 ma mb mb) ⟨g4, of4, none⟩ cp4 (by simp [Act.eval, Act.put]) (fun j hj => by rw [Addr.add_lit]; exact hob4.cell j hj) (by rw [Hlen.out, thL_len]; omega) (Nat.le_trans hsz4 hHeld.2.2.2.2.2.2.2.size) ?_
            intro v6 w6 hown6 hB6 hg6
            rw [← Hsn.out] at hown6
            obtain ⟨ao7, cap7, rfl⟩ := hown6.shape
            refine hK.out _ _ ?_ (fun hHeld => ?_)
            · exact ⟨(hB6.cell (p := ⟨w.heap.size + 3, 2, none⟩) (by show w.heap.size + 3 < w.heap.size + 4; omega)).trans c2, (hB6.cell (p := ⟨w.heap.size, 0, none⟩) (by show w.heap.size < w.heap.size + 4; omega)).trans a0, (hB6.cell (p := ⟨w.heap.size, 1, none⟩) (by show w.heap.size < w.heap.size + 4; omega)).trans a1, (hB6.cell (p := ⟨w.heap.size, 2, none⟩) (by show w.heap.size < w.heap.size + 4; omega)).trans a2, (hB6.cell (p := ⟨w.heap.size + 1, 0, none⟩) (by show w.heap.size + 1 < w.heap.size + 4; omega)).trans b0, (hB6.cell (p := ⟨w.heap.size + 1, 1, none⟩) (by show w.heap.size + 1 < w.heap.size + 4; omega)).trans b1, (hB6.cell (p := ⟨w.heap.size + 1, 2, none⟩) (by show w.heap.size + 1 < w.heap.size + 4; omega)).trans b2, hB6⟩
            clear hK K
            (try simp only [Act.put, List.setIfInBounds_toArray, List.set_cons_zero, List.set_cons_succ])
            refine wpAnyH_tk (i := 6) (v := ?_) (some 39) rfl rfl (by kernel_rfl) (by decide +kernel) (by decide +kernel) (fun _ _ _ h => h) (by kernel_rfl) ?_ hHeld ?_
            rotate_left
            · (intro w hSw; (try dsimp only at hSw); go_simp <;> with_reducible rfl)
            (try simp only [Act.put, List.setIfInBounds_toArray, List.set_cons_zero, List.set_cons_succ])
            refine wpAnyH_done (by kernel_rfl) ?_ _
            show wpList _ _ _ _ _ _
            have hB6' : Below (w.heap.size + 4) wr w6 := hB6
            obtain ⟨c0', c1', c2', d0', d1', d2'⟩ := cell3 (blk_below hB6' (show w.heap.size + 3 < w.heap.size + 4 by omega) HH.out.c)
            have HN := Lib.hid (HH.out.next hB6' hown6)
            clear hHeld hown6 hB6 hg6 hb3 hb4 hbb hbb4 c0 c1 c2 d0 d1 d2 a0 a1 a2 b0 b1 b2 hob4
            go_wp2
            go_roundw
            case rel => exact ⟨i + 1, _, by go_num, by omega, HN.out⟩
            case measure => simp [intOf]; omega
          · obtain rfl : i = a := by omega
            have hg := l03Give_any i mb _ (chL z0 z1 ma mb i) wr HH.out.o.og.rg
            have hsz2 : w.heap.size ≤ w.heap.size + 2 := by omega
            clear h
            cases hcw : chanW (i : Int) (mb : Int) (chL z0 z1 ma mb i)
            · rw [hcw] at hg
              simp only [cgN, cgV, Bool.false_eq_true, if_false, if_true] at hg
              go_wp2_with fail
              refine hg.mono ?_
              rintro e w9 ⟨rfl, hb9⟩
              obtain ⟨r0, r1, r2, q0, q1, q2⟩ := cell3 (blk_next hb9 HH.out.r)
              have hfB := below3 (bnext HH.out.hB hb9) (w.heap.size + 2) hsz2 (.int .i64 0) (.int .i64 0) (.slice none 0 0)
              clear c0 c1 c2 d0 d1 d2 a0 a1 a2 b0 b1 b2
              go_wp2
              exact bodyPost_ret (v := .tuple #[.agg #[.int .i64 0, .int .i64 0, .slice none 0 0], .bool false]) (by simp [results, Try.results17, go_sem, r0, r1, r2]) rfl ⟨.slice none 0 0, by rw [Hok.out, hcw]; rfl, by rw [HZ.out, Hok.out, hcw]; exact og_nil _, hfB⟩
            · rw [hcw] at hg
              simp only [cgN, cgV, Bool.false_eq_true, if_false, if_true] at hg
              go_wp2_with fail
              refine hg.mono ?_
              rintro e w9 ⟨rfl, hb9⟩
              obtain ⟨r0, r1, r2, q0, q1, q2⟩ := cell3 (blk_next hb9 HH.out.r)
              have hfB := below3 (bnext HH.out.hB hb9) (w.heap.size + 2) hsz2 (.int .i64 i) (.int .i64 mb) (.slice ao6 (chL z0 z1 ma mb i).length cap6)
              have hfO := Lib.hid ((HH.out.o.og.below hb9).box3 (w.heap.size + 2) (by omega) (.int .i64 i) (.int .i64 mb) (.slice ao6 (chL z0 z1 ma mb i).length cap6))
              clear c0 c1 c2 d0 d1 d2 a0 a1 a2 b0 b1 b2
              go_wp2
              exact bodyPost_ret (v := .tuple #[.agg #[.int .i64 i, .int .i64 mb, .slice ao6 (chL z0 z1 ma mb i).length cap6], .bool true]) (by simp [results, Try.results17, go_sem, r0, r1, r2]) rfl ⟨.slice ao6 (chL z0 z1 ma mb i).length cap6, by rw [Hok.out, hcw]; rfl, by rw [HZ.out, Hok.out, hcw]; exact Og.mono (by omega) hfO.out, hfB⟩
      · have Hok := Lib.hid (show coOk a ma z0 nb mb z1 = false by rw [hdef, decide_eq_false (show ¬ (ma : Int) = nb by omega)]; rfl)
        have hne : (ma != nb) = true := by simp [hm]
        have hne' : ((ma : Int) != (nb : Int)) = true := by simp; omega
        clear hdef
        go_enter Try.func17, Try.ntmps17
        go_wp2_with fail
        rw [← hW0]
        refine (hi0 _ (Below.refl _ _)).mono ?_
        rintro e w1 ⟨rfl, k1, hw1⟩
        have hb1 : Below W0.heap.size W0 w1 := by rw [hw1]; exact below_drewN _ _
        obtain ⟨a0, a1, a2⟩ := HA0.out.below hb1
        obtain ⟨b0, b1, b2⟩ := HA1.out.below hb1
        clear hw1
        go_wp2_with fail
        refine (hi1 _ hb1).mono ?_
        rintro e w2 ⟨rfl, k2, hw2⟩
        have hbF : Below W0.heap.size W0 w2 := bnext hb1 (by rw [hw2]; exact below_drewN _ _)
        clear hw2 a0 a1 a2 b0 b1 b2
        obtain ⟨a0, a1, a2⟩ := HA0.out.below hbF
        obtain ⟨b0, b1, b2⟩ := HA1.out.below hbF
        have hbw := bnext HB0.out hbF
        obtain ⟨r0, r1, r2, q0, q1, q2⟩ := cell3 (blk_next hbF HR.out)
        have hfB := below3 hbw (w.heap.size + 2) (by omega) (.int .i64 0) (.int .i64 0) (.slice none 0 0)
        go_wp2
        exact bodyPost_ret (v := .tuple #[.agg #[.int .i64 0, .int .i64 0, .slice none 0 0], .bool false]) (by simp [results, Try.results17, go_sem, r0, r1, r2]) rfl ⟨.slice none 0 0, by rw [Hok.out]; rfl, by unfold coZ; rw [Hok.out]; exact og_nil _, hfB⟩
end Go.Proofs.Yteejcdfmpmcmlaa
