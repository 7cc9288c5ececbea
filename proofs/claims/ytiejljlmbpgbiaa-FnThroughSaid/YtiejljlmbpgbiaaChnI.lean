/- ChainChannels in the program. No conditions but that the slices read. -/
import Derived.Test.YtiejljlmbpgbiaaChnS
namespace Go.Proofs.Ytiejljlmbpgbiaa
open Go.RowKit
set_option maxRecDepth 100000
set_option linter.unusedVariables false
set_option linter.unusedSimpArgs false

theorem Rg.rowm {w : World} {xs : List Nat} {b off n m cap i : Nat} (h : Rg eF w (.slice (some ⟨b, off, none⟩) xs.length cap) xs) (hx : xs.length = n * m) (hn : n ≤ 8) (hm : m ≤ 8) (h1 : 1 ≤ m) (hi : i < n) : Rg eF w (.slice (some ⟨b, off + i * m, none⟩) m m) (rowL xs m i) := by
  obtain ⟨lo, hlo, l1, l2, e1, e2⟩ := row_nums hi hn hm
  obtain ⟨b', off', e, -, c1, c2, hs⟩ := h.sub lo m (by omega) (by omega)
  simp only [Option.some.injEq, Addr.mk.injEq, and_true] at e
  obtain ⟨rfl, rfl⟩ := e
  rw [← hlo]
  have := hs m (by omega) (by omega)
  rw [hlo] at this ⊢; exact this
theorem thL_get (row xs : List Nat) (n m k j : Nat) (h : j < (thL row xs n m k).length) : (thL row xs n m k)[j] = thS row xs m j n := by simp [thL]
set_option maxHeartbeats 2000000 in
theorem chain1_any (ga gb a ma mb i k bb ob cap0 : Nat) (v1 : Value) (z0 z1 : List Nat) (w : World) (hA : ChP w ga a ma (.slice (some ⟨bb, ob, none⟩) z0.length cap0)) (hB : ChP w gb ma mb v1) (h0 : Rg eF w (.slice (some ⟨bb, ob, none⟩) z0.length cap0) z0) (h1 : Rg eF w v1 z1) (ca : ChanOk a ma z0) (cb : ChanOk ma mb z1) (hi : i < a) (hk : k < mb) :
    Calls Try.prog 43 #[.int .i64 i, .int .i64 k, .pointer (some ⟨gb, 0, none⟩), .pointer (some ⟨ga, 0, none⟩)] w fun e w' => e = .returned (eF (thS (rowL z0 ma i) z1 mb k ma)) ∧ Below w.heap.size w w' := by
  obtain ⟨ao1, cap1, rfl⟩ := h1.shape
  obtain ⟨a0, a1, a2⟩ := hA
  obtain ⟨b0, b1, b2⟩ := hB
  obtain ⟨_, _, -, -, cp1, cp2, -⟩ := h0.sub 0 1 (by decide) (by rw [ca.len]; have := Nat.mul_pos ca.n1 ca.m1; omega)
  have CA := Lib.hid ca
  have CB := Lib.hid cb
  have G0 := Lib.hid h0
  have G1 := Lib.hid h1
  have a8 := ca.n8
  have ma8 := ca.m8
  have ma1 := ca.m1
  have mb8 := cb.m8
  have hrow := Lib.hid (rowL_len ca.len hi)
  have hch := Lib.hid (row_ch (ca.row i hi) (rowL_len ca.len hi))
  have hRr := Lib.hid (Rg.rowm h0 ca.len a8 ma8 ma1 hi)
  have hbb : Below w.heap.size w w.drew := (Below.refl _ _).drew
  clear ca cb h0 h1
  go_enter Try.func43, Try.ntmps43
  go_wp2
  refine wp_region_held_drew (S := fun W' => W'.cell? ⟨ga, 0, none⟩ = some (.int .i64 a) ∧ W'.cell? ⟨ga, 1, none⟩ = some (.int .i64 ma) ∧ W'.cell? ⟨ga, 2, none⟩ = some (.slice (some ⟨bb, ob, none⟩) z0.length cap0) ∧ W'.cell? ⟨gb, 0, none⟩ = some (.int .i64 ma) ∧ W'.cell? ⟨gb, 1, none⟩ = some (.int .i64 mb) ∧ W'.cell? ⟨gb, 2, none⟩ = some (.slice ao1 z1.length cap1) ∧ Below w.heap.size w W') (by kernel_rfl) ?_ (fun hHeld => ?_)
  · (go_split_ands; refine ⟨?_, ?_, ?_, ?_, ?_, ?_, ?_⟩ <;> first | assumption | exact cnext (by assumption) (by assumption) | exact bnext (by assumption) (by assumption))
  refine wpAnyH_tk (i := 0) (v := ?_) (some 7) rfl rfl (by kernel_rfl) (by decide +kernel) (by decide +kernel) (fun _ _ _ h => h) (by kernel_rfl) ?_ hHeld ?_
  rotate_left
  · (intro w hSw; (try dsimp only at hSw); go_simp <;> with_reducible rfl)
  (try simp only [Act.put, List.setIfInBounds_toArray, List.set_cons_zero, List.set_cons_succ])
  refine wpAnyH_tk (i := 1) (v := ?_) (some 8) rfl rfl (by kernel_rfl) (by decide +kernel) (by decide +kernel) (fun _ _ _ h => h) (by kernel_rfl) ?_ hHeld ?_
  rotate_left
  · (intro w hSw; (try dsimp only at hSw); go_simp <;> with_reducible rfl)
  (try simp only [Act.put, List.setIfInBounds_toArray, List.set_cons_zero, List.set_cons_succ])
  refine wpAnyH_tk (i := 2) (v := ?_) (some 9) rfl rfl (by kernel_rfl) (by decide +kernel) (by decide +kernel) (fun _ _ _ h => h) (by kernel_rfl) ?_ hHeld ?_
  rotate_left
  · (intro w hSw; (try dsimp only at hSw); go_simp <;> with_reducible rfl)
  (try simp only [Act.put, List.setIfInBounds_toArray, List.set_cons_zero, List.set_cons_succ])
  refine wpAnyH_tk (i := 5) (v := ?_) (some 12) rfl rfl (by kernel_rfl) (by decide +kernel) (by decide +kernel) (fun _ _ _ h => h) (by kernel_rfl) ?_ hHeld ?_
  rotate_left
  · (intro w hSw; (try dsimp only at hSw); go_simp <;> with_reducible rfl)
  (try simp only [Act.put, List.setIfInBounds_toArray, List.set_cons_zero, List.set_cons_succ])
  refine wpAnyH_ready (rs := [3]) (by kernel_rfl) (by simp) ?_
  refine AllReadyH.cons rfl (fun K hK => ?_) AllReadyH.nil
  go_simp
  with_reducible refine Calls.mono (implRow_at a ma i bb ob z0.length cap0 _ a8 ma8 ma1 CA.out.len hi cp1 cp2) ?_
  rintro e w3 ⟨rfl, hb3⟩
  try go_wp2_with fail
  refine hK.out _ _ ?_ (fun hHeld => ?_)
  · (go_split_ands; refine ⟨?_, ?_, ?_, ?_, ?_, ?_, ?_⟩ <;> first | assumption | exact cnext (by assumption) (by assumption) | exact bnext (by assumption) (by assumption))
  clear hK K
  (try simp only [Act.put, List.setIfInBounds_toArray, List.set_cons_zero, List.set_cons_succ])
  refine wpAnyH_ready (rs := [4]) (by kernel_rfl) (by simp) ?_
  refine AllReadyH.cons rfl (fun K hK => ?_) AllReadyH.nil
  go_simp
  with_reducible refine Calls.mono (through_any ma mb _ z1 _ (rowL z0 ma i) _ (G1.out.below hHeld.2.2.2.2.2.2) (hRr.out.below hHeld.2.2.2.2.2.2) CB.out hrow.out hch.out) ?_
  rintro e w4 ⟨v4, rfl, ho4, hb4⟩
  obtain ⟨g4, of4, cp4, rfl, hob4⟩ := Og.ob ho4 (by rw [thL_len]; omega)
  have c4 := hob4.cell k (by rw [thL_len]; exact hk)
  rw [thL_get] at c4
  rw [thL_len]
  try go_wp2_with fail
  refine hK.out _ _ ?_ (fun hHeld => ?_)
  · (go_split_ands; refine ⟨?_, ?_, ?_, ?_, ?_, ?_, ?_⟩ <;> first | assumption | exact cnext (by assumption) (by assumption) | exact bnext (by assumption) (by assumption))
  clear hK K
  (try simp only [Act.put, List.setIfInBounds_toArray, List.set_cons_zero, List.set_cons_succ])
  refine wpAnyH_tk (i := 6) (v := ?_) (some 13) rfl rfl (by kernel_rfl) (by decide +kernel) (by decide +kernel) (fun _ _ _ h => h) (by kernel_rfl) ?_ hHeld ?_
  rotate_left
  · (intro w hSw; (try dsimp only at hSw); go_simp <;> with_reducible rfl)
  (try simp only [Act.put, List.setIfInBounds_toArray, List.set_cons_zero, List.set_cons_succ])
  refine wpAnyH_ready (rs := [7]) (by kernel_rfl) (by simp) ?_
  refine AllReadyH.cons rfl (fun K hK => ?_) AllReadyH.nil
  go_simp
  refine hK.out _ _ ?_ (fun hHeld => ?_)
  · (go_split_ands; refine ⟨?_, ?_, ?_, ?_, ?_, ?_, ?_⟩ <;> first | assumption | exact cnext (by assumption) (by assumption) | exact bnext (by assumption) (by assumption))
  clear hK K
  (try simp only [Act.put, List.setIfInBounds_toArray, List.set_cons_zero, List.set_cons_succ])
  refine wpAnyH_tk (i := 8) (v := ?_) (some 6) rfl rfl (by kernel_rfl) (by decide +kernel) (by decide +kernel) (fun _ _ _ h => h) (by kernel_rfl) ?_ hHeld ?_
  rotate_left
  · (intro w hSw; (try dsimp only at hSw); go_simp <;> with_reducible rfl)
  (try simp only [Act.put, List.setIfInBounds_toArray, List.set_cons_zero, List.set_cons_succ])
  refine wpAnyH_done (by kernel_rfl) ?_ _
  go_wp2
  go_ret
  exact ⟨rfl, by go_split_ands; assumption⟩
/-- The first rows, and the beginning of the next one. -/
def mdX (z0 z1 : List Nat) (ma mb i k : Nat) : List Nat := chL z0 z1 ma mb i ++ thL (rowL z0 ma i) z1 ma mb k
theorem mdX_zero (z0 z1 : List Nat) (ma mb i : Nat) : mdX z0 z1 ma mb i 0 = chL z0 z1 ma mb i := by simp [mdX, thL]
theorem mdX_full (z0 z1 : List Nat) (ma mb i : Nat) : mdX z0 z1 ma mb i mb = chL z0 z1 ma mb (i + 1) := (chL_snoc z0 z1 ma mb i).symm
theorem mdX_snoc (z0 z1 : List Nat) (ma mb i k : Nat) : mdX z0 z1 ma mb i (k + 1) = mdX z0 z1 ma mb i k ++ [thS (rowL z0 ma i) z1 mb k ma] := by unfold mdX; rw [thL_snoc, List.append_assoc]
theorem mdX_len (z0 z1 : List Nat) (ma mb i k : Nat) : (mdX z0 z1 ma mb i k).length = i * mb + k := by rw [mdX, List.length_append, chL_len, thL_len]
structure MdS (T : TypeId) (w W : World) (n m : Int) (out : Value) (xs : List Nat) : Prop where
  hB : Below w.heap.size w W
  r : W.heap[w.heap.size]? = some (.cells #[.int .i64 0, .int .i64 0, .slice none 0 0] T (0, 0))
  c : W.heap[w.heap.size + 1]? = some (.cells #[.int .i64 n, .int .i64 m, out] T (0, 0))
  o : OwnF (w.heap.size + 2) W out xs
theorem MdS.next {T : TypeId} {w W W' : World} {n m : Int} {out out' : Value} {xs xs' : List Nat} (h : MdS T w W n m out xs) (hb : Below (w.heap.size + 2) W W') (ho : OwnF (w.heap.size + 2) W' out' xs') :
    MdS T w (W'.setCell ⟨w.heap.size + 1, 2, none⟩ out') n m out' xs' := by
  refine ⟨(h.hB.trans (hb.mono (by omega))).setCell (p := ⟨w.heap.size + 1, 2, none⟩) (by show w.heap.size ≤ w.heap.size + 1; omega) _, blk_other (by show w.heap.size + 1 ≠ w.heap.size; omega) (blk_below hb (by omega) h.r), ?_, ?_⟩
  · exact heap_setCell_same W' (w.heap.size + 1) 2 #[.int .i64 n, .int .i64 m, out] T out' (blk_below hb (by omega) h.c)
  · refine World.ownsRow.kept ho (grown_setCell W' _ _) ?_
    cases hv : out'.ownBlock with
    | none => exact .inl rfl
    | some k => right; intro e; have := (World.ownsRow.lt ho k hv).1; simp at e; omega
theorem alloc_below (W : World) (o : Obj) : Below W.heap.size W (W.alloc o) := (Below.refl _ _).alloc (Nat.le_refl _) _
theorem one_cells (w4 : World) (x : Nat) (T : TypeId) : ∀ j (_ : j < [x].length), (w4.alloc (.cells #[eF x] T)).cell? ((⟨w4.heap.size, 0, none⟩ : Addr).add j) = some (eF [x][j]) := by
  intro j hj
  have hj0 : j = 0 := by simp at hj; omega
  subst hj0
  simp [go_sem, Addr.add]
theorem one_cell (w4 : World) (x : Nat) (T : TypeId) : (w4.alloc (.cells #[eF x] T)).cell? ⟨w4.heap.size, 0, none⟩ = some (eF x) := by simp [go_sem]
set_option maxHeartbeats 4000000 in
theorem made_any (pa pb : Value) (a ma mb : Nat) (z0 z1 : List Nat) (w : World) (a8 : a ≤ 8) (b8 : mb ≤ 8)
    (hcl : ∀ W, Below w.heap.size w W → ∀ i k, i < a → k < mb → Calls Try.prog 43 #[.int .i64 i, .int .i64 k, pb, pa] W fun e w' => e = .returned (eF (thS (rowL z0 ma i) z1 mb k ma)) ∧ Below W.heap.size W w') :
    Calls Try.prog 39 #[.int .i64 a, .int .i64 mb, .func (.func 43) #[] #[pb, pa]] w fun e w' => ∃ v', e = .returned (.tuple #[.agg #[.int .i64 (cgN (chanW a mb (chL z0 z1 ma mb a)) a), .int .i64 (cgN (chanW a mb (chL z0 z1 ma mb a)) mb), v'], .bool (chanW a mb (chL z0 z1 ma mb a))]) ∧ Og eF w.heap.size w' v' (cgZ (chanW a mb (chL z0 z1 ma mb a)) (chL z0 z1 ma mb a)) ∧ Below w.heap.size w w' := by
  have hst : ∀ W', W' = (w.alloc (.cells #[.int .i64 0, .int .i64 0, .slice none 0 0] 27)).alloc (.cells #[.int .i64 a, .int .i64 mb, .slice none 0 0] 27) → MdS 27 w W' a mb (.slice none 0 0) (chL z0 z1 ma mb 0) := by
    intro W' e
    refine ⟨by rw [e]; go_grown, ?_, ?_, by rw [show chL z0 z1 ma mb 0 = [] from rfl]; exact ownF_nil _ _⟩
    · rw [e]; exact blk_alloc (heap_alloc_new w _)
    · have := heap_alloc_new (w.alloc (.cells #[.int .i64 0, .int .i64 0, .slice none 0 0] 27)) (.cells #[.int .i64 a, .int .i64 mb, .slice none 0 0] 27)
      rw [World.size_alloc] at this; rw [e]; exact this
  have Hst := Lib.hid hst
  have Hcl := Lib.hid hcl
  clear hst hcl
  go_enter Try.func39, Try.ntmps39
  go_wp2
  go_loopw [15] (fun iv wr => ∃ (i : Nat) (out : Value), iv = .int .i64 i ∧ i ≤ a ∧ MdS 27 w wr a mb out (chL z0 z1 ma mb i)) (fun iv _ => a - (intOf iv).toNat)
  case atStart => exact ⟨0, .slice none 0 0, rfl, Nat.zero_le _, Hst.out _ rfl⟩
  case round =>
    clear Hst
    obtain ⟨i, out, rfl, hi, h⟩ := hrel
    by_cases hin : i < a
    · have H0 := Lib.hid h
      clear h
      go_wp2
      go_loopw [19] (fun kv wk => ∃ (k : Nat) (out : Value), kv = .int .i64 k ∧ k ≤ mb ∧ MdS 27 w wk a mb out (mdX z0 z1 ma mb i k)) (fun kv _ => mb - (intOf kv).toNat)
      case atStart => exact ⟨0, out, rfl, Nat.zero_le _, by rw [mdX_zero]; exact H0.out⟩
      case round =>
        clear H0
        obtain ⟨k, out, rfl, hk, h⟩ := hrel
        have hsz2 : w.heap.size + 2 ≤ wr.heap.size := blk_lt h.c
        obtain ⟨c0, c1, c2, d0, d1, d2⟩ := cell3 h.c
        have HH := Lib.hid h
        have Hlen := Lib.hid (mdX_len z0 z1 ma mb i k)
        have hle : i * mb ≤ 64 := Nat.mul_le_mul (Nat.le_trans hi a8) b8
        obtain ⟨ao6, cap6, rfl⟩ := h.o.shape
        by_cases hkm : k < mb
        · have Hsn := Lib.hid (mdX_snoc z0 z1 ma mb i k)
          have hbb : Below wr.heap.size wr wr.drew := (Below.refl _ _).drew
          have hbb2 : Below (w.heap.size + 2) wr wr.drew := (Below.refl _ _).drew
          clear h
          have Hc := Lib.hid (fun W (hb : Below (w.heap.size + 2) wr W) => Hcl.out W (HH.out.hB.trans (hb.mono (by omega))) i k hin hkm)
          generalize thS (rowL z0 ma i) z1 mb k ma = x at Hsn Hc
          go_wp2
          refine wp_region_held_tail 9 (S := fun W' => W'.cell? ⟨w.heap.size + 1, 2, none⟩ = some (.slice ao6 (mdX z0 z1 ma mb i k).length cap6) ∧ Below (w.heap.size + 2) wr W') (by kernel_rfl) (by decide +kernel) ?_ (fun hHeld => ?_)
          · (go_split_ands; refine ⟨?_, ?_⟩ <;> first | assumption | exact cnext (by assumption) (by assumption) | exact bup (by assumption) hsz2 (by assumption) | exact cnext (show Below _ _ (World.alloc _ _) by go_grown) (by assumption) | exact bup (by assumption) hsz2 (show Below _ _ (World.alloc _ _) by go_grown))
          simp only [List.take_succ_cons, List.take_zero, List.drop_succ_cons, List.drop_zero, List.length_cons, List.length_nil, Nat.reduceAdd]
          refine wpAnyH_tk (i := 0) (v := ?_) (some 22) rfl rfl (by kernel_rfl) (by decide +kernel) (by decide +kernel) (fun _ _ _ h => h) (by kernel_rfl) ?_ hHeld ?_
          rotate_left
          · (intro w hSw; (try dsimp only at hSw); go_simp <;> with_reducible rfl)
          (try simp only [Act.put, List.setIfInBounds_toArray, List.set_cons_zero, List.set_cons_succ])
          refine wpAnyH_tk (i := 1) (v := ?_) (some 23) rfl rfl (by kernel_rfl) (by decide +kernel) (by decide +kernel) (fun _ _ _ h => h) (by kernel_rfl) ?_ hHeld ?_
          rotate_left
          · (intro w hSw; (try dsimp only at hSw); go_simp <;> with_reducible rfl)
          (try simp only [Act.put, List.setIfInBounds_toArray, List.set_cons_zero, List.set_cons_succ])
          refine wpAnyH_tk (i := 2) (v := ?_) (some 24) rfl rfl (by kernel_rfl) (by decide +kernel) (by decide +kernel) (fun _ _ _ h => h) (by kernel_rfl) ?_ hHeld ?_
          rotate_left
          · (intro w hSw; (try dsimp only at hSw); go_simp <;> with_reducible rfl)
          (try simp only [Act.put, List.setIfInBounds_toArray, List.set_cons_zero, List.set_cons_succ])
          refine wpAnyH_tk (i := 3) (v := ?_) (some 25) rfl rfl (by kernel_rfl) (by decide +kernel) (by decide +kernel) (fun _ _ _ h => h) (by kernel_rfl) ?_ hHeld ?_
          rotate_left
          · (intro w hSw; (try dsimp only at hSw); go_simp <;> with_reducible rfl)
          (try simp only [Act.put, List.setIfInBounds_toArray, List.set_cons_zero, List.set_cons_succ])
          refine wpAnyH_tk (i := 4) (v := ?_) (some 26) rfl rfl (by kernel_rfl) (by decide +kernel) (by decide +kernel) (fun _ _ _ h => h) (by kernel_rfl) ?_ hHeld ?_
          rotate_left
          · (intro w hSw; (try dsimp only at hSw); go_simp <;> with_reducible rfl)
          (try simp only [Act.put, List.setIfInBounds_toArray, List.set_cons_zero, List.set_cons_succ])
          refine wpAnyH_ready (rs := [5]) (by kernel_rfl) (by simp) ?_
          refine AllReadyH.cons rfl (fun K hK => ?_) AllReadyH.nil
          go_simp
          with_reducible refine Calls.mono (Hc.out _ hHeld.2) ?_
          rintro e w4 ⟨rfl, hb4⟩
          try go_wp2_with fail
          refine hK.out _ _ ?_ (fun hHeld => ?_)
          · (go_split_ands; refine ⟨?_, ?_⟩ <;> first | assumption | exact cnext (by assumption) (by assumption) | exact bup (by assumption) hsz2 (by assumption) | exact cnext (show Below _ _ (World.alloc _ _) by go_grown) (by assumption) | exact bup (by assumption) hsz2 (show Below _ _ (World.alloc _ _) by go_grown))
          clear hK K
          (try simp only [Act.put, List.setIfInBounds_toArray, List.set_cons_zero, List.set_cons_succ])
          refine wpAnyH_ready (rs := [6]) (by kernel_rfl) (by simp) ?_
          refine AllReadyH.cons rfl (fun K hK => ?_) AllReadyH.nil
          go_simp
          refine hK.out _ _ ?_ (fun hHeld => ?_)
          · exact ⟨cnext (alloc_below w4 _) hHeld.1, bup hHeld.2 hsz2 (alloc_below w4 _)⟩
          clear hK K
          (try simp only [Act.put, List.setIfInBounds_toArray, List.set_cons_zero, List.set_cons_succ])
          refine wpAnyH_ready (rs := [7]) (by kernel_rfl) (by simp) ?_
          refine AllReadyH.cons rfl (fun K hK => ?_) AllReadyH.nil
          refine step_appF rfl (.tmp 23) (.tmp 28) rfl (w.heap.size + 2) (w.heap.size + 2) (Nat.le_refl _) (.slice ao6 (mdX z0 z1 ma mb i k).length cap6) (mdX z0 z1 ma mb i k) (by simp [Act.eval, Act.put]) (own_below (alloc_below w4 _) (own_below hb4 (own_below hbb HH.out.o))) hHeld.2 [x] ⟨w4.heap.size, 0, none⟩ 1 (by simp [Act.eval, Act.put]) (one_cells w4 x _) (by rw [Hlen.out]; simp; omega) (Nat.le_trans hsz2 hHeld.2.size) ?_
          intro v6 w6 hown6 hB6 hg6
          rw [← Hsn.out] at hown6
          obtain ⟨ao7, cap7, rfl⟩ := hown6.shape
          refine hK.out _ _ ?_ (fun hHeld => ?_)
          · exact ⟨(hB6.cell (p := ⟨w.heap.size + 1, 2, none⟩) (by show w.heap.size + 1 < w.heap.size + 2; omega)).trans c2, hB6⟩
          clear hK K
          (try simp only [Act.put, List.setIfInBounds_toArray, List.set_cons_zero, List.set_cons_succ])
          refine wpAnyH_tk (i := 8) (v := ?_) (some 30) rfl rfl (by kernel_rfl) (by decide +kernel) (by decide +kernel) (fun _ _ _ h => h) (by kernel_rfl) ?_ hHeld ?_
          rotate_left
          · (intro w hSw; (try dsimp only at hSw); go_simp <;> with_reducible rfl)
          (try simp only [Act.put, List.setIfInBounds_toArray, List.set_cons_zero, List.set_cons_succ])
          refine wpAnyH_done (by kernel_rfl) ?_ _
          show wpList _ _ _ _ _ _
          have hB6' : Below (w.heap.size + 2) wr w6 := hB6
          obtain ⟨c0', c1', c2', d0', d1', d2'⟩ := cell3 (blk_below hB6' (show w.heap.size + 1 < w.heap.size + 2 by omega) HH.out.c)
          have HN := Lib.hid (HH.out.next hB6' hown6)
          clear hHeld hown6 hB6 hg6 hb4 hbb hbb2 c0 c1 c2 d0 d1 d2
          go_wp2
          go_roundw
          case rel => exact ⟨k + 1, _, by go_num, by omega, HN.out⟩
          case measure => simp [intOf]; omega
        · obtain rfl : k = mb := by omega
          have HN := Lib.hid (show MdS 27 w wr a k _ (chL z0 z1 ma k (i + 1)) by rw [← mdX_full]; exact HH.out)
          clear h
          go_wp2
          go_roundw
          case rel => exact ⟨i + 1, _, by go_num, by omega, HN.out⟩
          case measure => simp [intOf]; omega
    · obtain rfl : i = a := by omega
      obtain ⟨c0, c1, c2, d0, d1, d2⟩ := cell3 h.c
      have HH := Lib.hid h
      obtain ⟨ao6, cap6, rfl⟩ := h.o.shape
      have hg := asChannel_any i mb _ (chL z0 z1 ma mb i) wr HH.out.o.og.rg
      clear h
      cases hcw : chanW (i : Int) (mb : Int) (chL z0 z1 ma mb i)
      · rw [hcw] at hg
        simp only [cgN, cgV, Bool.false_eq_true, if_false, if_true] at hg
        go_wp2_with fail
        refine hg.mono ?_
        rintro e w9 ⟨rfl, hb9⟩
        obtain ⟨r0, r1, r2, q0, q1, q2⟩ := cell3 (blk_next hb9 HH.out.r)
        have hfB := below3 (bnext HH.out.hB hb9) w.heap.size (Nat.le_refl _) (.int .i64 0) (.int .i64 0) (.slice none 0 0)
        clear c0 c1 c2 d0 d1 d2
        go_wp2
        exact bodyPost_ret (v := .tuple #[.agg #[.int .i64 0, .int .i64 0, .slice none 0 0], .bool false]) (by simp [results, Try.results39, go_sem, r0, r1, r2]) rfl ⟨.slice none 0 0, by rw [hcw]; rfl, by rw [hcw]; exact og_nil _, hfB⟩
      · rw [hcw] at hg
        simp only [cgN, cgV, Bool.false_eq_true, if_false, if_true] at hg
        go_wp2_with fail
        refine hg.mono ?_
        rintro e w9 ⟨rfl, hb9⟩
        obtain ⟨r0, r1, r2, q0, q1, q2⟩ := cell3 (blk_next hb9 HH.out.r)
        have hfB := below3 (bnext HH.out.hB hb9) w.heap.size (Nat.le_refl _) (.int .i64 i) (.int .i64 mb) (.slice ao6 (chL z0 z1 ma mb i).length cap6)
        have hfO := Lib.hid ((HH.out.o.og.below hb9).box3 w.heap.size (by omega) (.int .i64 i) (.int .i64 mb) (.slice ao6 (chL z0 z1 ma mb i).length cap6))
        clear c0 c1 c2 d0 d1 d2
        go_wp2
        exact bodyPost_ret (v := .tuple #[.agg #[.int .i64 i, .int .i64 mb, .slice ao6 (chL z0 z1 ma mb i).length cap6], .bool true]) (by simp [results, Try.results39, go_sem, r0, r1, r2]) rfl ⟨.slice ao6 (chL z0 z1 ma mb i).length cap6, by rw [hcw]; rfl, by rw [hcw]; exact Og.mono (Nat.le_add_right _ 2) hfO.out, hfB⟩
set_option maxHeartbeats 4000000 in
theorem implCo_any (n0 m0 : Int) (v0 : Value) (z0 : List Nat) (n1 m1 : Int) (v1 : Value) (z1 : List Nat) (w : World) (h0 : Rg eF w v0 z0) (h1 : Rg eF w v1 z1) :
    Calls Try.prog 19 #[.agg #[.int .i64 n0, .int .i64 m0, v0], .agg #[.int .i64 n1, .int .i64 m1, v1]] w fun e w' => ∃ v', e = .returned (.tuple #[.agg #[.int .i64 (cgN (coOk n0 m0 z0 n1 m1 z1) n0), .int .i64 (cgN (coOk n0 m0 z0 n1 m1 z1) m1), v'], .bool (coOk n0 m0 z0 n1 m1 z1)]) ∧ Og eF w.heap.size w' v' (coZ n0 m0 z0 n1 m1 z1) ∧ Below w.heap.size w w' := by
  obtain ⟨ao0, cap0, rfl⟩ := h0.shape
  obtain ⟨ao1, cap1, rfl⟩ := h1.shape
  have G0 := Lib.hid h0
  have G1 := Lib.hid h1
  obtain ⟨W0, hW0⟩ : ∃ W0, W0 = ((w.alloc (.cells #[.int .i64 n0, .int .i64 m0, .slice ao0 z0.length cap0] 27)).alloc (.cells #[.int .i64 n1, .int .i64 m1, .slice ao1 z1.length cap1] 27)).alloc (.cells #[.int .i64 0, .int .i64 0, .slice none 0 0] 27) := ⟨_, rfl⟩
  have hB0 : Below w.heap.size w W0 := by rw [hW0]; go_grown
  have hA0 : ChP W0 w.heap.size n0 m0 (.slice ao0 z0.length cap0) := by rw [hW0]; exact ⟨by simp [go_sem], by simp [go_sem], by simp [go_sem]⟩
  have hA1 : ChP W0 (w.heap.size + 1) n1 m1 (.slice ao1 z1.length cap1) := by rw [hW0]; exact ⟨by simp [go_sem], by simp [go_sem], by simp [go_sem]⟩
  have hR : W0.heap[w.heap.size + 2]? = some (.cells #[.int .i64 0, .int .i64 0, .slice none 0 0] 27 (0, 0)) := by
    have := heap_alloc_new ((w.alloc (.cells #[.int .i64 n0, .int .i64 m0, .slice ao0 z0.length cap0] 27)).alloc (.cells #[.int .i64 n1, .int .i64 m1, .slice ao1 z1.length cap1] 27)) (.cells #[.int .i64 0, .int .i64 0, .slice none 0 0] 27)
    rw [← hW0, World.size_alloc, World.size_alloc] at this; exact this
  have hi0 := fun W (hb : Below W0.heap.size W0 W) => implChan_any n0 m0 _ z0 W (h0.below (bnext hB0 hb))
  have hi1 := fun W (hb : Below W0.heap.size W0 W) => implChan_any n1 m1 _ z1 W (h1.below (bnext hB0 hb))
  have hmf : ∀ (fn : Fn) (first cap : Array Value) (w : World), (Instr.makeFunc fn first cap).run Try.prog w = .ok (.func fn first cap) w := fun _ _ _ _ => rfl
  obtain ⟨a0, a1, a2⟩ := hA0
  obtain ⟨b0, b1, b2⟩ := hA1
  have HB0 := Lib.hid hB0
  have HR := Lib.hid hR
  have HA0 := Lib.hid (show ChP W0 w.heap.size n0 m0 (.slice ao0 z0.length cap0) from ⟨a0, a1, a2⟩)
  have HA1 := Lib.hid (show ChP W0 (w.heap.size + 1) n1 m1 (.slice ao1 z1.length cap1) from ⟨b0, b1, b2⟩)
  clear hB0 hR h0 h1
  have hdef : coOk n0 m0 z0 n1 m1 z1 = (chanW n0 m0 z0 && chanW n1 m1 z1 && decide (m0 = n1) && chanW n0 m1 (chL z0 z1 m0.toNat m1.toNat n0.toNat)) := rfl
  cases c0 : chanW n0 m0 z0
  · rw [c0] at hdef hi0
    have Hok := Lib.hid (show coOk n0 m0 z0 n1 m1 z1 = false from hdef)
    clear hdef hi1
    go_enter Try.func19, Try.ntmps19
    go_wp2_with fail
    rw [← hW0]
    clear hW0
    refine (hi0 _ (Below.refl _ _)).mono ?_
    rintro e w1 ⟨rfl, hbF⟩
    have hbw := bnext HB0.out hbF
    obtain ⟨r0, r1, r2, q0, q1, q2⟩ := cell3 (blk_next hbF HR.out)
    have hfB := below3 hbw (w.heap.size + 2) (by omega) (.int .i64 0) (.int .i64 0) (.slice none 0 0)
    go_wp2
    exact bodyPost_ret (v := .tuple #[.agg #[.int .i64 0, .int .i64 0, .slice none 0 0], .bool false]) (by simp [results, Try.results19, go_sem, r0, r1, r2]) rfl ⟨.slice none 0 0, by rw [Hok.out]; rfl, by unfold coZ; rw [Hok.out]; exact og_nil _, hfB⟩
  · cases c1 : chanW n1 m1 z1
    · rw [c0, c1] at hdef
      rw [c0] at hi0
      rw [c1] at hi1
      have Hok := Lib.hid (show coOk n0 m0 z0 n1 m1 z1 = false from hdef)
      clear hdef
      go_enter Try.func19, Try.ntmps19
      go_wp2_with fail
      rw [← hW0]
      clear hW0
      refine (hi0 _ (Below.refl _ _)).mono ?_
      rintro e w1 ⟨rfl, hb1⟩
      clear a0 a1 a2 b0 b1 b2
      obtain ⟨a0, a1, a2⟩ := HA0.out.below hb1
      obtain ⟨b0, b1, b2⟩ := HA1.out.below hb1
      go_wp2_with fail
      refine (hi1 _ hb1).mono ?_
      rintro e w2 ⟨rfl, hb2⟩
      have hbF := bnext hb1 hb2
      clear a0 a1 a2 b0 b1 b2
      obtain ⟨a0, a1, a2⟩ := HA0.out.below hbF
      obtain ⟨b0, b1, b2⟩ := HA1.out.below hbF
      have hbw := bnext HB0.out hbF
      obtain ⟨r0, r1, r2, q0, q1, q2⟩ := cell3 (blk_next hbF HR.out)
      have hfB := below3 hbw (w.heap.size + 2) (by omega) (.int .i64 0) (.int .i64 0) (.slice none 0 0)
      go_wp2
      exact bodyPost_ret (v := .tuple #[.agg #[.int .i64 0, .int .i64 0, .slice none 0 0], .bool false]) (by simp [results, Try.results19, go_sem, r0, r1, r2]) rfl ⟨.slice none 0 0, by rw [Hok.out]; rfl, by unfold coZ; rw [Hok.out]; exact og_nil _, hfB⟩
    · rw [c0, c1] at hdef
      rw [c0] at hi0
      rw [c1] at hi1
      obtain ⟨a, ma, rfl, rfl, ca⟩ := chan_ok c0
      obtain ⟨nb, mb, rfl, rfl, cb⟩ := chan_ok c1
      by_cases hm : ma = nb
      · subst hm
        have hpos : 0 < z0.length := by rw [ca.len]; exact Nat.mul_pos ca.n1 ca.m1
        obtain ⟨bb, ob, rfl, -, -, -, -⟩ := G0.out.sub 0 1 (by decide) (by omega)
        have hdef2 : coOk a ma z0 ma mb z1 = chanW a mb (chL z0 z1 ma mb a) := by rw [hdef]; simp
        have hne : (ma != ma) = false := by simp
        have hne' : ((ma : Int) != (ma : Int)) = false := by simp
        have Hok := Lib.hid hdef2
        have HZ := Lib.hid (show coZ a ma z0 ma mb z1 = cgZ (coOk a ma z0 ma mb z1) (chL z0 z1 ma mb a) from rfl)
        have CA := Lib.hid ca
        have CB := Lib.hid cb
        clear hdef hdef2 ca cb
        go_enter Try.func19, Try.ntmps19
        go_wp2_with fail
        rw [← hW0]
        clear hW0
        refine (hi0 _ (Below.refl _ _)).mono ?_
        rintro e w1 ⟨rfl, hb1⟩
        clear a0 a1 a2 b0 b1 b2
        obtain ⟨a0, a1, a2⟩ := HA0.out.below hb1
        obtain ⟨b0, b1, b2⟩ := HA1.out.below hb1
        go_wp2_with fail
        refine (hi1 _ hb1).mono ?_
        rintro e w2 ⟨rfl, hb2⟩
        have hbF := bnext hb1 hb2
        clear a0 a1 a2 b0 b1 b2
        obtain ⟨a0, a1, a2⟩ := HA0.out.below hbF
        obtain ⟨b0, b1, b2⟩ := HA1.out.below hbF
        have hcl := Lib.hid (fun W (hb : Below w2.heap.size w2 W) i k (hi : i < a) (hk : k < mb) => chain1_any w.heap.size (w.heap.size + 1) a ma mb i k bb ob cap0 (.slice ao1 z1.length cap1) z0 z1 W (HA0.out.below (bnext hbF hb)) (HA1.out.below (bnext hbF hb)) (G0.out.below (bnext HB0.out (bnext hbF hb))) (G1.out.below (bnext HB0.out (bnext hbF hb))) CA.out CB.out hi hk)
        have hbw := bnext HB0.out hbF
        have hmd := made_any (.pointer (some ⟨w.heap.size, 0, none⟩)) (.pointer (some ⟨w.heap.size + 1, 0, none⟩)) a ma mb z0 z1 w2 CA.out.n8 CB.out.m8 hcl.out
        have hsw : w.heap.size ≤ w2.heap.size := hbw.size
        cases hcw : chanW (a : Int) (mb : Int) (chL z0 z1 ma mb a)
        · rw [hcw] at hmd
          simp only [cgN, cgZ, Bool.false_eq_true, if_false, if_true] at hmd
          go_wp2_with fail
          refine hmd.mono ?_
          rintro e w9 ⟨v9, rfl, ho9, hb9⟩
          obtain ⟨r0, r1, r2, q0, q1, q2⟩ := cell3 (blk_next (bnext hbF hb9) HR.out)
          obtain ⟨ao9, cap9, rfl⟩ := ho9.rg.shape
          have hfB := below3 (bnext hbw hb9) (w.heap.size + 2) (by omega) (.int .i64 0) (.int .i64 0) (.slice ao9 ([] : List Nat).length cap9)
          have hfO := Lib.hid (ho9.box3 (w.heap.size + 2) (blk_lt (blk_next hbF HR.out)) (.int .i64 0) (.int .i64 0) (.slice ao9 ([] : List Nat).length cap9))
          clear a0 a1 a2 b0 b1 b2 ho9
          go_wp2
          exact bodyPost_ret (v := .tuple #[.agg #[.int .i64 0, .int .i64 0, .slice ao9 ([] : List Nat).length cap9], .bool false]) (by simp [results, Try.results19, go_sem, r0, r1, r2]) rfl ⟨.slice ao9 ([] : List Nat).length cap9, by rw [Hok.out, hcw]; rfl, by rw [HZ.out, Hok.out, hcw]; exact Og.mono hsw hfO.out, hfB⟩
        · rw [hcw] at hmd
          simp only [cgN, cgZ, Bool.false_eq_true, if_false, if_true] at hmd
          go_wp2_with fail
          refine hmd.mono ?_
          rintro e w9 ⟨v9, rfl, ho9, hb9⟩
          obtain ⟨r0, r1, r2, q0, q1, q2⟩ := cell3 (blk_next (bnext hbF hb9) HR.out)
          obtain ⟨ao9, cap9, rfl⟩ := ho9.rg.shape
          have hfB := below3 (bnext hbw hb9) (w.heap.size + 2) (by omega) (.int .i64 a) (.int .i64 mb) (.slice ao9 (chL z0 z1 ma mb a).length cap9)
          have hfO := Lib.hid (ho9.box3 (w.heap.size + 2) (blk_lt (blk_next hbF HR.out)) (.int .i64 a) (.int .i64 mb) (.slice ao9 (chL z0 z1 ma mb a).length cap9))
          clear a0 a1 a2 b0 b1 b2 ho9
          go_wp2
          exact bodyPost_ret (v := .tuple #[.agg #[.int .i64 a, .int .i64 mb, .slice ao9 (chL z0 z1 ma mb a).length cap9], .bool true]) (by simp [results, Try.results19, go_sem, r0, r1, r2]) rfl ⟨.slice ao9 (chL z0 z1 ma mb a).length cap9, by rw [Hok.out, hcw]; rfl, by rw [HZ.out, Hok.out, hcw]; exact Og.mono hsw hfO.out, hfB⟩
      · have Hok := Lib.hid (show coOk a ma z0 nb mb z1 = false by rw [hdef, decide_eq_false (show ¬ (ma : Int) = nb by omega)]; rfl)
        have hne : (ma != nb) = true := by simp [hm]
        have hne' : ((ma : Int) != (nb : Int)) = true := by simp; omega
        clear hdef
        go_enter Try.func19, Try.ntmps19
        go_wp2_with fail
        rw [← hW0]
        clear hW0
        refine (hi0 _ (Below.refl _ _)).mono ?_
        rintro e w1 ⟨rfl, hb1⟩
        clear a0 a1 a2 b0 b1 b2
        obtain ⟨a0, a1, a2⟩ := HA0.out.below hb1
        obtain ⟨b0, b1, b2⟩ := HA1.out.below hb1
        go_wp2_with fail
        refine (hi1 _ hb1).mono ?_
        rintro e w2 ⟨rfl, hb2⟩
        have hbF := bnext hb1 hb2
        clear a0 a1 a2 b0 b1 b2
        obtain ⟨a0, a1, a2⟩ := HA0.out.below hbF
        obtain ⟨b0, b1, b2⟩ := HA1.out.below hbF
        have hbw := bnext HB0.out hbF
        obtain ⟨r0, r1, r2, q0, q1, q2⟩ := cell3 (blk_next hbF HR.out)
        have hfB := below3 hbw (w.heap.size + 2) (by omega) (.int .i64 0) (.int .i64 0) (.slice none 0 0)
        go_wp2
        exact bodyPost_ret (v := .tuple #[.agg #[.int .i64 0, .int .i64 0, .slice none 0 0], .bool false]) (by simp [results, Try.results19, go_sem, r0, r1, r2]) rfl ⟨.slice none 0 0, by rw [Hok.out]; rfl, by unfold coZ; rw [Hok.out]; exact og_nil _, hfB⟩
end Go.Proofs.Ytiejljlmbpgbiaa
