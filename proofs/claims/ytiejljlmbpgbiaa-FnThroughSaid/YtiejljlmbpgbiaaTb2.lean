/- Tables turned, and their parts, in the program. Conditions: a table of few rows and columns, its chances numbers. -/
import Derived.Test.YtiejljlmbpgbiaaTab
import Derived.Test.YtiejljlmbpgbiaaGrdP
import Derived.Test.YtiejljlmbpgbiaaChnI
namespace Go.Proofs.Ytiejljlmbpgbiaa
open Go.RowKit
set_option maxRecDepth 100000
set_option linter.unusedVariables false
set_option linter.unusedSimpArgs false

theorem TabN.at {n m : Nat} {xs : List Nat} (h : TabN n m xs) (i k : Nat) (hi : i < n) (hk : k < m) : ∃ a, Num .f32 (xs.getD (i * m + k) 0) a := by
  have := at_lt hi hk
  rw [← h.len] at this
  rw [List.getD_eq_getElem?_getD, List.getElem?_eq_getElem this]
  exact h.num _ (List.getElem_mem _)
theorem TabN.turn {n m : Nat} {xs : List Nat} (h : TabN n m xs) : TabN m n (turnL xs n m) := ⟨h.m1, h.m8, h.n1, h.n8, gridA_len _ _ _, fun x hx => by
  obtain ⟨k, i, hk, hi, rfl⟩ := gridA_mem _ _ _ _ hx
  exact h.at i k hi hk⟩
/-- What lies in memory between two rounds. -/
structure TuS (T : TypeId) (w W : World) (n m : Int) (v : Value) (out : Value) (xs : List Nat) : Prop where
  hB : Below w.heap.size w W
  a : ChP W w.heap.size n m v
  r : W.heap[w.heap.size + 1]? = some (.cells #[.int .i64 0, .int .i64 0, .slice none 0 0] T (0, 0))
  c : W.heap[w.heap.size + 2]? = some (.cells #[.int .i64 m, .int .i64 n, out] T (0, 0))
  o : OwnF (w.heap.size + 3) W out xs
theorem TuS.next {T : TypeId} {w W W' : World} {n m : Int} {v : Value} {out out' : Value} {xs xs' : List Nat} (h : TuS T w W n m v out xs) (hb : Below (w.heap.size + 3) W W') (ho : OwnF (w.heap.size + 3) W' out' xs') :
    TuS T w (W'.setCell ⟨w.heap.size + 2, 2, none⟩ out') n m v out' xs' := by
  refine ⟨(h.hB.trans (hb.mono (by omega))).setCell (p := ⟨w.heap.size + 2, 2, none⟩) (by show w.heap.size ≤ w.heap.size + 2; omega) _, (h.a.of hb (by omega)).far _ _ (by show w.heap.size + 2 ≠ w.heap.size; omega), blk_other (by show w.heap.size + 2 ≠ w.heap.size + 1; omega) (blk_below hb (by omega) h.r), ?_, ?_⟩
  · exact heap_setCell_same W' (w.heap.size + 2) 2 #[.int .i64 m, .int .i64 n, out] T out' (blk_below hb (by omega) h.c)
  · refine World.ownsRow.kept ho (grown_setCell W' _ _) ?_
    cases hv : out'.ownBlock with
    | none => exact .inl rfl
    | some k => right; intro e; have := (World.ownsRow.lt ho k hv).1; simp at e; omega
set_option maxHeartbeats 4000000 in
theorem turned_any (n m : Nat) (v : Value) (xs : List Nat) (w : World) (h : Rg eF w v xs) (ht : TabN n m xs) :
    Calls Try.prog 70 #[.agg #[.int .i64 n, .int .i64 m, v]] w fun e w' => ∃ v', e = .returned (.agg #[.int .i64 m, .int .i64 n, v']) ∧ Og eF w.heap.size w' v' (turnL xs n m) ∧ Below w.heap.size w w' := by
  have hpos : 0 < xs.length := by rw [ht.len]; exact Nat.mul_pos ht.n1 ht.m1
  obtain ⟨ao, cap, rfl⟩ := h.shape
  obtain ⟨b2, off2, rfl, -, cp1, cp2, -⟩ := h.sub 0 1 (by decide) (by omega)
  obtain ⟨f, hf⟩ : ∃ f : Nat → Nat → Nat, (fun k i => xs.getD (i * m + k) 0) = f := ⟨_, rfl⟩
  have hst : ∀ W', W' = ((w.alloc (.cells #[.int .i64 n, .int .i64 m, .slice (some ⟨b2, off2, none⟩) xs.length cap] 33)).alloc (.cells #[.int .i64 0, .int .i64 0, .slice none 0 0] 33)).alloc (.cells #[.int .i64 m, .int .i64 n, .slice none 0 0] 33) → TuS 33 w W' n m (.slice (some ⟨b2, off2, none⟩) xs.length cap) (.slice none 0 0) (gridL f n 0 0) := by
    intro W' e
    refine ⟨by rw [e]; go_grown, ?_, ?_, ?_, by rw [show gridL f n 0 0 = [] from rfl]; exact ownF_nil _ _⟩
    · rw [e]; exact ⟨by simp [go_sem], by simp [go_sem], by simp [go_sem]⟩
    · have := heap_alloc_new (w.alloc (.cells #[.int .i64 n, .int .i64 m, .slice (some ⟨b2, off2, none⟩) xs.length cap] 33)) (.cells #[.int .i64 0, .int .i64 0, .slice none 0 0] 33)
      rw [World.size_alloc] at this; rw [e]; exact blk_alloc this
    · have := heap_alloc_new ((w.alloc (.cells #[.int .i64 n, .int .i64 m, .slice (some ⟨b2, off2, none⟩) xs.length cap] 33)).alloc (.cells #[.int .i64 0, .int .i64 0, .slice none 0 0] 33)) (.cells #[.int .i64 m, .int .i64 n, .slice none 0 0] 33)
      rw [World.size_alloc, World.size_alloc] at this; rw [e]; exact this
  have Hst := Lib.hid hst
  have H := Lib.hid h
  have Ht := Lib.hid ht
  have Hf := Lib.hid hf
  have hn8 := ht.n8
  have hm8 := ht.m8
  clear hst h ht hf
  go_enter Try.func70, Try.ntmps70
  go_wp2
  go_loopw [13] (fun kv wr => ∃ (k : Nat) (out : Value), kv = .int .i64 k ∧ k ≤ m ∧ TuS 33 w wr n m (.slice (some ⟨b2, off2, none⟩) xs.length cap) out (gridL f n k 0)) (fun kv _ => m - (intOf kv).toNat)
  case atStart => exact ⟨0, .slice none 0 0, rfl, Nat.zero_le _, Hst.out _ rfl⟩
  case round =>
    clear Hst
    obtain ⟨k, out, rfl, hk, h⟩ := hrel
    obtain ⟨a0, a1, a2⟩ := h.a
    by_cases hkm : k < m
    · have H0 := Lib.hid h
      clear h
      go_wp2
      clear a0 a1 a2
      go_loopw [18] (fun iv wi => ∃ (i : Nat) (out : Value), iv = .int .i64 i ∧ i ≤ n ∧ TuS 33 w wi n m (.slice (some ⟨b2, off2, none⟩) xs.length cap) out (gridL f n k i)) (fun iv _ => n - (intOf iv).toNat)
      case atStart => exact ⟨0, out, rfl, Nat.zero_le _, H0.out⟩
      case round =>
        clear H0
        obtain ⟨i, out, rfl, hi, h⟩ := hrel
        have hsz2 : w.heap.size + 3 ≤ wr.heap.size := blk_lt h.c
        obtain ⟨c0, c1, c2, d0, d1, d2⟩ := cell3 h.c
        obtain ⟨a0, a1, a2⟩ := h.a
        have HH := Lib.hid h
        have Hlen := Lib.hid (grid_len f n k i)
        have hle : k * n ≤ 64 := Nat.mul_le_mul (Nat.le_trans hk hm8) hn8
        obtain ⟨ao6, cap6, rfl⟩ := h.o.shape
        by_cases hin : i < n
        · have Hsn := Lib.hid (grid_snoc f n k i)
          have hbb : Below wr.heap.size wr wr.drew := (Below.refl _ _).drew
          have hbb2 : Below (w.heap.size + 3) wr wr.drew := (Below.refl _ _).drew
          obtain ⟨lo, hlo, l1, l2, -, -⟩ := row_nums hin hn8 hm8
          have hxl : lo + k < xs.length := by rw [Ht.out.len, hlo]; exact at_lt hin hkm
          obtain ⟨b9, off9, e9, cX⟩ := getD_cell (H.out.below h.hB) (lo + k) hxl
          simp only [Option.some.injEq, Addr.mk.injEq, and_true] at e9
          obtain ⟨rfl, rfl⟩ := e9
          have hfx : xs.getD (lo + k) 0 = f k i := by rw [← Hf.out, hlo]
          rw [hfx, ← Nat.add_assoc] at cX
          have hcall := fun W => tabRow_at n m i b2 off2 xs.length cap W hn8 hm8 Ht.out.m1 Ht.out.len hin cp1 cp2
          simp only [← hlo] at hcall
          have Hc := Lib.hid hcall
          clear h hcall hfx hlo
          generalize f k i = x at Hsn cX
          go_wp2
          refine wp_region_held_tail 9 (S := fun W' => W'.cell? ⟨w.heap.size + 2, 2, none⟩ = some (.slice ao6 (gridL f n k i).length cap6) ∧ W'.cell? ⟨w.heap.size, 0, none⟩ = some (.int .i64 n) ∧ W'.cell? ⟨w.heap.size, 1, none⟩ = some (.int .i64 m) ∧ W'.cell? ⟨w.heap.size, 2, none⟩ = some (.slice (some ⟨b2, off2, none⟩) xs.length cap) ∧ W'.cell? ⟨b2, off2 + lo + k, none⟩ = some (eF x) ∧ Below (w.heap.size + 3) wr W') (by kernel_rfl) (by decide +kernel) ?_ (fun hHeld => ?_)
          · (go_split_ands; refine ⟨?_, ?_, ?_, ?_, ?_, ?_⟩ <;> first | assumption | exact cnext (by assumption) (by assumption) | exact bup (by assumption) hsz2 (by assumption) | exact cnext (show Below _ _ (World.alloc _ _) by go_grown) (by assumption) | exact bup (by assumption) hsz2 (show Below _ _ (World.alloc _ _) by go_grown))
          simp only [List.take_succ_cons, List.take_zero, List.drop_succ_cons, List.drop_zero, List.length_cons, List.length_nil, Nat.reduceAdd]
          refine wpAnyH_tk (i := 0) (v := ?_) (some 21) rfl rfl (by kernel_rfl) (by decide +kernel) (by decide +kernel) (fun _ _ _ h => h) (by kernel_rfl) ?_ hHeld ?_
          rotate_left
          · (intro w hSw; (try dsimp only at hSw); go_simp <;> with_reducible rfl)
          (try simp only [Act.put, List.setIfInBounds_toArray, List.set_cons_zero, List.set_cons_succ])
          refine wpAnyH_tk (i := 1) (v := ?_) (some 22) rfl rfl (by kernel_rfl) (by decide +kernel) (by decide +kernel) (fun _ _ _ h => h) (by kernel_rfl) ?_ hHeld ?_
          rotate_left
          · (intro w hSw; (try dsimp only at hSw); go_simp <;> with_reducible rfl)
          (try simp only [Act.put, List.setIfInBounds_toArray, List.set_cons_zero, List.set_cons_succ])
          refine wpAnyH_tk (i := 2) (v := ?_) (some 23) rfl rfl (by kernel_rfl) (by decide +kernel) (by decide +kernel) (fun _ _ _ h => h) (by kernel_rfl) ?_ hHeld ?_
          rotate_left
          · (intro w hSw; (try dsimp only at hSw); go_simp <;> with_reducible rfl)
          (try simp only [Act.put, List.setIfInBounds_toArray, List.set_cons_zero, List.set_cons_succ])
          refine wpAnyH_tk (i := 3) (v := ?_) (some 24) rfl rfl (by kernel_rfl) (by decide +kernel) (by decide +kernel) (fun _ _ _ h => h) (by kernel_rfl) ?_ hHeld ?_
          rotate_left
          · (intro w hSw; (try dsimp only at hSw); go_simp <;> with_reducible rfl)
          (try simp only [Act.put, List.setIfInBounds_toArray, List.set_cons_zero, List.set_cons_succ])
          refine wpAnyH_tk (i := 5) (v := ?_) (some 26) rfl rfl (by kernel_rfl) (by decide +kernel) (by decide +kernel) (fun _ _ _ h => h) (by kernel_rfl) ?_ hHeld ?_
          rotate_left
          · (intro w hSw; (try dsimp only at hSw); go_simp <;> with_reducible rfl)
          (try simp only [Act.put, List.setIfInBounds_toArray, List.set_cons_zero, List.set_cons_succ])
          refine wpAnyH_ready (rs := [4]) (by kernel_rfl) (by simp) ?_
          refine AllReadyH.cons rfl (fun K hK => ?_) AllReadyH.nil
          go_simp
          with_reducible refine Calls.mono (Hc.out _) ?_
          rintro e w4 ⟨rfl, hb4⟩
          try go_wp2_with fail
          refine hK.out _ _ ?_ (fun hHeld => ?_)
          · (go_split_ands; refine ⟨?_, ?_, ?_, ?_, ?_, ?_⟩ <;> first | assumption | exact cnext (by assumption) (by assumption) | exact bup (by assumption) hsz2 (by assumption) | exact cnext (show Below _ _ (World.alloc _ _) by go_grown) (by assumption) | exact bup (by assumption) hsz2 (show Below _ _ (World.alloc _ _) by go_grown))
          clear hK K
          (try simp only [Act.put, List.setIfInBounds_toArray, List.set_cons_zero, List.set_cons_succ])
          refine wpAnyH_tk (i := 6) (v := ?_) (some 27) rfl rfl (by kernel_rfl) (by decide +kernel) (by decide +kernel) (fun _ _ _ h => h) (by kernel_rfl) ?_ hHeld ?_
          rotate_left
          · (intro w hSw; (try dsimp only at hSw); go_simp <;> with_reducible rfl)
          (try simp only [Act.put, List.setIfInBounds_toArray, List.set_cons_zero, List.set_cons_succ])
          refine wpAnyH_tk (i := 7) (v := ?_) (some 28) rfl rfl (by kernel_rfl) (by decide +kernel) (by decide +kernel) (fun _ _ _ h => h) (by kernel_rfl) ?_ hHeld ?_
          rotate_left
          · (intro w hSw; (try dsimp only at hSw); go_simp <;> with_reducible rfl)
          (try simp only [Act.put, List.setIfInBounds_toArray, List.set_cons_zero, List.set_cons_succ])
          refine wpAnyH_ready (rs := [8]) (by kernel_rfl) (by simp) ?_
          refine AllReadyH.cons rfl (fun K hK => ?_) AllReadyH.nil
          go_simp
          refine hK.out _ _ ?_ (fun hHeld => ?_)
          · exact ⟨cnext (alloc_below w4 _) hHeld.1, cnext (alloc_below w4 _) hHeld.2.1, cnext (alloc_below w4 _) hHeld.2.2.1, cnext (alloc_below w4 _) hHeld.2.2.2.1, cnext (alloc_below w4 _) hHeld.2.2.2.2.1, bup hHeld.2.2.2.2.2 hsz2 (alloc_below w4 _)⟩
          clear hK K
          (try simp only [Act.put, List.setIfInBounds_toArray, List.set_cons_zero, List.set_cons_succ])
          refine wpAnyH_done (by kernel_rfl) ?_ _
          show wpList _ _ _ _ _ _
          go_wp2_with (at_builtin; go_must (refine app_flts rfl _ _ rfl (w.heap.size + 3) (w.heap.size + 3) (Nat.le_refl _) (.slice ao6 (gridL f n k i).length cap6) (gridL f n k i) rfl (own_below hb4 (own_below hbb HH.out.o)) (bup hbb2 hsz2 hb4) _ _ [x] rfl rfl (by rw [Hlen.out]; simp; omega) (Nat.le_trans hsz2 hb4.size) ?_))
          intro v6 w6 hown6 hB6 hg6
          rw [← Hsn.out] at hown6
          obtain ⟨ao7, cap7, rfl⟩ := hown6.shape
          have HN := Lib.hid (HH.out.next hB6 hown6)
          have hc6 := cell3 (blk_below hB6 (by omega) HH.out.c)
          obtain ⟨e0, e1, e2, g0, g1, g2⟩ := hc6
          clear c0 c1 c2 d0 d1 d2 a0 a1 a2 cX hHeld hown6 hB6 hg6
          go_wp2
          go_roundw
          case rel => exact ⟨i + 1, _, by go_num, by omega, HN.out⟩
          case measure => simp [intOf]; omega
        · obtain rfl : i = n := by omega
          have HH2 := Lib.hid (show TuS 33 w wr i m (.slice (some ⟨b2, off2, none⟩) xs.length cap) (.slice ao6 (gridL f i k i).length cap6) (gridL f i (k + 1) 0) by rw [← grid_row]; exact HH.out)
          go_wp2
          go_roundw
          case rel => exact ⟨k + 1, _, by go_num, by omega, HH2.out⟩
          case measure => simp [intOf]; omega
    · obtain rfl : k = m := by omega
      obtain ⟨ao6, cap6, rfl⟩ := h.o.shape
      obtain ⟨c0, c1, c2, d0, d1, d2⟩ := cell3 h.c
      obtain ⟨r0, r1, r2, q0, q1, q2⟩ := cell3 h.r
      have hfB := below3 h.hB (w.heap.size + 1) (Nat.le_succ _) (.int .i64 k) (.int .i64 n) (.slice ao6 (gridL f n k 0).length cap6)
      have hfO := h.o.og.box3 (w.heap.size + 1) (by omega) (.int .i64 k) (.int .i64 n) (.slice ao6 (gridL f n k 0).length cap6)
      have HF := Lib.hid (And.intro (Og.mono (show w.heap.size ≤ w.heap.size + 3 by omega) hfO) hfB)
      clear hfB hfO h
      go_wp2
      exact bodyPost_ret (v := .agg #[.int .i64 k, .int .i64 n, .slice ao6 (gridL f n k 0).length cap6]) (by simp [results, Try.results70, go_sem, r0, r1, r2]) rfl ⟨_, rfl, by rw [turnL, Hf.out]; exact HF.out.1, HF.out.2⟩
set_option maxHeartbeats 1000000 in
theorem rowPart_yes (n m : Nat) (v : Value) (xs : List Nat) (w : World) (h : Rg eF w v xs) (ht : TabN n m xs) (ho : oneW xs = true) (hr : isRowW (rsL xs n m) = true) :
    Calls Try.prog 52 #[.agg #[.int .i64 n, .int .i64 m, v]] w fun e w' => ∃ v', e = .returned (.tuple #[v', .bool true]) ∧ Og eF w.heap.size w' v' (rsL xs n m) ∧ Below w.heap.size w w' := by
  obtain ⟨ao, cap, rfl⟩ := h.shape
  obtain ⟨w0, hw0⟩ : ∃ W, w.alloc (.cells #[.int .i64 n, .int .i64 m, .slice ao xs.length cap] 33) = W := ⟨_, rfl⟩
  have hb0 : Below w.heap.size w w0 := by rw [← hw0]; go_grown
  have hP : ChP w0 w.heap.size n m (.slice ao xs.length cap) := by rw [← hw0]; exact ⟨by simp [go_sem], by simp [go_sem], by simp [go_sem]⟩
  have H := Lib.hid (h.below hb0)
  have HP := Lib.hid hP
  have hv := Lib.hid (validTab_yes n m _ xs w0 H.out ht ho)
  have Ht := Lib.hid ht
  have Hr := Lib.hid hr
  obtain ⟨p0, p1, p2⟩ := hP
  clear h ht ho hr
  go_enter Try.func52, Try.ntmps52
  go_wp2_with fail
  refine hv.out.mono ?_
  rintro e w1 ⟨rfl, hb1⟩
  clear p0 p1 p2 hw0
  obtain ⟨p0, p1, p2⟩ := HP.out.below hb1
  have HB1 := Lib.hid (bnext hb0 hb1)
  have hp := Lib.hid (parts_any n m _ xs w1 (H.out.below hb1) Ht.out)
  clear hb0 hb1 hv
  go_wp2_with fail
  refine hp.out.mono ?_
  rintro e w2 ⟨v2, rfl, ho2, hb2⟩
  obtain ⟨ao2, cap2, rfl⟩ := ho2.shape
  have hs1 := HB1.out.size
  have HO := Lib.hid (And.intro (Og.mono hs1 ho2.og) (bnext HB1.out hb2))
  have ha := Lib.hid (asRow_any _ _ w2 ho2.og.rg)
  clear ho2 hb2 p0 p1 p2
  go_wp2_with fail
  refine ha.out.mono ?_
  rw [Hr.out]
  rintro e w3 ⟨rfl, k3, rfl⟩
  go_wp2
  go_ret2
  exact ⟨_, rfl, HO.out.1.below (below_drewN _ _), bnext HO.out.2 (below_drewN _ _)⟩
set_option maxHeartbeats 1000000 in
theorem colPart_yes (n m : Nat) (v : Value) (xs : List Nat) (w : World) (h : Rg eF w v xs) (ht : TabN n m xs) (ho : oneW xs = true) (hr : isRowW (rsL (turnL xs n m) m n) = true) :
    Calls Try.prog 53 #[.agg #[.int .i64 n, .int .i64 m, v]] w fun e w' => ∃ v', e = .returned (.tuple #[v', .bool true]) ∧ Og eF w.heap.size w' v' (rsL (turnL xs n m) m n) ∧ Below w.heap.size w w' := by
  obtain ⟨ao, cap, rfl⟩ := h.shape
  obtain ⟨w0, hw0⟩ : ∃ W, w.alloc (.cells #[.int .i64 n, .int .i64 m, .slice ao xs.length cap] 33) = W := ⟨_, rfl⟩
  have hb0 : Below w.heap.size w w0 := by rw [← hw0]; go_grown
  have hP : ChP w0 w.heap.size n m (.slice ao xs.length cap) := by rw [← hw0]; exact ⟨by simp [go_sem], by simp [go_sem], by simp [go_sem]⟩
  have H := Lib.hid (h.below hb0)
  have HP := Lib.hid hP
  have hv := Lib.hid (validTab_yes n m _ xs w0 H.out ht ho)
  have Ht := Lib.hid ht
  have Hr := Lib.hid hr
  obtain ⟨p0, p1, p2⟩ := hP
  clear h ht ho hr
  go_enter Try.func53, Try.ntmps53
  go_wp2_with fail
  refine hv.out.mono ?_
  rintro e w1 ⟨rfl, hb1⟩
  clear p0 p1 p2 hw0
  obtain ⟨p0, p1, p2⟩ := HP.out.below hb1
  have HB1 := Lib.hid (bnext hb0 hb1)
  have hp := Lib.hid (turned_any n m _ xs w1 (H.out.below hb1) Ht.out)
  clear hb0 hb1 hv
  go_wp2_with fail
  refine hp.out.mono ?_
  rintro e w5 ⟨v5, rfl, ho5, hb5⟩
  obtain ⟨ao5, cap5, rfl⟩ := ho5.rg.shape
  have HB5 := Lib.hid (bnext HB1.out hb5)
  have hp2 := Lib.hid (parts_any m n _ (turnL xs n m) w5 ho5.rg Ht.out.turn)
  clear ho5 hb5 p0 p1 p2 hp
  go_wp2_with fail
  refine hp2.out.mono ?_
  rintro e w2 ⟨v2, rfl, ho2, hb2⟩
  obtain ⟨ao2, cap2, rfl⟩ := ho2.shape
  have hs1 := HB5.out.size
  have HO := Lib.hid (And.intro (Og.mono hs1 ho2.og) (bnext HB5.out hb2))
  have ha := Lib.hid (asRow_any _ _ w2 ho2.og.rg)
  clear ho2 hb2 hp2
  go_wp2_with fail
  refine ha.out.mono ?_
  rw [Hr.out]
  rintro e w3 ⟨rfl, k3, rfl⟩
  go_wp2
  go_ret2
  exact ⟨_, rfl, HO.out.1.below (below_drewN _ _), bnext HO.out.2 (below_drewN _ _)⟩
end Go.Proofs.Ytiejljlmbpgbiaa
