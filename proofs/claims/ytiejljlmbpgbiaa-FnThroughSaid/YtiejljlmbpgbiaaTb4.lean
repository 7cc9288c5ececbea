/- The joint table of a channel and a row, and what is told, in the program. Conditions: a valid channel that takes the row, a valid table. -/
import Derived.Test.YtiejljlmbpgbiaaTb3
namespace Go.Proofs.Ytiejljlmbpgbiaa
open Go.RowKit
set_option maxRecDepth 100000
set_option linter.unusedVariables false
set_option linter.unusedSimpArgs false

/-- The joint chances. -/
def jF (row xs : List Nat) (m i k : Nat) : Nat := fmul .f32 (row.getD i 0) (xs.getD (i * m + k) 0)
def jL (row xs : List Nat) (n m : Nat) : List Nat := gridA (jF row xs m) n m
theorem chRow_any (n m i : Nat) (v : Value) (xs : List Nat) (w : World) (h : Rg eF w v xs) (hc : ChanOk n m xs) (hi : i < n) :
    Calls Try.prog 28 #[.agg #[.int .i64 n, .int .i64 m, v], .int .i64 i] w fun e w' => ∃ v', e = .returned v' ∧ Rg eF w' v' (rowL xs m i) ∧ (∃ ao, v' = .slice ao m m) ∧ Below w.heap.size w w' := by
  have hx := hc.len
  have hl := at_lt (k := 0) hi hc.m1
  obtain ⟨ao, cap, rfl⟩ := h.shape
  obtain ⟨b, off, rfl, -, c1, c2, hs⟩ := h.sub (i * m) m hc.m1 (by rw [hx]; have : (i + 1) * m ≤ n * m := Nat.mul_le_mul_right _ hi; rw [Nat.add_mul] at this; omega)
  refine (implRow_at n m i b off xs.length cap w hc.n8 hc.m8 hc.m1 hx hi c1 c2).mono ?_
  rintro e w' ⟨rfl, hb⟩
  exact ⟨_, rfl, (hs m (Nat.le_refl _) (by have := hc.m8; unfold maxLen; omega)).below hb, ⟨_, rfl⟩, hb⟩
structure JoS (T : TypeId) (w W : World) (G : Nat) (n m : Int) (v : Value) (out : Value) (xs : List Nat) : Prop where
  hB : Below w.heap.size w W
  a : ChP W w.heap.size n m v
  r : W.heap[w.heap.size + 1]? = some (.cells #[.int .i64 0, .int .i64 0, .slice none 0 0] T (0, 0))
  c : W.heap[G]? = some (.cells #[.int .i64 n, .int .i64 m, out] T (0, 0))
  o : OwnF (G + 1) W out xs
  hG : w.heap.size + 2 ≤ G
theorem JoS.below {T : TypeId} {w W W' : World} {G : Nat} {n m : Int} {v : Value} {out : Value} {xs : List Nat} (h : JoS T w W G n m v out xs) (hb : Below W.heap.size W W') : JoS T w W' G n m v out xs :=
  ⟨bnext h.hB hb, h.a.below hb, blk_next hb h.r, blk_next hb h.c, own_below hb h.o, h.hG⟩
theorem JoS.next {T : TypeId} {w W W' : World} {G : Nat} {n m : Int} {v : Value} {out out' : Value} {xs xs' : List Nat} (h : JoS T w W G n m v out xs) (hb : Below (G + 1) W W') (ho : OwnF (G + 1) W' out' xs') :
    JoS T w (W'.setCell ⟨G, 2, none⟩ out') G n m v out' xs' := by
  have hG := h.hG
  refine ⟨(h.hB.trans (hb.mono (by omega))).setCell (p := ⟨G, 2, none⟩) (by show w.heap.size ≤ G; omega) _, (h.a.of hb (by omega)).far _ _ (by show G ≠ w.heap.size; omega), blk_other (by show G ≠ w.heap.size + 1; omega) (blk_below hb (by omega) h.r), ?_, ?_, hG⟩
  · exact heap_setCell_same W' G 2 #[.int .i64 n, .int .i64 m, out] T out' (blk_below hb (by omega) h.c)
  · refine World.ownsRow.kept ho (grown_setCell W' _ _) ?_
    cases hv : out'.ownBlock with
    | none => exact .inl rfl
    | some k => right; intro e; have := (World.ownsRow.lt ho k hv).1; simp at e; omega
set_option maxHeartbeats 4000000 in
theorem joint_yes (n m : Nat) (v : Value) (xs : List Nat) (u : Value) (row : List Nat) (w : World) (h : Rg eF w v xs) (h' : Rg eF w u row) (hc : ChanOk n m xs) (hr : isRowW row = true) (hl : row.length = n)
    (ht : TabN n m (jL row xs n m)) (ho : oneW (jL row xs n m) = true) :
    Calls Try.prog 10 #[.agg #[.int .i64 n, .int .i64 m, v], u] w fun e w' => ∃ v', e = .returned (.tuple #[.agg #[.int .i64 n, .int .i64 m, v'], .bool true]) ∧ Og eF w.heap.size w' v' (jL row xs n m) ∧ Below w.heap.size w w' := by
  have hfit : fitW n m xs row = true := by unfold fitW; rw [chan_of hc, hr, hl]; simp
  have hpos : 0 < xs.length := by rw [hc.len]; exact Nat.mul_pos hc.n1 hc.m1
  obtain ⟨ao, cap, rfl⟩ := h.shape
  obtain ⟨b2, off2, rfl, -, cp1, cp2, -⟩ := h.sub 0 1 (by decide) (by omega)
  obtain ⟨ao', cap', rfl⟩ := h'.shape
  obtain ⟨f, hf⟩ : ∃ f : Nat → Nat → Nat, jF row xs m = f := ⟨_, rfl⟩
  obtain ⟨w0, hw0⟩ : ∃ W, (w.alloc (.cells #[.int .i64 n, .int .i64 m, .slice (some ⟨b2, off2, none⟩) xs.length cap] 27)).alloc (.cells #[.int .i64 0, .int .i64 0, .slice none 0 0] 33) = W := ⟨_, rfl⟩
  have hb0 : Below w.heap.size w w0 := by rw [← hw0]; go_grown
  have hP : ChP w0 w.heap.size n m (.slice (some ⟨b2, off2, none⟩) xs.length cap) := by rw [← hw0]; exact ⟨by simp [go_sem], by simp [go_sem], by simp [go_sem]⟩
  have hQ : w0.heap[w.heap.size + 1]? = some (.cells #[.int .i64 0, .int .i64 0, .slice none 0 0] 33 (0, 0)) := by
    have := heap_alloc_new (w.alloc (.cells #[.int .i64 n, .int .i64 m, .slice (some ⟨b2, off2, none⟩) xs.length cap] 27)) (.cells #[.int .i64 0, .int .i64 0, .slice none 0 0] 33)
    rw [World.size_alloc] at this; rw [← hw0]; exact this
  have hs0 : w0.heap.size = w.heap.size + 2 := by rw [← hw0]; simp
  have H := Lib.hid (h.below hb0)
  have H' := Lib.hid (h'.below hb0)
  have HP := Lib.hid hP
  have HQ := Lib.hid hQ
  have HB0 := Lib.hid hb0
  have HC := Lib.hid hc
  have HT := Lib.hid (And.intro ht ho)
  have Hf := Lib.hid hf
  have Hrow := Lib.hid (row_ch hr hl)
  have htk := Lib.hid (takes_any n m _ xs _ row w0 H.out H'.out)
  obtain ⟨p0, p1, p2⟩ := hP
  have hn8 := hc.n8
  have hm8 := hc.m8
  have hl2 := Lib.hid hl
  have Hxw := Lib.hid h
  have Hrw := Lib.hid h'
  rw [hl]
  rw [hl] at H' htk Hrw
  clear h h' hc hr ht ho hf hb0 hQ hl
  go_enter Try.func10, Try.ntmps10
  go_wp2_with fail
  refine htk.out.mono ?_
  rw [hfit]
  rintro e w1 ⟨rfl, hb1⟩
  obtain ⟨G, hG⟩ : ∃ G, w1.heap.size = G := ⟨_, rfl⟩
  have hst : JoS 33 w (w1.alloc (.cells #[.int .i64 n, .int .i64 m, .slice none 0 0] 33)) G n m (.slice (some ⟨b2, off2, none⟩) xs.length cap) (.slice none 0 0) (gridL f m 0 0) := by
    have hs1 := hb1.size
    have hbA : Below w1.heap.size w1 (w1.alloc (.cells #[.int .i64 n, .int .i64 m, .slice none 0 0] 33)) := by go_grown
    have hbb := bnext hb1 hbA
    rw [← hG]
    exact ⟨bnext HB0.out hbb, HP.out.below hbb, blk_next hbb HQ.out, heap_alloc_new _ _, ownF_nil _ _, by omega⟩
  have HS := Lib.hid hst
  have HGe := Lib.hid hG
  have HB1 := Lib.hid hb1
  clear p0 p1 p2 hw0
  obtain ⟨p0, p1, p2⟩ := HP.out.below hb1
  clear hst hG hb1 htk
  go_wp2_with fail
  rw [HGe.out]
  clear p0 p1 p2
  go_loopw [23] (fun iv wr => ∃ (i : Nat) (out : Value), iv = .int .i64 i ∧ i ≤ n ∧ JoS 33 w wr G n m (.slice (some ⟨b2, off2, none⟩) xs.length cap) out (gridL f m i 0)) (fun iv _ => n - (intOf iv).toNat)
  case atStart => exact ⟨0, _, rfl, Nat.zero_le _, HS.out⟩
  case round =>
    clear HS
    obtain ⟨i, out, rfl, hi, h⟩ := hrel
    by_cases hin : i < n
    · obtain ⟨b1, o1, rfl, hc1⟩ := getD_cell (Hrw.out.below h.hB) i (by rw [hl2.out]; exact hin)
      obtain ⟨a0, a1, a2⟩ := h.a
      obtain ⟨lo, hlo, l1, l2, -, -⟩ := row_nums hin hn8 hm8
      have hcall := fun W => implRow_at n m i b2 off2 xs.length cap W hn8 hm8 HC.out.m1 HC.out.len hin cp1 cp2
      simp only [← hlo] at hcall
      have Hc := Lib.hid hcall
      have Hlo := Lib.hid hlo
      have HS := Lib.hid h
      obtain ⟨x, hx⟩ : ∃ x, row.getD i 0 = x := ⟨_, rfl⟩
      rw [hx] at hc1
      have Hx := Lib.hid hx
      have hiI : (i : Int) < (n : Int) := by omega
      clear h hcall hlo hx
      go_wp2_with fail
      refine (Hc.out _).mono ?_
      rintro e w3 ⟨rfl, hb3⟩
      have HS3 := Lib.hid (HS.out.below hb3)
      clear hb3 HS a0 a1 a2 hc1 Hc
      go_wp2_with fail
      go_loopw [32] (fun kv wk => ∃ (k : Nat) (out : Value), kv = .int .i64 k ∧ k ≤ m ∧ JoS 33 w wk G n m (.slice (some ⟨b2, off2, none⟩) xs.length cap) out (gridL f m i k)) (fun kv _ => m - (intOf kv).toNat)
      case atStart => exact ⟨0, _, rfl, Nat.zero_le _, HS3.out⟩
      case round =>
        clear HS3
        obtain ⟨k, out, rfl, hk, h⟩ := hrel
        by_cases hkm : k < m
        · have hsz2 : G + 1 ≤ wr.heap.size := blk_lt h.c
          obtain ⟨c0, c1, c2, d0, d1, d2⟩ := cell3 h.c
          have hxl : lo + k < xs.length := by rw [HC.out.len, Hlo.out]; exact at_lt hin hkm
          obtain ⟨b9, off9, e9, cX⟩ := getD_cell (Hxw.out.below h.hB) (lo + k) hxl
          simp only [Option.some.injEq, Addr.mk.injEq, and_true] at e9
          obtain ⟨rfl, rfl⟩ := e9
          have hfx : f i k = fmul .f32 x (xs.getD (lo + k) 0) := by rw [← Hf.out, jF, Hx.out, Hlo.out]
          have hm2 := (ch_mul (Hrow.out i hin) (HC.out.ch hin hkm)).1
          rw [Hx.out, ← Hlo.out, ← hfx] at hm2
          have o1 := run_op (P := Try.prog) hm2
          rw [← Nat.add_assoc] at cX
          have HH := Lib.hid h
          have Hlen := Lib.hid (grid_len f m i k)
          have Hsn := Lib.hid (grid_snoc f m i k)
          have hle : i * m ≤ 64 := Nat.mul_le_mul (Nat.le_trans hi hn8) hm8
          obtain ⟨ao6, cap6, rfl⟩ := h.o.shape
          have hkI : (k : Int) < (m : Int) := by omega
          clear h hfx hm2 hxl
          generalize f i k = z at *
          generalize xs.getD (lo + k) 0 = y at *
          go_wp2_with (first | simp only [o1] | (at_builtin; go_must (refine app_flts rfl _ _ rfl (G + 1) (G + 1) (Nat.le_refl _) (.slice ao6 (gridL f m i k).length cap6) (gridL f m i k) rfl HH.out.o (Below.refl _ _) _ _ [z] rfl rfl (by rw [Hlen.out]; simp; omega) hsz2 ?_)))
          intro v6 w6 hown6 hB6 hg6
          rw [← Hsn.out] at hown6
          obtain ⟨ao7, cap7, rfl⟩ := hown6.shape
          have HN := Lib.hid (HH.out.next hB6 hown6)
          have hc6 := cell3 (blk_below hB6 (by omega) HH.out.c)
          obtain ⟨e0, e1, e2, g0, g1, g2⟩ := hc6
          clear c0 c1 c2 d0 d1 d2 cX hown6 hB6 hg6 o1
          go_wp2
          go_roundw
          case rel => exact ⟨k + 1, _, by go_num, by omega, HN.out⟩
          case measure => simp [intOf]; omega
        · obtain rfl : k = m := by omega
          have hkI : ¬ ((k : Nat) : Int) < (k : Int) := by omega
          rw [grid_row] at h
          have HH := Lib.hid h
          clear h
          go_wp2
          go_roundw
          case rel => exact ⟨i + 1, _, by go_num, by omega, HH.out⟩
          case measure => simp [intOf]; omega
    · have hin2 : i = n := by omega
      have hiI : ¬ (i : Int) < (n : Int) := by omega
      have hjl : gridL f m i 0 = jL row xs n m := by rw [hin2, jL, Hf.out]; rfl
      rw [hjl] at h
      obtain ⟨ao6, cap6, rfl⟩ := h.o.shape
      obtain ⟨c0, c1, c2, d0, d1, d2⟩ := cell3 h.c
      have HS := Lib.hid h
      have hv := Lib.hid (asTab_yes n m _ (jL row xs n m) wr h.o.og.rg HT.out.1 HT.out.2)
      clear h hjl hin2
      go_wp2_with fail
      refine hv.out.mono ?_
      rintro e w9 ⟨rfl, hb9⟩
      have HS9 := Lib.hid (HS.out.below hb9)
      obtain ⟨r0, r1, r2, q0, q1, q2⟩ := cell3 HS9.out.r
      have hG2 := HS9.out.hG
      have hfB := below3 HS9.out.hB (w.heap.size + 1) (Nat.le_succ _) (.int .i64 n) (.int .i64 m) (.slice ao6 (jL row xs n m).length cap6)
      have hfO := HS9.out.o.og.box3 (w.heap.size + 1) (by omega) (.int .i64 n) (.int .i64 m) (.slice ao6 (jL row xs n m).length cap6)
      have HF := Lib.hid (And.intro (Og.mono (show w.heap.size ≤ G + 1 by omega) hfO) hfB)
      clear hfB hfO hb9 c0 c1 c2 d0 d1 d2
      go_wp2
      exact bodyPost_ret (v := .tuple #[.agg #[.int .i64 n, .int .i64 m, .slice ao6 (jL row xs n m).length cap6], .bool true]) (by simp [results, Try.results10, go_sem, r0, r1, r2]) rfl ⟨_, rfl, HF.out.1, HF.out.2⟩
set_option maxHeartbeats 1000000 in
theorem told_yes (n m : Nat) (v : Value) (xs : List Nat) (u : Value) (row : List Nat) (w : World) (h : Rg eF w v xs) (h' : Rg eF w u row) (hc : ChanOk n m xs) (hr : isRowW row = true) (hl : row.length = n)
    (ht : TabN n m (jL row xs n m)) (ho : oneW (jL row xs n m) = true) (hR : isRowW (rsL (jL row xs n m) n m) = true) (hC : isRowW (rsL (turnL (jL row xs n m) n m) m n) = true)
    (hk : CbOk n m (jL row xs n m) (rsL (jL row xs n m) n m) (rsL (turnL (jL row xs n m) n m) m n)) :
    Calls Try.prog 11 #[.agg #[.int .i64 n, .int .i64 m, v], u] w fun e w' => e = .returned (.tuple #[.float .f32 (cbN (jL row xs n m) (rsL (jL row xs n m) n m) (rsL (turnL (jL row xs n m) n m) m n) m n), .bool true]) ∧ Below w.heap.size w w' := by
  obtain ⟨ao, cap, rfl⟩ := h.shape
  obtain ⟨ao', cap', rfl⟩ := h'.shape
  obtain ⟨w0, hw0⟩ : ∃ W, w.alloc (.cells #[.int .i64 n, .int .i64 m, .slice ao xs.length cap] 27) = W := ⟨_, rfl⟩
  have hb0 : Below w.heap.size w w0 := by rw [← hw0]; go_grown
  have hP : ChP w0 w.heap.size n m (.slice ao xs.length cap) := by rw [← hw0]; exact ⟨by simp [go_sem], by simp [go_sem], by simp [go_sem]⟩
  have hj := Lib.hid (joint_yes n m _ xs _ row w0 (h.below hb0) (h'.below hb0) hc hr hl ht ho)
  have HK := Lib.hid (fun W v (h : Rg eF W v (jL row xs n m)) => common_any n m v _ W h ht ho hR hC hk)
  obtain ⟨p0, p1, p2⟩ := hP
  have HB0 := Lib.hid hb0
  clear h h' hc hr ht ho hR hC hk hb0
  generalize jL row xs n m = J at *
  generalize cbN J (rsL J n m) (rsL (turnL J n m) m n) m n = s at *
  have Hl := Lib.hid hl
  clear hl
  go_enter Try.func11, Try.ntmps11
  go_wp2_with fail
  refine hj.out.mono ?_
  rintro e w1 ⟨v1, rfl, ho1, hb1⟩
  obtain ⟨a1, c1, rfl⟩ := ho1.rg.shape
  obtain ⟨w2, hw2⟩ : ∃ W, w1.alloc (.cells #[.int .i64 n, .int .i64 m, .slice a1 J.length c1] 33) = W := ⟨_, rfl⟩
  have hb2 : Below w1.heap.size w1 w2 := by rw [← hw2]; go_grown
  have hQ : ChP w2 w1.heap.size n m (.slice a1 J.length c1) := by rw [← hw2]; exact ⟨by simp [go_sem], by simp [go_sem], by simp [go_sem]⟩
  have hcm := Lib.hid (HK.out w2 _ (ho1.rg.below hb2))
  have HB2 := Lib.hid (bnext HB0.out (bnext hb1 hb2))
  clear p0 p1 p2 hw0 ho1 hb1 hb2
  obtain ⟨p0, p1, p2⟩ := hQ
  go_wp2_with fail
  refine hcm.out.mono ?_
  rintro e w3 ⟨rfl, hb3⟩
  have HB3 := Lib.hid (bnext HB2.out hb3)
  clear hb3 p0 p1 p2 hw2
  go_wp2
  go_ret2
  exact ⟨rfl, HB3.out⟩
end Go.Proofs.Ytiejljlmbpgbiaa
