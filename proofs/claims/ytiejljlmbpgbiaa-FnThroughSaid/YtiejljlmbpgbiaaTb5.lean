/- Tables in the reference. Conditions: a table of few rows and columns, its chances numbers. -/
import Derived.Test.YtiejljlmbpgbiaaTb4
namespace Go.Proofs.Ytiejljlmbpgbiaa
open Go.RowKit
set_option maxRecDepth 100000
set_option linter.unusedVariables false
set_option linter.unusedSimpArgs false

set_option maxHeartbeats 1000000 in
theorem l02At_at (g n m i : Nat) (b off len cap : Nat) (w : World) (hp : ChP w g n m (.slice (some ⟨b, off, none⟩) len cap)) (hn : n ≤ 8) (hm : m ≤ 8) (h1 : 1 ≤ m) (hx : len = n * m) (hi : i < n) (hc1 : len ≤ cap) (hc2 : cap ≤ maxLen) :
    Calls Try.prog 80 #[.pointer (some ⟨g, 0, none⟩), .int .i64 i] w fun e w' => e = .returned (.slice (some ⟨b, off + i * m, none⟩) m (cap - i * m)) ∧ ∃ n, w' = w.drewN n := by
  obtain ⟨p0, p1, p2⟩ := hp
  obtain ⟨lo, hlo, l1, l2, e1, e2⟩ := row_nums hi hn hm
  rw [← hlo]
  have hm2 : cap ≤ 9223372036854775807 := by unfold maxLen at hc2; omega
  have hne : cap - lo ≠ 0 := by omega
  have hq : lo + m ≤ cap := by omega
  have Hlo := Lib.hid hlo
  clear hlo hx
  go_enter Try.func80, Try.ntmps80
  go_wp2
  go_quiet (fail)
  go_wp2
  go_ret
  exact ⟨congrArg (fun q => Ending.returned (Value.slice (some ⟨b, off + lo, none⟩) q (cap - lo))) (Nat.add_sub_cancel_left lo m), _, rfl⟩
set_option maxHeartbeats 2000000 in
theorem l02Table_yes (g n m : Nat) (v : Value) (xs : List Nat) (w : World) (hp : ChP w g n m v) (h : Rg eF w v xs) (ht : TabN n m xs) (ho : oneW xs = true) :
    Calls Try.prog 64 #[.pointer (some ⟨g, 0, none⟩)] w fun e w' => e = .returned (.bool true) ∧ ∃ n, w' = w.drewN n := by
  have hlen := h.len
  obtain ⟨ao, cap, rfl⟩ := h.shape
  obtain ⟨p0, p1, p2⟩ := hp
  have h1 : inB (n : Int) 1 8 = true := by have := ht.n1; have := ht.n8; unfold inB; simp; omega
  have h2 : inB (m : Int) 1 8 = true := by have := ht.m1; have := ht.m8; unfold inB; simp; omega
  have g1 := l00In_any (n : Int) 1 8
  have g2 := l00In_any (m : Int) 1 8
  rw [h1] at g1
  rw [h2] at g2
  have hsz := ht.sz
  obtain ⟨q, hq0⟩ : ∃ q, q = n * m := ⟨_, rfl⟩
  have hmul : ((n : Int) * m) = (q : Int) := by rw [hq0]; exact (Int.natCast_mul n m).symm
  have hq64 : q ≤ 64 := by omega
  have hx : xs.length = q := by rw [hq0]; exact ht.len
  have hne : ((xs.length : Int) == (q : Int)) = true := by rw [hx]; simp
  have hne' : (xs.length == q) = true := by rw [hx]; simp
  have g3 := fun k => l02Chances_any (.slice ao xs.length cap) xs (w.drewN k) (h.below (below_drewN w k))
  rw [ho] at g3
  have hn8 := ht.n8
  have hm8 := ht.m8
  have g30 := l02Chances_any (.slice ao xs.length cap) xs w h
  rw [ho] at g30
  clear h ho hq0 ht hx h1 h2
  go_enter Try.func64, Try.ntmps64
  go_wp2
  go_quiet ((first | (go_at_call 79; first | with_reducible exact Calls.quiet_of (qi (g1 _)) | with_reducible exact Calls.quiet_of (qi (g2 _))) | (go_at_call 59; first | with_reducible exact Calls.quiet_of (g3 _) | with_reducible exact Calls.quiet_of g30)))
  go_wp2
  go_ret
  exact ⟨rfl, _, rfl⟩
set_option maxHeartbeats 2000000 in
theorem l02Rows_any (g n m : Nat) (v : Value) (xs : List Nat) (w : World) (hp : ChP w g n m v) (h : Rg eF w v xs) (ht : TabN n m xs) :
    Calls Try.prog 65 #[.pointer (some ⟨g, 0, none⟩)] w fun e w' => ∃ v', e = .returned v' ∧ OwnF w.heap.size w' v' (rsL xs n m) ∧ Below w.heap.size w w' := by
  have hpos : 0 < xs.length := by rw [ht.len]; exact Nat.mul_pos ht.n1 ht.m1
  obtain ⟨ao, cap, rfl⟩ := h.shape
  obtain ⟨b2, off2, rfl, -, cp1, cp2, -⟩ := h.sub 0 1 (by decide) (by omega)
  have H := Lib.hid h
  have HP := Lib.hid hp
  have Ht := Lib.hid ht
  have hn8 := ht.n8
  have hm8 := ht.m8
  have hb1 : Below w.heap.size w (w.alloc (.cells #[] 36)) := by go_grown
  have HI := Lib.hid (And.intro (ownF_empty w w.heap.size (Nat.le_refl _)) hb1)
  clear h ht hb1 hp
  go_enter Try.func65, Try.ntmps65
  go_wp2_with fail
  go_loopw [3, 4] (fun ov kv wr => ∃ k : Nat, kv = .int .i64 k ∧ k ≤ n ∧ OwnF w.heap.size wr ov (rsL xs k m) ∧ Below w.heap.size w wr) (fun _ kv _ => n - (intOf kv).toNat)
  case atStart => exact ⟨0, rfl, Nat.zero_le _, HI.out.1, HI.out.2⟩
  case round =>
    clear HI
    obtain ⟨k, rfl, hk, hown, hB⟩ := hrel
    obtain ⟨p0, p1, p2⟩ := HP.out.below hB
    obtain ⟨ao2, cap2, rfl⟩ := hown.shape
    rw [rsL_len] at hown ⊢
    have HO := Lib.hid hown
    have HB := Lib.hid hB
    have hs1 := hB.size
    clear hown hB
    by_cases hkn : k < n
    · have hknI : (k : Int) < (n : Int) := by omega
      have hrow := Lib.hid (l02At_at g n m k b2 off2 xs.length cap wr (HP.out.below HB.out) hn8 hm8 Ht.out.m1 Ht.out.len hkn cp1 cp2)
      have hsn := Lib.hid (rsL_snoc xs k m)
      have hal := Lib.hid (AllNum.rowL Ht.out.num m k)
      have hrg := Lib.hid (Rg.row (H.out.below HB.out) Ht.out.len hn8 hm8 Ht.out.m1 hkn)
      go_wp2_with fail
      refine hrow.out.mono ?_
      rintro e w2 ⟨rfl, k2, hk2⟩
      have hb2 : Below wr.heap.size wr w2 := by rw [hk2]; exact below_drewN _ _
      have HO2 := Lib.hid (own_below hb2 HO.out)
      have HB2 := Lib.hid (bnext HB.out hb2)
      have hs2 := HB2.out.size
      have Hr2 := Lib.hid (hrg.out.below hb2)
      clear hb2 hrow HO HB hk2 hrg
      go_wp2_with (first | (go_at_call 77; refine (l02Sum_any _ (rowL xs m k) _ Hr2.out hal.out).mono ?_; rintro e w' ⟨rfl, rfl⟩) | (at_builtin; go_must (refine app_flts rfl _ _ rfl w.heap.size w.heap.size (Nat.le_refl _) (.slice ao2 k cap2) (rsL xs k m) rfl HO2.out HB2.out _ _ [sumF 0 (rowL xs m k)] rfl rfl (by rw [rsL_len]; simp; omega) hs2 ?_)))
      intro v4 w4 hown4 hB4 hg4
      rw [← hsn.out] at hown4
      obtain ⟨ao5, cap5, rfl⟩ := hown4.shape
      rw [rsL_len] at hown4 ⊢
      have HO4 := Lib.hid hown4
      have HB4 := Lib.hid hB4
      clear hown4 hB4 hg4 HO2 HB2
      go_wp2
      go_roundw
      case rel => exact ⟨k + 1, by go_num, by omega, HO4.out, HB4.out⟩
      case measure => simp [intOf]; omega
    · have hknI : ¬ (k : Int) < (n : Int) := by omega
      have hkn2 : k = n := by omega
      have Hkn := Lib.hid hkn2
      clear hkn2
      go_wp2
      go_ret
      exact ⟨_, rfl, by rw [← Hkn.out]; exact HO.out, HB.out⟩
/-- What lies in memory between two rounds: the result's box, the box of what is made, what is read through a pointer. -/
structure TwS (T : TypeId) (w W : World) (g : Nat) (n m : Int) (v : Value) (x y : Int) (out : Value) (xs : List Nat) : Prop where
  hB : Below w.heap.size w W
  a : ChP W g n m v
  r : W.heap[w.heap.size]? = some (.cells #[.int .i64 0, .int .i64 0, .slice none 0 0] T (0, 0))
  c : W.heap[w.heap.size + 1]? = some (.cells #[.int .i64 x, .int .i64 y, out] T (0, 0))
  o : OwnF (w.heap.size + 2) W out xs
  g : g < w.heap.size
theorem TwS.next {T : TypeId} {w W W' : World} {g : Nat} {n m : Int} {v : Value} {x y : Int} {out out' : Value} {xs xs' : List Nat} (h : TwS T w W g n m v x y out xs) (hb : Below (w.heap.size + 2) W W') (ho : OwnF (w.heap.size + 2) W' out' xs') :
    TwS T w (W'.setCell ⟨w.heap.size + 1, 2, none⟩ out') g n m v x y out' xs' := by
  have hg := h.g
  refine ⟨(h.hB.trans (hb.mono (by omega))).setCell (p := ⟨w.heap.size + 1, 2, none⟩) (by show w.heap.size ≤ w.heap.size + 1; omega) _, (h.a.of hb (by omega)).far _ _ (by show w.heap.size + 1 ≠ g; omega), blk_other (by show w.heap.size + 1 ≠ w.heap.size; omega) (blk_below hb (by omega) h.r), ?_, ?_, hg⟩
  · exact heap_setCell_same W' (w.heap.size + 1) 2 #[.int .i64 x, .int .i64 y, out] T out' (blk_below hb (by omega) h.c)
  · refine World.ownsRow.kept ho (grown_setCell W' _ _) ?_
    cases hv : out'.ownBlock with
    | none => exact .inl rfl
    | some k => right; intro e; have := (World.ownsRow.lt ho k hv).1; simp at e; omega
theorem blk_set3 {W : World} {b : Nat} {x y z x' y' z' : Value} {t : TypeId} (h : W.heap[b]? = some (.cells #[x, y, z] t (0, 0))) : (((W.setCell ⟨b, 0, none⟩ x').setCell ⟨b, 1, none⟩ y').setCell ⟨b, 2, none⟩ z').heap[b]? = some (.cells #[x', y', z'] t (0, 0)) := by
  have h0 := heap_setCell_same W b 0 #[x, y, z] t x' h
  have h1 := heap_setCell_same (W.setCell ⟨b, 0, none⟩ x') b 1 #[x', y, z] t y' h0
  exact heap_setCell_same _ b 2 #[x', y', z] t z' h1
set_option maxHeartbeats 4000000 in
theorem l02Turn_any (g n m : Nat) (v : Value) (xs : List Nat) (w : World) (hp : ChP w g n m v) (h : Rg eF w v xs) (ht : TabN n m xs) :
    Calls Try.prog 81 #[.pointer (some ⟨g, 0, none⟩)] w fun e w' => ∃ v', e = .returned (.agg #[.int .i64 m, .int .i64 n, v']) ∧ Og eF w.heap.size w' v' (turnL xs n m) ∧ Below w.heap.size w w' := by
  have hpos : 0 < xs.length := by rw [ht.len]; exact Nat.mul_pos ht.n1 ht.m1
  have hg0 : g < w.heap.size := World.block_lt_of_cell? w ⟨g, 0, none⟩ hp.1
  obtain ⟨ao, cap, rfl⟩ := h.shape
  obtain ⟨b2, off2, rfl, -, cp1, cp2, -⟩ := h.sub 0 1 (by decide) (by omega)
  skip
  obtain ⟨f, hf⟩ : ∃ f : Nat → Nat → Nat, (fun k i => xs.getD (i * m + k) 0) = f := ⟨_, rfl⟩
  obtain ⟨w0, hw0⟩ : ∃ W, w.alloc (.cells #[.int .i64 0, .int .i64 0, .slice none 0 0] 33) = W := ⟨_, rfl⟩
  have hb0 : Below w.heap.size w w0 := by rw [← hw0]; go_grown
  have hs0 : w0.heap.size = w.heap.size + 1 := by rw [← hw0]; simp
  have hr0 : w0.heap[w.heap.size]? = some (.cells #[.int .i64 0, .int .i64 0, .slice none 0 0] 33 (0, 0)) := by rw [← hw0]; exact heap_alloc_new _ _
  have hp0 := hp.below hb0
  have H := Lib.hid h
  have Ht := Lib.hid ht
  have Hf := Lib.hid hf
  have HB0 := Lib.hid hb0
  have HR0 := Lib.hid hr0
  have HP0 := Lib.hid hp0
  have hn8 := ht.n8
  have hm8 := ht.m8
  obtain ⟨p0, p1, p2⟩ := hp0
  clear h ht hf hb0 hr0 hp
  go_enter Try.func81, Try.ntmps81
  go_wp2_with fail
  refine wp_region_held_tail 10 (S := fun W' => W'.cell? ⟨g, 0, none⟩ = some (.int .i64 n) ∧ W'.cell? ⟨g, 1, none⟩ = some (.int .i64 m) ∧ Below w0.heap.size w0 W') (by kernel_rfl) (by decide +kernel) ?_ (fun hHeld => ?_)
  · exact ⟨p0, p1, (Below.refl _ _).drew⟩
  simp only [List.take_succ_cons, List.take_zero, List.drop_succ_cons, List.drop_zero, List.length_cons, List.length_nil, Nat.reduceAdd]
  refine wpAnyH_tk (i := 0) (v := ?_) (some 6) rfl rfl (by kernel_rfl) (by decide +kernel) (by decide +kernel) (fun _ _ _ h => h) (by kernel_rfl) ?_ hHeld ?_
  rotate_left
  · (intro w hSw; (try dsimp only at hSw); go_simp <;> with_reducible rfl)
  (try simp only [Act.put, List.setIfInBounds_toArray, List.set_cons_zero, List.set_cons_succ])
  refine wpAnyH_tk (i := 1) (v := ?_) (some 7) rfl rfl (by kernel_rfl) (by decide +kernel) (by decide +kernel) (fun _ _ _ h => h) (by kernel_rfl) ?_ hHeld ?_
  rotate_left
  · (intro w hSw; (try dsimp only at hSw); go_simp <;> with_reducible rfl)
  (try simp only [Act.put, List.setIfInBounds_toArray, List.set_cons_zero, List.set_cons_succ])
  refine wpAnyH_tk (i := 2) (v := ?_) (some 8) rfl rfl (by kernel_rfl) (by decide +kernel) (by decide +kernel) (fun _ _ _ h => h) (by kernel_rfl) ?_ hHeld ?_
  rotate_left
  · (intro w hSw; (try dsimp only at hSw); go_simp <;> with_reducible rfl)
  (try simp only [Act.put, List.setIfInBounds_toArray, List.set_cons_zero, List.set_cons_succ])
  refine wpAnyH_tk (i := 3) (v := ?_) (some 9) rfl rfl (by kernel_rfl) (by decide +kernel) (by decide +kernel) (fun _ _ _ h => h) (by kernel_rfl) ?_ hHeld ?_
  rotate_left
  · (intro w hSw; (try dsimp only at hSw); go_simp <;> with_reducible rfl)
  (try simp only [Act.put, List.setIfInBounds_toArray, List.set_cons_zero, List.set_cons_succ])
  refine wpAnyH_tk (i := 4) (v := ?_) (some 10) rfl rfl (by kernel_rfl) (by decide +kernel) (by decide +kernel) (fun _ _ _ h => h) (by kernel_rfl) ?_ hHeld ?_
  rotate_left
  · (intro w hSw; (try dsimp only at hSw); go_simp <;> with_reducible rfl)
  (try simp only [Act.put, List.setIfInBounds_toArray, List.set_cons_zero, List.set_cons_succ])
  refine wpAnyH_tk (i := 5) (v := ?_) (some 11) rfl rfl (by kernel_rfl) (by decide +kernel) (by decide +kernel) (fun _ _ _ h => h) (by kernel_rfl) ?_ hHeld ?_
  rotate_left
  · (intro w hSw; (try dsimp only at hSw); go_simp <;> with_reducible rfl)
  (try simp only [Act.put, List.setIfInBounds_toArray, List.set_cons_zero, List.set_cons_succ])
  refine wpAnyH_tk (i := 6) (v := ?_) (some 12) rfl rfl (by kernel_rfl) (by decide +kernel) (by decide +kernel) (fun _ _ _ h => h) (by kernel_rfl) ?_ hHeld ?_
  rotate_left
  · (intro w hSw; (try dsimp only at hSw); go_simp <;> with_reducible rfl)
  (try simp only [Act.put, List.setIfInBounds_toArray, List.set_cons_zero, List.set_cons_succ])
  refine wpAnyH_tk (i := 7) (v := ?_) (some 13) rfl rfl (by kernel_rfl) (by decide +kernel) (by decide +kernel) (fun _ _ _ h => h) (by kernel_rfl) ?_ hHeld ?_
  rotate_left
  · (intro w hSw; (try dsimp only at hSw); go_simp <;> with_reducible rfl)
  (try simp only [Act.put, List.setIfInBounds_toArray, List.set_cons_zero, List.set_cons_succ])
  refine wpAnyH_tk (i := 8) (v := ?_) (some 14) rfl rfl (by kernel_rfl) (by decide +kernel) (by decide +kernel) (fun _ _ _ h => h) (by kernel_rfl) ?_ hHeld ?_
  rotate_left
  · (intro w hSw; (try dsimp only at hSw); go_simp <;> with_reducible rfl)
  (try simp only [Act.put, List.setIfInBounds_toArray, List.set_cons_zero, List.set_cons_succ])
  refine wpAnyH_ready (rs := [9]) (by kernel_rfl) (by simp) ?_
  refine AllReadyH.cons rfl (fun K hK => ?_) AllReadyH.nil
  go_simp
  go_simp
  obtain ⟨wZ, hwZ⟩ : ∃ W, W = (World.alloc w0 (.cells #[.int .i64 0, .int .i64 0, .slice none 0 0] 33)).drew := ⟨_, rfl⟩
  rw [← hwZ]
  have hbZ : Below w0.heap.size w0 wZ := hwZ ▸ (alloc_below w0 (.cells #[.int .i64 0, .int .i64 0, .slice none 0 0] 33)).drew
  have hzZ : wZ.heap[w0.heap.size]? = some (.cells #[.int .i64 0, .int .i64 0, .slice none 0 0] 33 (0, 0)) := by rw [hwZ]; exact heap_alloc_new w0 _
  clear hwZ
  refine hK.out _ _ ?_ (fun hHeld => ?_)
  · exact ⟨cnext hbZ p0, cnext hbZ p1, hbZ⟩
  clear hK K
  (try simp only [Act.put, List.setIfInBounds_toArray, List.set_cons_zero, List.set_cons_succ])
  refine wpAnyH_done (by kernel_rfl) ?_ _
  show wpList _ _ _ _ _ _
  rw [hs0] at hzZ
  have hst : TwS 33 w (((wZ.setCell ⟨w.heap.size + 1, 0, none⟩ (.int .i64 m)).setCell ⟨w.heap.size + 1, 1, none⟩ (.int .i64 n)).setCell ⟨w.heap.size + 1, 2, none⟩ (.slice none 0 0)) g n m (.slice (some ⟨b2, off2, none⟩) xs.length cap) m n (.slice none 0 0) (gridL f n 0 0) := by
    have hbz := hbZ.size
    refine ⟨below3 (bnext HB0.out hbZ) (w.heap.size + 1) (by omega) _ _ _, ?_, ?_, ?_, ownF_nil _ _, hg0⟩
    · exact (((HP0.out.below hbZ).far _ _ (by show w.heap.size + 1 ≠ g; omega)).far _ _ (by show w.heap.size + 1 ≠ g; omega)).far _ _ (by show w.heap.size + 1 ≠ g; omega)
    · exact blk_other (by show w.heap.size + 1 ≠ w.heap.size; omega) (blk_other (by show w.heap.size + 1 ≠ w.heap.size; omega) (blk_other (by show w.heap.size + 1 ≠ w.heap.size; omega) (blk_next hbZ HR0.out)))
    · exact blk_set3 hzZ
  obtain ⟨z0, z1, z2, y0, y1, y2⟩ := cell3 hzZ
  have HS := Lib.hid hst
  clear hst hHeld hbZ hzZ p0 p1 p2 hw0
  go_wp2_with fail
  clear z0 z1 z2 y0 y1 y2
  go_loopw [4] (fun kv wr => ∃ (k : Nat) (out : Value), kv = .int .i64 k ∧ k ≤ m ∧ TwS 33 w wr g n m (.slice (some ⟨b2, off2, none⟩) xs.length cap) m n out (gridL f n k 0)) (fun kv _ => m - (intOf kv).toNat)
  case atStart => exact ⟨0, .slice none 0 0, rfl, Nat.zero_le _, HS.out⟩
  case round =>
    clear HS
    obtain ⟨k, out, rfl, hk, h⟩ := hrel
    obtain ⟨a0, a1, a2⟩ := h.a
    by_cases hkm : k < m
    · have H0 := Lib.hid h
      have hkI : (k : Int) < (m : Int) := by omega
      clear h
      go_wp2
      clear a0 a1 a2
      go_loopw [5] (fun iv wi => ∃ (i : Nat) (out : Value), iv = .int .i64 i ∧ i ≤ n ∧ TwS 33 w wi g n m (.slice (some ⟨b2, off2, none⟩) xs.length cap) m n out (gridL f n k i)) (fun iv _ => n - (intOf iv).toNat)
      case atStart => exact ⟨0, out, rfl, Nat.zero_le _, H0.out⟩
      case round =>
        clear H0
        obtain ⟨i, out, rfl, hi, h⟩ := hrel
        have hsz2 : w.heap.size + 2 ≤ wr.heap.size := blk_lt h.c
        obtain ⟨c0, c1, c2, d0, d1, d2⟩ := cell3 h.c
        obtain ⟨a0, a1, a2⟩ := h.a
        have HH := Lib.hid h
        have Hlen := Lib.hid (grid_len f n k i)
        have hle : k * n ≤ 64 := Nat.mul_le_mul (Nat.le_trans hk hm8) hn8
        obtain ⟨ao6, cap6, rfl⟩ := h.o.shape
        by_cases hin : i < n
        · have hiI : (i : Int) < (n : Int) := by omega
          have Hsn := Lib.hid (grid_snoc f n k i)
          have hbb : Below wr.heap.size wr wr.drew := (Below.refl _ _).drew
          have hbb2 : Below (w.heap.size + 2) wr wr.drew := (Below.refl _ _).drew
          have hba : ∀ q, Below wr.heap.size wr (wr.alloc (.cells #[eF q] 36)).drew := fun q => (alloc_below wr _).drew
          obtain ⟨lo, hlo, l1, l2, l3, -⟩ := row_nums (i := i) (n := n) (m := m) (by assumption) hn8 hm8
          have hxl : lo + k < xs.length := by rw [Ht.out.len, hlo]; exact at_lt (by assumption) (by assumption)
          obtain ⟨b9, off9, e9, cX⟩ := getD_cell (H.out.below h.hB) (lo + k) hxl
          simp only [Option.some.injEq, Addr.mk.injEq, and_true] at e9
          obtain ⟨rfl, rfl⟩ := e9
          have hfx : xs.getD (lo + k) 0 = f k i := by rw [← Hf.out, hlo]
          rw [hfx, ← Nat.add_assoc] at cX
          clear h hfx hlo
          generalize f k i = x at Hsn cX
          have wq1 : IntKind.i64.wrap (lo : Int) = (lo : Int) := IntWalk.i64_in _ (by omega)
          have wq2 : IntKind.i64.wrap ((lo : Int) + (k : Int)) = (lo : Int) + (k : Int) := IntWalk.i64_in _ (by omega)
          have wq3 : (0 : Int) ≤ (lo : Int) + (k : Int) := by omega
          have wq6 : (lo : Int) + (k : Int) < (xs.length : Int) := by omega
          have wq4 : ((lo : Int) + (k : Int)).toNat = lo + k := by omega
          have wq5 : off2 + (lo + k) = off2 + lo + k := (Nat.add_assoc _ _ _).symm
          go_wp2
          refine wp_region_held_tail 17 (S := fun W' => W'.cell? ⟨w.heap.size + 1, 2, none⟩ = some (.slice ao6 (gridL f n k i).length cap6) ∧ W'.cell? ⟨g, 1, none⟩ = some (.int .i64 m) ∧ W'.cell? ⟨g, 2, none⟩ = some (.slice (some ⟨b2, off2, none⟩) xs.length cap) ∧ W'.cell? ⟨b2, off2 + lo + k, none⟩ = some (eF x) ∧ Below (w.heap.size + 2) wr W') (by kernel_rfl) (by decide +kernel) ?_ (fun hHeld => ?_)
          · (go_split_ands; refine ⟨?_, ?_, ?_, ?_, ?_⟩ <;> first | assumption | exact cnext (by assumption) (by assumption) | exact bup (by assumption) hsz2 (by assumption) | exact cnext (show Below _ _ (World.alloc _ _) by go_grown) (by assumption) | exact bup (by assumption) hsz2 (show Below _ _ (World.alloc _ _) by go_grown))
          simp only [List.take_succ_cons, List.take_zero, List.drop_succ_cons, List.drop_zero, List.length_cons, List.length_nil, Nat.reduceAdd]
          refine wpAnyH_tk (i := 0) (v := ?_) (some 31) rfl rfl (by kernel_rfl) (by decide +kernel) (by decide +kernel) (fun _ _ _ h => h) (by kernel_rfl) ?_ hHeld ?_
          rotate_left
          · (intro w hSw; (try dsimp only at hSw); go_simp <;> with_reducible rfl)
          (try simp only [Act.put, List.setIfInBounds_toArray, List.set_cons_zero, List.set_cons_succ])
          refine wpAnyH_tk (i := 1) (v := ?_) (some 32) rfl rfl (by kernel_rfl) (by decide +kernel) (by decide +kernel) (fun _ _ _ h => h) (by kernel_rfl) ?_ hHeld ?_
          rotate_left
          · (intro w hSw; (try dsimp only at hSw); go_simp <;> with_reducible rfl)
          (try simp only [Act.put, List.setIfInBounds_toArray, List.set_cons_zero, List.set_cons_succ])
          refine wpAnyH_tk (i := 2) (v := ?_) (some 33) rfl rfl (by kernel_rfl) (by decide +kernel) (by decide +kernel) (fun _ _ _ h => h) (by kernel_rfl) ?_ hHeld ?_
          rotate_left
          · (intro w hSw; (try dsimp only at hSw); go_simp <;> with_reducible rfl)
          (try simp only [Act.put, List.setIfInBounds_toArray, List.set_cons_zero, List.set_cons_succ])
          refine wpAnyH_tk (i := 3) (v := ?_) (some 34) rfl rfl (by kernel_rfl) (by decide +kernel) (by decide +kernel) (fun _ _ _ h => h) (by kernel_rfl) ?_ hHeld ?_
          rotate_left
          · (intro w hSw; (try dsimp only at hSw); go_simp <;> with_reducible rfl)
          (try simp only [Act.put, List.setIfInBounds_toArray, List.set_cons_zero, List.set_cons_succ])
          refine wpAnyH_tk (i := 4) (v := ?_) (some 35) rfl rfl (by kernel_rfl) (by decide +kernel) (by decide +kernel) (fun _ _ _ h => h) (by kernel_rfl) ?_ hHeld ?_
          rotate_left
          · (intro w hSw; (try dsimp only at hSw); go_simp <;> with_reducible rfl)
          (try simp only [Act.put, List.setIfInBounds_toArray, List.set_cons_zero, List.set_cons_succ])
          refine wpAnyH_tk (i := 5) (v := ?_) (some 36) rfl rfl (by kernel_rfl) (by decide +kernel) (by decide +kernel) (fun _ _ _ h => h) (by kernel_rfl) ?_ hHeld ?_
          rotate_left
          · (intro w hSw; (try dsimp only at hSw); go_simp <;> with_reducible rfl)
          (try simp only [Act.put, List.setIfInBounds_toArray, List.set_cons_zero, List.set_cons_succ])
          refine wpAnyH_tk (i := 6) (v := ?_) (some 37) rfl rfl (by kernel_rfl) (by decide +kernel) (by decide +kernel) (fun _ _ _ h => h) (by kernel_rfl) ?_ hHeld ?_
          rotate_left
          · (intro w hSw; (try dsimp only at hSw); go_simp <;> with_reducible rfl)
          (try simp only [Act.put, List.setIfInBounds_toArray, List.set_cons_zero, List.set_cons_succ])
          refine wpAnyH_tk (i := 7) (v := ?_) (some 38) rfl rfl (by kernel_rfl) (by decide +kernel) (by decide +kernel) (fun _ _ _ h => h) (by kernel_rfl) ?_ hHeld ?_
          rotate_left
          · (intro w hSw; (try dsimp only at hSw); go_simp <;> with_reducible rfl)
          (try simp only [Act.put, List.setIfInBounds_toArray, List.set_cons_zero, List.set_cons_succ])
          refine wpAnyH_tk (i := 8) (v := ?_) (some 39) rfl rfl (by kernel_rfl) (by decide +kernel) (by decide +kernel) (fun _ _ _ h => h) (by kernel_rfl) ?_ hHeld ?_
          rotate_left
          · (intro w hSw; (try dsimp only at hSw); go_simp <;> with_reducible rfl)
          (try simp only [Act.put, List.setIfInBounds_toArray, List.set_cons_zero, List.set_cons_succ])
          refine wpAnyH_tk (i := 9) (v := ?_) (some 40) rfl rfl (by kernel_rfl) (by decide +kernel) (by decide +kernel) (fun _ _ _ h => h) (by kernel_rfl) ?_ hHeld ?_
          rotate_left
          · (intro w hSw; (try dsimp only at hSw); go_simp <;> with_reducible rfl)
          (try simp only [Act.put, List.setIfInBounds_toArray, List.set_cons_zero, List.set_cons_succ])
          refine wpAnyH_tk (i := 10) (v := ?_) (some 41) rfl rfl (by kernel_rfl) (by decide +kernel) (by decide +kernel) (fun _ _ _ h => h) (by kernel_rfl) ?_ hHeld ?_
          rotate_left
          · (intro w hSw; (try dsimp only at hSw); go_simp <;> with_reducible rfl)
          (try simp only [Act.put, List.setIfInBounds_toArray, List.set_cons_zero, List.set_cons_succ])
          refine wpAnyH_tk (i := 11) (v := ?_) (some 42) rfl rfl (by kernel_rfl) (by decide +kernel) (by decide +kernel) (fun _ _ _ h => h) (by kernel_rfl) ?_ hHeld ?_
          rotate_left
          · (intro w hSw; (try dsimp only at hSw); go_simp <;> with_reducible rfl)
          (try simp only [Act.put, List.setIfInBounds_toArray, List.set_cons_zero, List.set_cons_succ])
          refine wpAnyH_tk (i := 12) (v := ?_) (some 43) rfl rfl (by kernel_rfl) (by decide +kernel) (by decide +kernel) (fun _ _ _ h => h) (by kernel_rfl) ?_ hHeld ?_
          rotate_left
          · (intro w hSw; (try dsimp only at hSw); go_simp <;> with_reducible rfl)
          (try simp only [Act.put, List.setIfInBounds_toArray, List.set_cons_zero, List.set_cons_succ])
          refine wpAnyH_tk (i := 13) (v := ?_) (some 44) rfl rfl (by kernel_rfl) (by decide +kernel) (by decide +kernel) (fun _ _ _ h => h) (by kernel_rfl) ?_ hHeld ?_
          rotate_left
          · (intro w hSw; (try dsimp only at hSw); go_simp <;> with_reducible rfl)
          (try simp only [Act.put, List.setIfInBounds_toArray, List.set_cons_zero, List.set_cons_succ])
          refine wpAnyH_tk (i := 14) (v := ?_) (some 45) rfl rfl (by kernel_rfl) (by decide +kernel) (by decide +kernel) (fun _ _ _ h => h) (by kernel_rfl) ?_ hHeld ?_
          rotate_left
          · (intro w hSw; (try dsimp only at hSw); go_simp <;> with_reducible rfl)
          (try simp only [Act.put, List.setIfInBounds_toArray, List.set_cons_zero, List.set_cons_succ])
          refine wpAnyH_tk (i := 15) (v := ?_) (some 46) rfl rfl (by kernel_rfl) (by decide +kernel) (by decide +kernel) (fun _ _ _ h => h) (by kernel_rfl) ?_ hHeld ?_
          rotate_left
          · (intro w hSw; (try dsimp only at hSw); go_simp <;> with_reducible rfl)
          (try simp only [Act.put, List.setIfInBounds_toArray, List.set_cons_zero, List.set_cons_succ])
          refine wpAnyH_ready (rs := [16]) (by kernel_rfl) (by simp) ?_
          refine AllReadyH.cons rfl (fun K hK => ?_) AllReadyH.nil
          go_simp
          refine hK.out _ _ ?_ (fun hHeld => ?_)
          · exact ⟨cnext (hba x) c2, cnext (hba x) a1, cnext (hba x) a2, cnext (hba x) cX, bup (Below.refl (w.heap.size + 2) wr) hsz2 (hba x)⟩
          clear hK K
          (try simp only [Act.put, List.setIfInBounds_toArray, List.set_cons_zero, List.set_cons_succ])
          refine wpAnyH_done (by kernel_rfl) ?_ _
          show wpList _ _ _ _ _ _
          show wpList _ _ _ _ _ (wr.drew.alloc (.cells #[eF x] 36))
          refine app_flts rfl _ _ rfl (w.heap.size + 2) (w.heap.size + 2) (Nat.le_refl _) (.slice ao6 (gridL f n k i).length cap6) (gridL f n k i) rfl (own_below hbb HH.out.o) hbb2 _ _ [x] rfl rfl (by rw [Hlen.out]; simp; omega) (Nat.le_trans hsz2 hbb.size) ?_
          intro v6 w6 hown6 hB6 hg6
          rw [← Hsn.out] at hown6
          obtain ⟨ao7, cap7, rfl⟩ := hown6.shape
          have HN := Lib.hid (HH.out.next hB6 hown6)
          have hc6 := cell3 (blk_below hB6 (by omega) HH.out.c)
          obtain ⟨e0, e1, e2, g0, g1, g2⟩ := hc6
          clear c0 c1 c2 d0 d1 d2 a0 a1 a2 cX hHeld hown6 hB6 hg6
          go_wp2
          go_roundw
          case rel => exact ⟨i + 1, _, by go_num, by omega, HN.out⟩
          case measure => simp [intOf]; omega
        · have hin2 : i = n := by omega
          have hiI : ¬ (i : Int) < (n : Int) := by omega
          have HH2 := Lib.hid (show TwS 33 w wr g n m (.slice (some ⟨b2, off2, none⟩) xs.length cap) m n (.slice ao6 (gridL f n k i).length cap6) (gridL f n (k + 1) 0) by rw [← grid_row]; have := HH.out; rw [hin2] at this ⊢; exact this)
          clear hin2
          go_wp2
          go_roundw
          case rel => exact ⟨k + 1, _, by go_num, by omega, HH2.out⟩
          case measure => simp [intOf]; omega
    · have hkm2 : k = m := by omega
      have hkI : ¬ (k : Int) < (m : Int) := by omega
      have hjl : gridL f n k 0 = turnL xs n m := by rw [hkm2, ← Hf.out]; rfl
      rw [hjl] at h
      obtain ⟨ao6, cap6, rfl⟩ := h.o.shape
      obtain ⟨c0, c1, c2, d0, d1, d2⟩ := cell3 h.c
      obtain ⟨r0, r1, r2, q0, q1, q2⟩ := cell3 h.r
      have hfB := below3 h.hB w.heap.size (Nat.le_refl _) (.int .i64 m) (.int .i64 n) (.slice ao6 (turnL xs n m).length cap6)
      have hfO := h.o.og.box3 w.heap.size (by omega) (.int .i64 m) (.int .i64 n) (.slice ao6 (turnL xs n m).length cap6)
      have HF := Lib.hid (And.intro (Og.mono (show w.heap.size ≤ w.heap.size + 2 by omega) hfO) hfB)
      clear hfB hfO h hjl hkm2
      go_wp2
      exact bodyPost_ret (v := .agg #[.int .i64 m, .int .i64 n, .slice ao6 (turnL xs n m).length cap6]) (by simp [results, Try.results81, go_sem, r0, r1, r2]) rfl ⟨_, rfl, HF.out.1, HF.out.2⟩
set_option maxHeartbeats 1000000 in
theorem l02Cols_any (g n m : Nat) (v : Value) (xs : List Nat) (w : World) (hp : ChP w g n m v) (h : Rg eF w v xs) (ht : TabN n m xs) :
    Calls Try.prog 66 #[.pointer (some ⟨g, 0, none⟩)] w fun e w' => ∃ v', e = .returned v' ∧ OwnF w.heap.size w' v' (rsL (turnL xs n m) m n) ∧ Below w.heap.size w w' := by
  have ht2 := Lib.hid (l02Turn_any g n m v xs w hp h ht)
  have Htt := Lib.hid ht.turn
  clear h hp ht
  go_enter Try.func66, Try.ntmps66
  go_wp2_with fail
  refine ht2.out.mono ?_
  rintro e w1 ⟨v1, rfl, ho1, hb1⟩
  obtain ⟨a1, c1, rfl⟩ := ho1.rg.shape
  obtain ⟨w2, hw2⟩ : ∃ W, w1.alloc (.cells #[.int .i64 m, .int .i64 n, .slice a1 (turnL xs n m).length c1] 33) = W := ⟨_, rfl⟩
  have hb2 : Below w1.heap.size w1 w2 := by rw [← hw2]; go_grown
  have hQ : ChP w2 w1.heap.size m n (.slice a1 (turnL xs n m).length c1) := by rw [← hw2]; exact ⟨by simp [go_sem], by simp [go_sem], by simp [go_sem]⟩
  have hr := Lib.hid (l02Rows_any w1.heap.size m n _ (turnL xs n m) w2 hQ (ho1.rg.below hb2) Htt.out)
  have HB2 := Lib.hid (bnext hb1 hb2)
  have hs2 := HB2.out.size
  clear ho1 hb1 hb2 hQ ht2
  go_wp2_with fail
  refine hr.out.mono ?_
  rintro e w3 ⟨v3, rfl, ho3, hb3⟩
  obtain ⟨a3, c3, rfl⟩ := ho3.shape
  have HF := Lib.hid (And.intro ho3 (bnext HB2.out hb3))
  clear ho3 hb3
  go_wp2
  go_ret
  refine ⟨_, rfl, ?_, HF.out.2⟩
  obtain ⟨a, b⟩ := HF.out.1
  exact ⟨a, b.imp id fun ⟨g, cap, cur, a, c, d⟩ => ⟨g, cap, cur, a, Nat.le_trans hs2 c, d⟩⟩
set_option maxHeartbeats 4000000 in
theorem l03Joint_any (g n m : Nat) (v : Value) (xs : List Nat) (u : Value) (row : List Nat) (w : World) (hp : ChP w g n m v) (h : Rg eF w v xs) (h' : Rg eF w u row) (hc : ChanOk n m xs) (hr : isRowW row = true) (hl : row.length = n) :
    Calls Try.prog 63 #[.pointer (some ⟨g, 0, none⟩), u] w fun e w' => ∃ v', e = .returned (.agg #[.int .i64 n, .int .i64 m, v']) ∧ Og eF w.heap.size w' v' (jL row xs n m) ∧ Below w.heap.size w w' := by
  have ht : ChanOk n m xs := hc
  have hpos : 0 < xs.length := by rw [ht.len]; exact Nat.mul_pos ht.n1 ht.m1
  have hg0 : g < w.heap.size := World.block_lt_of_cell? w ⟨g, 0, none⟩ hp.1
  obtain ⟨ao, cap, rfl⟩ := h.shape
  obtain ⟨b2, off2, rfl, -, cp1, cp2, -⟩ := h.sub 0 1 (by decide) (by omega)
  obtain ⟨aR, capR, rfl⟩ := h'.shape
  have Hrw := Lib.hid h'
  have HC := Lib.hid hc
  have Hrow := Lib.hid (row_ch hr hl)
  have hl2 := Lib.hid hl
  rw [hl] at Hrw ⊢
  clear h' hc hr hl
  obtain ⟨f, hf⟩ : ∃ f : Nat → Nat → Nat, jF row xs m = f := ⟨_, rfl⟩
  obtain ⟨w0, hw0⟩ : ∃ W, w.alloc (.cells #[.int .i64 0, .int .i64 0, .slice none 0 0] 33) = W := ⟨_, rfl⟩
  have hb0 : Below w.heap.size w w0 := by rw [← hw0]; go_grown
  have hs0 : w0.heap.size = w.heap.size + 1 := by rw [← hw0]; simp
  have hr0 : w0.heap[w.heap.size]? = some (.cells #[.int .i64 0, .int .i64 0, .slice none 0 0] 33 (0, 0)) := by rw [← hw0]; exact heap_alloc_new _ _
  have hp0 := hp.below hb0
  have H := Lib.hid h
  have Ht := Lib.hid ht
  have Hf := Lib.hid hf
  have HB0 := Lib.hid hb0
  have HR0 := Lib.hid hr0
  have HP0 := Lib.hid hp0
  have hn8 := ht.n8
  have hm8 := ht.m8
  obtain ⟨p0, p1, p2⟩ := hp0
  clear h ht hf hb0 hr0 hp
  go_enter Try.func63, Try.ntmps63
  go_wp2_with fail
  refine wp_region_held_tail 10 (S := fun W' => W'.cell? ⟨g, 0, none⟩ = some (.int .i64 n) ∧ W'.cell? ⟨g, 1, none⟩ = some (.int .i64 m) ∧ Below w0.heap.size w0 W') (by kernel_rfl) (by decide +kernel) ?_ (fun hHeld => ?_)
  · exact ⟨p0, p1, (Below.refl _ _).drew⟩
  simp only [List.take_succ_cons, List.take_zero, List.drop_succ_cons, List.drop_zero, List.length_cons, List.length_nil, Nat.reduceAdd]
  refine wpAnyH_tk (i := 0) (v := ?_) (some 8) rfl rfl (by kernel_rfl) (by decide +kernel) (by decide +kernel) (fun _ _ _ h => h) (by kernel_rfl) ?_ hHeld ?_
  rotate_left
  · (intro w hSw; (try dsimp only at hSw); go_simp <;> with_reducible rfl)
  (try simp only [Act.put, List.setIfInBounds_toArray, List.set_cons_zero, List.set_cons_succ])
  refine wpAnyH_tk (i := 1) (v := ?_) (some 9) rfl rfl (by kernel_rfl) (by decide +kernel) (by decide +kernel) (fun _ _ _ h => h) (by kernel_rfl) ?_ hHeld ?_
  rotate_left
  · (intro w hSw; (try dsimp only at hSw); go_simp <;> with_reducible rfl)
  (try simp only [Act.put, List.setIfInBounds_toArray, List.set_cons_zero, List.set_cons_succ])
  refine wpAnyH_tk (i := 2) (v := ?_) (some 10) rfl rfl (by kernel_rfl) (by decide +kernel) (by decide +kernel) (fun _ _ _ h => h) (by kernel_rfl) ?_ hHeld ?_
  rotate_left
  · (intro w hSw; (try dsimp only at hSw); go_simp <;> with_reducible rfl)
  (try simp only [Act.put, List.setIfInBounds_toArray, List.set_cons_zero, List.set_cons_succ])
  refine wpAnyH_tk (i := 3) (v := ?_) (some 11) rfl rfl (by kernel_rfl) (by decide +kernel) (by decide +kernel) (fun _ _ _ h => h) (by kernel_rfl) ?_ hHeld ?_
  rotate_left
  · (intro w hSw; (try dsimp only at hSw); go_simp <;> with_reducible rfl)
  (try simp only [Act.put, List.setIfInBounds_toArray, List.set_cons_zero, List.set_cons_succ])
  refine wpAnyH_tk (i := 4) (v := ?_) (some 12) rfl rfl (by kernel_rfl) (by decide +kernel) (by decide +kernel) (fun _ _ _ h => h) (by kernel_rfl) ?_ hHeld ?_
  rotate_left
  · (intro w hSw; (try dsimp only at hSw); go_simp <;> with_reducible rfl)
  (try simp only [Act.put, List.setIfInBounds_toArray, List.set_cons_zero, List.set_cons_succ])
  refine wpAnyH_tk (i := 5) (v := ?_) (some 13) rfl rfl (by kernel_rfl) (by decide +kernel) (by decide +kernel) (fun _ _ _ h => h) (by kernel_rfl) ?_ hHeld ?_
  rotate_left
  · (intro w hSw; (try dsimp only at hSw); go_simp <;> with_reducible rfl)
  (try simp only [Act.put, List.setIfInBounds_toArray, List.set_cons_zero, List.set_cons_succ])
  refine wpAnyH_tk (i := 6) (v := ?_) (some 14) rfl rfl (by kernel_rfl) (by decide +kernel) (by decide +kernel) (fun _ _ _ h => h) (by kernel_rfl) ?_ hHeld ?_
  rotate_left
  · (intro w hSw; (try dsimp only at hSw); go_simp <;> with_reducible rfl)
  (try simp only [Act.put, List.setIfInBounds_toArray, List.set_cons_zero, List.set_cons_succ])
  refine wpAnyH_tk (i := 7) (v := ?_) (some 15) rfl rfl (by kernel_rfl) (by decide +kernel) (by decide +kernel) (fun _ _ _ h => h) (by kernel_rfl) ?_ hHeld ?_
  rotate_left
  · (intro w hSw; (try dsimp only at hSw); go_simp <;> with_reducible rfl)
  (try simp only [Act.put, List.setIfInBounds_toArray, List.set_cons_zero, List.set_cons_succ])
  refine wpAnyH_tk (i := 8) (v := ?_) (some 16) rfl rfl (by kernel_rfl) (by decide +kernel) (by decide +kernel) (fun _ _ _ h => h) (by kernel_rfl) ?_ hHeld ?_
  rotate_left
  · (intro w hSw; (try dsimp only at hSw); go_simp <;> with_reducible rfl)
  (try simp only [Act.put, List.setIfInBounds_toArray, List.set_cons_zero, List.set_cons_succ])
  refine wpAnyH_ready (rs := [9]) (by kernel_rfl) (by simp) ?_
  refine AllReadyH.cons rfl (fun K hK => ?_) AllReadyH.nil
  go_simp
  go_simp
  obtain ⟨wZ, hwZ⟩ : ∃ W, W = (World.alloc w0 (.cells #[.int .i64 0, .int .i64 0, .slice none 0 0] 33)).drew := ⟨_, rfl⟩
  rw [← hwZ]
  have hbZ : Below w0.heap.size w0 wZ := hwZ ▸ (alloc_below w0 (.cells #[.int .i64 0, .int .i64 0, .slice none 0 0] 33)).drew
  have hzZ : wZ.heap[w0.heap.size]? = some (.cells #[.int .i64 0, .int .i64 0, .slice none 0 0] 33 (0, 0)) := by rw [hwZ]; exact heap_alloc_new w0 _
  clear hwZ
  refine hK.out _ _ ?_ (fun hHeld => ?_)
  · exact ⟨cnext hbZ p0, cnext hbZ p1, hbZ⟩
  clear hK K
  (try simp only [Act.put, List.setIfInBounds_toArray, List.set_cons_zero, List.set_cons_succ])
  refine wpAnyH_done (by kernel_rfl) ?_ _
  show wpList _ _ _ _ _ _
  rw [hs0] at hzZ
  have hst : TwS 33 w (((wZ.setCell ⟨w.heap.size + 1, 0, none⟩ (.int .i64 n)).setCell ⟨w.heap.size + 1, 1, none⟩ (.int .i64 m)).setCell ⟨w.heap.size + 1, 2, none⟩ (.slice none 0 0)) g n m (.slice (some ⟨b2, off2, none⟩) xs.length cap) n m (.slice none 0 0) (gridL f m 0 0) := by
    have hbz := hbZ.size
    refine ⟨below3 (bnext HB0.out hbZ) (w.heap.size + 1) (by omega) _ _ _, ?_, ?_, ?_, ownF_nil _ _, hg0⟩
    · exact (((HP0.out.below hbZ).far _ _ (by show w.heap.size + 1 ≠ g; omega)).far _ _ (by show w.heap.size + 1 ≠ g; omega)).far _ _ (by show w.heap.size + 1 ≠ g; omega)
    · exact blk_other (by show w.heap.size + 1 ≠ w.heap.size; omega) (blk_other (by show w.heap.size + 1 ≠ w.heap.size; omega) (blk_other (by show w.heap.size + 1 ≠ w.heap.size; omega) (blk_next hbZ HR0.out)))
    · exact blk_set3 hzZ
  obtain ⟨z0, z1, z2, y0, y1, y2⟩ := cell3 hzZ
  have HS := Lib.hid hst
  clear hst hHeld hbZ hzZ p0 p1 p2 hw0
  go_wp2_with fail
  clear z0 z1 z2 y0 y1 y2
  go_loopw [6] (fun kv wr => ∃ (k : Nat) (out : Value), kv = .int .i64 k ∧ k ≤ n ∧ TwS 33 w wr g n m (.slice (some ⟨b2, off2, none⟩) xs.length cap) n m out (gridL f m k 0)) (fun kv _ => n - (intOf kv).toNat)
  case atStart => exact ⟨0, .slice none 0 0, rfl, Nat.zero_le _, HS.out⟩
  case round =>
    clear HS
    obtain ⟨k, out, rfl, hk, h⟩ := hrel
    obtain ⟨a0, a1, a2⟩ := h.a
    by_cases hkm : k < n
    · have H0 := Lib.hid h
      have hkI : (k : Int) < (n : Int) := by omega
      clear h
      go_wp2
      clear a0 a1 a2
      go_loopw [7] (fun iv wi => ∃ (i : Nat) (out : Value), iv = .int .i64 i ∧ i ≤ m ∧ TwS 33 w wi g n m (.slice (some ⟨b2, off2, none⟩) xs.length cap) n m out (gridL f m k i)) (fun iv _ => m - (intOf iv).toNat)
      case atStart => exact ⟨0, out, rfl, Nat.zero_le _, H0.out⟩
      case round =>
        clear H0
        obtain ⟨i, out, rfl, hi, h⟩ := hrel
        have hsz2 : w.heap.size + 2 ≤ wr.heap.size := blk_lt h.c
        obtain ⟨c0, c1, c2, d0, d1, d2⟩ := cell3 h.c
        obtain ⟨a0, a1, a2⟩ := h.a
        have HH := Lib.hid h
        have Hlen := Lib.hid (grid_len f m k i)
        have hle : k * m ≤ 64 := Nat.mul_le_mul (Nat.le_trans hk hn8) hm8
        obtain ⟨ao6, cap6, rfl⟩ := h.o.shape
        by_cases hin : i < m
        · have hiI : (i : Int) < (m : Int) := by omega
          have Hsn := Lib.hid (grid_snoc f m k i)
          have hbb : Below wr.heap.size wr wr.drew := (Below.refl _ _).drew
          have hbb2 : Below (w.heap.size + 2) wr wr.drew := (Below.refl _ _).drew
          have hba : ∀ q, Below wr.heap.size wr (wr.alloc (.cells #[eF q] 36)).drew := fun q => (alloc_below wr _).drew
          obtain ⟨lo, hlo, l1, l2, l3, -⟩ := row_nums (i := k) (n := n) (m := m) (by assumption) hn8 hm8
          have hxl : lo + i < xs.length := by rw [Ht.out.len, hlo]; exact at_lt (by assumption) (by assumption)
          obtain ⟨b9, off9, e9, cX⟩ := getD_cell (H.out.below h.hB) (lo + i) hxl
          simp only [Option.some.injEq, Addr.mk.injEq, and_true] at e9
          obtain ⟨rfl, rfl⟩ := e9
          obtain ⟨bR, oR, rfl, cR⟩ := getD_cell (Hrw.out.below h.hB) k (by rw [hl2.out]; exact hkm)
          have hfx : f k i = fmul .f32 (row.getD k 0) (xs.getD (lo + i) 0) := by rw [← Hf.out, jF, hlo]
          have hm2 := (ch_mul (Hrow.out k hkm) (HC.out.ch hkm hin)).1
          rw [← hlo, ← hfx] at hm2
          have o1 := run_op (P := Try.prog) hm2
          rw [← Nat.add_assoc] at cX
          clear h hfx hm2 hlo
          generalize f k i = x at *
          generalize xs.getD (lo + i) 0 = y at *
          generalize row.getD k 0 = r at *
          have wq1 : IntKind.i64.wrap (lo : Int) = (lo : Int) := IntWalk.i64_in _ (by omega)
          have wq2 : IntKind.i64.wrap ((lo : Int) + (i : Int)) = (lo : Int) + (i : Int) := IntWalk.i64_in _ (by omega)
          have wq3 : (0 : Int) ≤ (lo : Int) + (i : Int) := by omega
          have wq6 : (lo : Int) + (i : Int) < (xs.length : Int) := by omega
          have wq4 : ((lo : Int) + (i : Int)).toNat = lo + i := by omega
          have wq5 : off2 + (lo + i) = off2 + lo + i := (Nat.add_assoc _ _ _).symm
          go_wp2
          refine wp_region_held_tail 22 (S := fun W' => W'.cell? ⟨w.heap.size + 1, 2, none⟩ = some (.slice ao6 (gridL f m k i).length cap6) ∧ W'.cell? ⟨g, 1, none⟩ = some (.int .i64 m) ∧ W'.cell? ⟨g, 2, none⟩ = some (.slice (some ⟨b2, off2, none⟩) xs.length cap) ∧ W'.cell? ⟨b2, off2 + lo + i, none⟩ = some (eF y) ∧ W'.cell? ⟨bR, oR + k, none⟩ = some (eF r) ∧ Below (w.heap.size + 2) wr W') (by kernel_rfl) (by decide +kernel) ?_ (fun hHeld => ?_)
          · (go_split_ands; refine ⟨?_, ?_, ?_, ?_, ?_, ?_⟩ <;> first | assumption | exact cnext (by assumption) (by assumption) | exact bup (by assumption) hsz2 (by assumption) | exact cnext (show Below _ _ (World.alloc _ _) by go_grown) (by assumption) | exact bup (by assumption) hsz2 (show Below _ _ (World.alloc _ _) by go_grown))
          simp only [List.take_succ_cons, List.take_zero, List.drop_succ_cons, List.drop_zero, List.length_cons, List.length_nil, Nat.reduceAdd]
          refine wpAnyH_tk (i := 0) (v := ?_) (some 33) rfl rfl (by kernel_rfl) (by decide +kernel) (by decide +kernel) (fun _ _ _ h => h) (by kernel_rfl) ?_ hHeld ?_
          rotate_left
          · (intro w hSw; (try dsimp only at hSw); go_simp <;> with_reducible rfl)
          (try simp only [Act.put, List.setIfInBounds_toArray, List.set_cons_zero, List.set_cons_succ])
          refine wpAnyH_tk (i := 1) (v := ?_) (some 34) rfl rfl (by kernel_rfl) (by decide +kernel) (by decide +kernel) (fun _ _ _ h => h) (by kernel_rfl) ?_ hHeld ?_
          rotate_left
          · (intro w hSw; (try dsimp only at hSw); go_simp <;> with_reducible rfl)
          (try simp only [Act.put, List.setIfInBounds_toArray, List.set_cons_zero, List.set_cons_succ])
          refine wpAnyH_tk (i := 2) (v := ?_) (some 35) rfl rfl (by kernel_rfl) (by decide +kernel) (by decide +kernel) (fun _ _ _ h => h) (by kernel_rfl) ?_ hHeld ?_
          rotate_left
          · (intro w hSw; (try dsimp only at hSw); go_simp <;> with_reducible rfl)
          (try simp only [Act.put, List.setIfInBounds_toArray, List.set_cons_zero, List.set_cons_succ])
          refine wpAnyH_tk (i := 3) (v := ?_) (some 36) rfl rfl (by kernel_rfl) (by decide +kernel) (by decide +kernel) (fun _ _ _ h => h) (by kernel_rfl) ?_ hHeld ?_
          rotate_left
          · (intro w hSw; (try dsimp only at hSw); go_simp <;> with_reducible rfl)
          (try simp only [Act.put, List.setIfInBounds_toArray, List.set_cons_zero, List.set_cons_succ])
          refine wpAnyH_tk (i := 4) (v := ?_) (some 37) rfl rfl (by kernel_rfl) (by decide +kernel) (by decide +kernel) (fun _ _ _ h => h) (by kernel_rfl) ?_ hHeld ?_
          rotate_left
          · (intro w hSw; (try dsimp only at hSw); go_simp <;> with_reducible rfl)
          (try simp only [Act.put, List.setIfInBounds_toArray, List.set_cons_zero, List.set_cons_succ])
          refine wpAnyH_tk (i := 5) (v := ?_) (some 38) rfl rfl (by kernel_rfl) (by decide +kernel) (by decide +kernel) (fun _ _ _ h => h) (by kernel_rfl) ?_ hHeld ?_
          rotate_left
          · (intro w hSw; (try dsimp only at hSw); go_simp <;> with_reducible rfl)
          (try simp only [Act.put, List.setIfInBounds_toArray, List.set_cons_zero, List.set_cons_succ])
          refine wpAnyH_tk (i := 6) (v := ?_) (some 39) rfl rfl (by kernel_rfl) (by decide +kernel) (by decide +kernel) (fun _ _ _ h => h) (by kernel_rfl) ?_ hHeld ?_
          rotate_left
          · (intro w hSw; (try dsimp only at hSw); go_simp <;> with_reducible rfl)
          (try simp only [Act.put, List.setIfInBounds_toArray, List.set_cons_zero, List.set_cons_succ])
          refine wpAnyH_tk (i := 7) (v := ?_) (some 40) rfl rfl (by kernel_rfl) (by decide +kernel) (by decide +kernel) (fun _ _ _ h => h) (by kernel_rfl) ?_ hHeld ?_
          rotate_left
          · (intro w hSw; (try dsimp only at hSw); go_simp <;> with_reducible rfl)
          (try simp only [Act.put, List.setIfInBounds_toArray, List.set_cons_zero, List.set_cons_succ])
          refine wpAnyH_tk (i := 8) (v := ?_) (some 41) rfl rfl (by kernel_rfl) (by decide +kernel) (by decide +kernel) (fun _ _ _ h => h) (by kernel_rfl) ?_ hHeld ?_
          rotate_left
          · (intro w hSw; (try dsimp only at hSw); go_simp <;> with_reducible rfl)
          (try simp only [Act.put, List.setIfInBounds_toArray, List.set_cons_zero, List.set_cons_succ])
          refine wpAnyH_tk (i := 9) (v := ?_) (some 42) rfl rfl (by kernel_rfl) (by decide +kernel) (by decide +kernel) (fun _ _ _ h => h) (by kernel_rfl) ?_ hHeld ?_
          rotate_left
          · (intro w hSw; (try dsimp only at hSw); go_simp <;> with_reducible rfl)
          (try simp only [Act.put, List.setIfInBounds_toArray, List.set_cons_zero, List.set_cons_succ])
          refine wpAnyH_tk (i := 10) (v := ?_) (some 43) rfl rfl (by kernel_rfl) (by decide +kernel) (by decide +kernel) (fun _ _ _ h => h) (by kernel_rfl) ?_ hHeld ?_
          rotate_left
          · (intro w hSw; (try dsimp only at hSw); go_simp <;> with_reducible rfl)
          (try simp only [Act.put, List.setIfInBounds_toArray, List.set_cons_zero, List.set_cons_succ])
          refine wpAnyH_tk (i := 11) (v := ?_) (some 44) rfl rfl (by kernel_rfl) (by decide +kernel) (by decide +kernel) (fun _ _ _ h => h) (by kernel_rfl) ?_ hHeld ?_
          rotate_left
          · (intro w hSw; (try dsimp only at hSw); go_simp <;> with_reducible rfl)
          (try simp only [Act.put, List.setIfInBounds_toArray, List.set_cons_zero, List.set_cons_succ])
          refine wpAnyH_tk (i := 12) (v := ?_) (some 45) rfl rfl (by kernel_rfl) (by decide +kernel) (by decide +kernel) (fun _ _ _ h => h) (by kernel_rfl) ?_ hHeld ?_
          rotate_left
          · (intro w hSw; (try dsimp only at hSw); go_simp <;> with_reducible rfl)
          (try simp only [Act.put, List.setIfInBounds_toArray, List.set_cons_zero, List.set_cons_succ])
          refine wpAnyH_tk (i := 13) (v := ?_) (some 46) rfl rfl (by kernel_rfl) (by decide +kernel) (by decide +kernel) (fun _ _ _ h => h) (by kernel_rfl) ?_ hHeld ?_
          rotate_left
          · (intro w hSw; (try dsimp only at hSw); go_simp <;> with_reducible rfl)
          (try simp only [Act.put, List.setIfInBounds_toArray, List.set_cons_zero, List.set_cons_succ])
          refine wpAnyH_tk (i := 14) (v := ?_) (some 47) rfl rfl (by kernel_rfl) (by decide +kernel) (by decide +kernel) (fun _ _ _ h => h) (by kernel_rfl) ?_ hHeld ?_
          rotate_left
          · (intro w hSw; (try dsimp only at hSw); go_simp <;> with_reducible rfl)
          (try simp only [Act.put, List.setIfInBounds_toArray, List.set_cons_zero, List.set_cons_succ])
          refine wpAnyH_tk (i := 15) (v := ?_) (some 48) rfl rfl (by kernel_rfl) (by decide +kernel) (by decide +kernel) (fun _ _ _ h => h) (by kernel_rfl) ?_ hHeld ?_
          rotate_left
          · (intro w hSw; (try dsimp only at hSw); go_simp <;> with_reducible rfl)
          (try simp only [Act.put, List.setIfInBounds_toArray, List.set_cons_zero, List.set_cons_succ])
          refine wpAnyH_tk (i := 16) (v := ?_) (some 49) rfl rfl (by kernel_rfl) (by decide +kernel) (by decide +kernel) (fun _ _ _ h => h) (by kernel_rfl) ?_ hHeld ?_
          rotate_left
          · (intro w hSw; (try dsimp only at hSw); go_simp <;> with_reducible rfl)
          (try simp only [Act.put, List.setIfInBounds_toArray, List.set_cons_zero, List.set_cons_succ])
          refine wpAnyH_tk (i := 17) (v := ?_) (some 50) rfl rfl (by kernel_rfl) (by decide +kernel) (by decide +kernel) (fun _ _ _ h => h) (by kernel_rfl) ?_ hHeld ?_
          rotate_left
          · (intro w hSw; (try dsimp only at hSw); go_simp <;> with_reducible rfl)
          (try simp only [Act.put, List.setIfInBounds_toArray, List.set_cons_zero, List.set_cons_succ])
          refine wpAnyH_tk (i := 18) (v := ?_) (some 51) rfl rfl (by kernel_rfl) (by decide +kernel) (by decide +kernel) (fun _ _ _ h => h) (by kernel_rfl) ?_ hHeld ?_
          rotate_left
          · (intro w hSw; (try dsimp only at hSw); go_simp <;> with_reducible rfl)
          (try simp only [Act.put, List.setIfInBounds_toArray, List.set_cons_zero, List.set_cons_succ])
          refine wpAnyH_tk (i := 19) (v := ?_) (some 52) rfl rfl (by kernel_rfl) (by decide +kernel) (by decide +kernel) (fun _ _ _ h => h) (by kernel_rfl) ?_ hHeld ?_
          rotate_left
          · (intro w hSw; (try dsimp only at hSw); go_simp <;> with_reducible rfl)
          (try simp only [Act.put, List.setIfInBounds_toArray, List.set_cons_zero, List.set_cons_succ])
          refine wpAnyH_tk (i := 20) (v := ?_) (some 53) rfl rfl (by kernel_rfl) (by decide +kernel) (by decide +kernel) (fun _ _ _ h => h) (by kernel_rfl) ?_ hHeld ?_
          rotate_left
          · (intro w hSw; (try dsimp only at hSw); go_simp <;> with_reducible rfl)
          (try simp only [Act.put, List.setIfInBounds_toArray, List.set_cons_zero, List.set_cons_succ])
          refine wpAnyH_ready (rs := [21]) (by kernel_rfl) (by simp) ?_
          refine AllReadyH.cons rfl (fun K hK => ?_) AllReadyH.nil
          go_simp
          refine hK.out _ _ ?_ (fun hHeld => ?_)
          · exact ⟨cnext (hba x) c2, cnext (hba x) a1, cnext (hba x) a2, cnext (hba x) cX, cnext (hba x) cR, bup (Below.refl (w.heap.size + 2) wr) hsz2 (hba x)⟩
          clear hK K
          (try simp only [Act.put, List.setIfInBounds_toArray, List.set_cons_zero, List.set_cons_succ])
          refine wpAnyH_done (by kernel_rfl) ?_ _
          show wpList _ _ _ _ _ _
          show wpList _ _ _ _ _ (wr.drew.alloc (.cells #[eF x] 36))
          refine app_flts rfl _ _ rfl (w.heap.size + 2) (w.heap.size + 2) (Nat.le_refl _) (.slice ao6 (gridL f m k i).length cap6) (gridL f m k i) rfl (own_below hbb HH.out.o) hbb2 _ _ [x] rfl rfl (by rw [Hlen.out]; simp; omega) (Nat.le_trans hsz2 hbb.size) ?_
          intro v6 w6 hown6 hB6 hg6
          rw [← Hsn.out] at hown6
          obtain ⟨ao7, cap7, rfl⟩ := hown6.shape
          have HN := Lib.hid (HH.out.next hB6 hown6)
          have hc6 := cell3 (blk_below hB6 (by omega) HH.out.c)
          obtain ⟨e0, e1, e2, g0, g1, g2⟩ := hc6
          clear c0 c1 c2 d0 d1 d2 a0 a1 a2 cX hHeld hown6 hB6 hg6
          go_wp2
          go_roundw
          case rel => exact ⟨i + 1, _, by go_num, by omega, HN.out⟩
          case measure => simp [intOf]; omega
        · have hin2 : i = m := by omega
          have hiI : ¬ (i : Int) < (m : Int) := by omega
          have HH2 := Lib.hid (show TwS 33 w wr g n m (.slice (some ⟨b2, off2, none⟩) xs.length cap) n m (.slice ao6 (gridL f m k i).length cap6) (gridL f m (k + 1) 0) by rw [← grid_row]; have := HH.out; rw [hin2] at this ⊢; exact this)
          clear hin2
          go_wp2
          go_roundw
          case rel => exact ⟨k + 1, _, by go_num, by omega, HH2.out⟩
          case measure => simp [intOf]; omega
    · have hkm2 : k = n := by omega
      have hkI : ¬ (k : Int) < (n : Int) := by omega
      have hjl : gridL f m k 0 = jL row xs n m := by rw [hkm2, ← Hf.out]; rfl
      rw [hjl] at h
      obtain ⟨ao6, cap6, rfl⟩ := h.o.shape
      obtain ⟨c0, c1, c2, d0, d1, d2⟩ := cell3 h.c
      obtain ⟨r0, r1, r2, q0, q1, q2⟩ := cell3 h.r
      have hfB := below3 h.hB w.heap.size (Nat.le_refl _) (.int .i64 n) (.int .i64 m) (.slice ao6 (jL row xs n m).length cap6)
      have hfO := h.o.og.box3 w.heap.size (by omega) (.int .i64 n) (.int .i64 m) (.slice ao6 (jL row xs n m).length cap6)
      have HF := Lib.hid (And.intro (Og.mono (show w.heap.size ≤ w.heap.size + 2 by omega) hfO) hfB)
      clear hfB hfO h hjl hkm2
      go_wp2
      exact bodyPost_ret (v := .agg #[.int .i64 n, .int .i64 m, .slice ao6 (jL row xs n m).length cap6]) (by simp [results, Try.results63, go_sem, r0, r1, r2]) rfl ⟨_, rfl, HF.out.1, HF.out.2⟩
end Go.Proofs.Ytiejljlmbpgbiaa
