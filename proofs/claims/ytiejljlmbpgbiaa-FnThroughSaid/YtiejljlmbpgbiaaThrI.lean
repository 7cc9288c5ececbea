/- What comes out of a channel: the program. Conditions: a valid channel, chances. -/
import Derived.Test.YtiejljlmbpgbiaaThrS
namespace Go.Proofs.Ytiejljlmbpgbiaa
open Go.RowKit
set_option maxRecDepth 100000
set_option linter.unusedVariables false
set_option linter.unusedSimpArgs false

set_option maxHeartbeats 400000 in
theorem implRow_at (n m i : Nat) (b off len cap : Nat) (w : World) (hn : n ≤ 8) (hm : m ≤ 8) (h1 : 1 ≤ m) (hx : len = n * m) (hi : i < n) (hc1 : len ≤ cap) (hc2 : cap ≤ maxLen) :
    Calls Try.prog 28 #[.agg #[.int .i64 n, .int .i64 m, .slice (some ⟨b, off, none⟩) len cap], .int .i64 i] w fun e w' => e = .returned (.slice (some ⟨b, off + i * m, none⟩) m m) ∧ Below w.heap.size w w' := by
  have hb : ∀ o, Below w.heap.size w (w.alloc o) := fun o => by go_grown
  obtain ⟨lo, hlo, l1, l2, e1, e2⟩ := row_nums hi hn hm
  rw [← hlo]
  have hm2 : cap ≤ 9223372036854775807 := by unfold maxLen at hc2; omega
  have hq : lo + m ≤ cap := by omega
  have Hlo := Lib.hid hlo
  clear hlo hx
  go_enter Try.func28, Try.ntmps28
  go_wp2
  go_ret
  exact ⟨congrArg (fun q => Ending.returned (Value.slice (some ⟨b, off + lo, none⟩) q q)) (Nat.add_sub_cancel_left lo m), hb _⟩
theorem ChP.far {W : World} {g : Nat} {n m : Int} {v : Value} (h : ChP W g n m v) (p : Addr) (u : Value) (hp : p.block ≠ g) : ChP (W.setCell p u) g n m v :=
  ⟨(grown_setCell W p u).cell h.1 (fun e => hp (Option.some.inj e).symm), (grown_setCell W p u).cell h.2.1 (fun e => hp (Option.some.inj e).symm), (grown_setCell W p u).cell h.2.2 (fun e => hp (Option.some.inj e).symm)⟩
theorem run_store_flt (P : Program) (w : World) (p : Addr) (m : Mode) (k : FloatKind) (b : Nat) : (store p (.float k b) m).run P w = stored P w p (.float k b) m := run_store P w p _ m rfl
attribute [local go_sem] run_store_flt
/-- What comes out at the places from the first on, the place k half done. -/
def thH (row xs : List Nat) (n m k i : Nat) : List Nat := (List.range m).map fun j => if j < k then thS row xs m j n else if j = k then thS row xs m k i else 0
theorem thH_len (row xs : List Nat) (n m k i : Nat) : (thH row xs n m k i).length = m := by simp [thH]
theorem thH_zero (row xs : List Nat) (n m : Nat) : thH row xs n m 0 0 = List.replicate m 0 := by
  refine List.ext_getElem? fun j => ?_
  by_cases hj : j < m
  · simp [thH, hj, thS]
  · rw [List.getElem?_eq_none (by rw [thH_len]; omega), List.getElem?_eq_none (by simp; omega)]
theorem thH_next (row xs : List Nat) (n m k : Nat) : thH row xs n m k n = thH row xs n m (k + 1) 0 := by
  unfold thH
  refine List.map_congr_left fun j hj => ?_
  rcases (show j < k ∨ j = k ∨ j = k + 1 ∨ k + 1 < j by omega) with h | h | h | h
  · rw [if_pos h, if_pos (by omega)]
  · rw [if_neg (by omega), if_pos h, if_pos (by omega), h]
  · rw [if_neg (by omega), if_neg (by omega), if_neg (by omega), if_pos h, thS]
  · rw [if_neg (by omega), if_neg (by omega), if_neg (by omega), if_neg (by omega)]
theorem thH_all (row xs : List Nat) (n m : Nat) : thH row xs n m m 0 = thL row xs n m m := by
  unfold thH thL
  refine List.map_congr_left fun j hj => ?_
  rw [if_pos (List.mem_range.1 hj)]
theorem thH_get (row xs : List Nat) (n m k i : Nat) (h : k < (thH row xs n m k i).length) : (thH row xs n m k i)[k] = thS row xs m k i := by simp [thH]
theorem thH_step (row xs : List Nat) (n m k i : Nat) : thH row xs n m k (i + 1) = (thH row xs n m k i).set k (thS row xs m k (i + 1)) := by
  refine List.ext_getElem? fun j => ?_
  rw [List.getElem?_set]
  by_cases hj : j < m
  · simp only [thH, List.getElem?_map, List.getElem?_range hj, Option.map_some, List.length_map, List.length_range]
    by_cases e : k = j
    · subst e; rw [if_neg (Nat.lt_irrefl _), if_pos rfl, if_pos rfl, if_pos hj]
    · have e' : ¬ j = k := fun h => e h.symm
      rw [if_neg e, if_neg e', if_neg e']
  · rw [List.getElem?_eq_none (by rw [thH_len]; omega), thH_len]
    split
    · rw [if_neg (by omega)]
    · rw [List.getElem?_eq_none (by rw [thH_len]; omega)]
set_option maxHeartbeats 4000000 in
theorem through_any (n m : Nat) (v : Value) (xs : List Nat) (u : Value) (row : List Nat) (w : World) (h : Rg eF w v xs) (h' : Rg eF w u row) (hc : ChanOk n m xs) (hn : row.length = n) (hrow : ∀ i, i < n → Ch (row.getD i 0)) :
    Calls Try.prog 27 #[.agg #[.int .i64 n, .int .i64 m, v], u] w fun e w' => ∃ v', e = .returned v' ∧ Og eF w.heap.size w' v' (thL row xs n m m) ∧ Below w.heap.size w w' := by
  have hR := Lib.hid h
  have hR' := Lib.hid h'
  have hC := Lib.hid hc
  have hRow := Lib.hid hrow
  have hm8 := hc.m8
  have hm1 := hc.m1
  have hn8 := hc.n8
  have hn1 := hc.n1
  have hpos : 0 < xs.length := by rw [hc.len]; exact Nat.mul_pos hn1 hm1
  obtain ⟨ao, cap, rfl⟩ := h.shape
  obtain ⟨b2, off2, rfl, -, cp1, cp2, -⟩ := h.sub 0 1 (by decide) (by omega)
  obtain ⟨ao', cap', rfl⟩ := h'.shape
  have hlenI := h.len
  have hlenR := h'.len
  have Hn := Lib.hid hn
  obtain ⟨i0, hi, hz0, hz1, hz2⟩ := info_parts info_flt
  have hb0 : ∀ o, Below w.heap.size w (w.alloc o) := fun o => by go_grown
  obtain ⟨w1, hr1, hob1, hg1, hs1⟩ := run_mk (enc := eF) (w.alloc (.cells #[.int .i64 n, .int .i64 m, .slice (some ⟨b2, off2, none⟩) xs.length cap] 27)) 25 36 i0 (0 : Nat) Try.underlying25 hi hz0 hz1 rfl m (by omega) (by rw [hz2]; omega) (by unfold maxLen; omega)
  have hB1 := grow_below hg1
  have hB := bnext (hb0 _) hB1
  have q0 := cnext hB1 (show (w.alloc (.cells #[.int .i64 n, .int .i64 m, .slice (some ⟨b2, off2, none⟩) xs.length cap] 27)).cell? ⟨w.heap.size, 0, none⟩ = some (.int .i64 n) by simp [go_sem])
  have q1 := cnext hB1 (show (w.alloc (.cells #[.int .i64 n, .int .i64 m, .slice (some ⟨b2, off2, none⟩) xs.length cap] 27)).cell? ⟨w.heap.size, 1, none⟩ = some (.int .i64 m) by simp [go_sem])
  have q2 := cnext hB1 (show (w.alloc (.cells #[.int .i64 n, .int .i64 m, .slice (some ⟨b2, off2, none⟩) xs.length cap] 27)).cell? ⟨w.heap.size, 2, none⟩ = some (.slice (some ⟨b2, off2, none⟩) xs.length cap) by simp [go_sem])
  have hPw : ChP w1 w.heap.size n m (.slice (some ⟨b2, off2, none⟩) xs.length cap) := ⟨q0, q1, q2⟩
  rw [World.size_alloc] at hob1 hr1
  rw [← thH_zero row xs n m] at hob1
  clear q0 q1 q2
  go_enter Try.func27, Try.ntmps27
  go_wp2_with (simp only [hr1])
  clear hr1 hg1 hs1 hi hz0 hz1 hz2 hB1 hc hrow h h' hn
  go_loopw [14] (fun kv wr => ∃ k : Nat, kv = .int .i64 k ∧ k ≤ m ∧ OB eF (w.heap.size + 1) wr (w.heap.size + 1) 0 m m (thH row xs n m k 0) ∧ ChP wr w.heap.size n m (.slice (some ⟨b2, off2, none⟩) xs.length cap) ∧ Below w.heap.size w wr) (fun kv _ => m - (intOf kv).toNat)
  case atStart => exact ⟨0, rfl, Nat.zero_le _, hob1, hPw, hB⟩
  case round =>
    clear hob1 hB hPw
    obtain ⟨k, rfl, hk, ho, hp, hB⟩ := hrel
    by_cases hkm : k < m
    · have Ho := Lib.hid ho
      have Hp := Lib.hid hp
      have HB := Lib.hid hB
      clear ho hp hB
      go_wp2
      go_loopw [19] (fun iv wi => ∃ i : Nat, iv = .int .i64 i ∧ i ≤ n ∧ OB eF (w.heap.size + 1) wi (w.heap.size + 1) 0 m m (thH row xs n m k i) ∧ ChP wi w.heap.size n m (.slice (some ⟨b2, off2, none⟩) xs.length cap) ∧ Below w.heap.size w wi) (fun iv _ => n - (intOf iv).toNat)
      case atStart => exact ⟨0, rfl, Nat.zero_le _, Ho.out, Hp.out, HB.out⟩
      case round =>
        clear Ho Hp HB
        obtain ⟨i, rfl, hi, ho, hp, hB⟩ := hrel
        by_cases hin : i < n
        · obtain ⟨lo, hlo, l1, l2, e1, -⟩ := row_nums hin hn8 hm8
          have hxl := hC.out.len
          obtain ⟨b1, off1, rfl, c1⟩ := getD_cell (hR'.out.below hB) i (by rw [Hn.out]; exact hin)
          obtain ⟨b2', off2', e2', c2⟩ := getD_cell (hR.out.below hB) (i * m + k) (by rw [hxl]; exact at_lt hin hkm)
          simp only [Option.some.injEq, Addr.mk.injEq, and_true] at e2'
          obtain ⟨rfl, rfl⟩ := e2'
          obtain ⟨g1, -⟩ := th_step hRow.out hC.out hkm i hin
          have g2 := th_add hRow.out hC.out hkm i hin
          have hirow : i < row.length := by rw [Hn.out]; exact hin
          have hcall := fun W => implRow_at n m i b2 off2 xs.length cap W hn8 hm8 hm1 hxl hin cp1 cp2
          have cO := ho.cell k (by rw [thH_len]; exact hkm)
          rw [thH_get, Nat.zero_add] at cO
          have fO := ho.free k (by rw [thH_len]; exact hkm)
          rw [Nat.zero_add] at fO
          have hst := thH_step row xs n m k i
          rw [← hlo, ← Nat.add_assoc] at c2
          rw [← hlo] at g1
          simp only [← hlo] at hcall
          have o1 := run_op (P := Try.prog) g1
          have o2 := run_op (P := Try.prog) g2
          have Hlo := Lib.hid hlo
          have Hst := Lib.hid hst
          have Hlen := Lib.hid (thH_len row xs n m k i)
          have HO := Lib.hid ho
          have HP := Lib.hid hp
          have HB := Lib.hid hB
          obtain ⟨p0, p1, p2⟩ := hp
          clear hlo hxl hst ho hB
          generalize row.getD i 0 = x at *
          generalize xs.getD (lo + k) 0 = y at *
          generalize thP row xs m k i = z at *
          generalize thS row xs m k (i + 1) = s1 at *
          generalize thS row xs m k i = s at *
          have hbb : Below wr.heap.size wr wr.drew := (Below.refl _ _).drew
          go_wp2
          refine wp_region_held_tail 16 (S := fun W' => W'.cell? ⟨w.heap.size + 1, k, none⟩ = some (eF s) ∧ W'.cell? ⟨b2, off2 + lo + k, none⟩ = some (eF y) ∧ W'.cell? ⟨w.heap.size, 0, none⟩ = some (.int .i64 n) ∧ W'.cell? ⟨w.heap.size, 1, none⟩ = some (.int .i64 m) ∧ W'.cell? ⟨w.heap.size, 2, none⟩ = some (.slice (some ⟨b2, off2, none⟩) xs.length cap) ∧ Below wr.heap.size wr W') (by kernel_rfl) (by decide +kernel) ?_ (fun hHeld => ?_)
          · (go_split_ands; refine ⟨?_, ?_, ?_, ?_, ?_, ?_⟩ <;> first | assumption | exact cnext (by assumption) (by assumption) | exact bnext (by assumption) (by assumption) | (simp [go_sem]; done))
          simp only [List.take_succ_cons, List.take_zero, List.drop_succ_cons, List.drop_zero, List.length_cons, List.length_nil, Nat.reduceAdd]
          refine wpAnyH_tk (i := 0) (v := ?_) (some 24) rfl rfl (by kernel_rfl) (by decide +kernel) (by decide +kernel) (fun _ _ _ h => h) (by kernel_rfl) ?_ hHeld ?_
          rotate_left
          · (intro w hSw; (try dsimp only at hSw); go_simp <;> with_reducible rfl)
          (try simp only [Act.put, List.setIfInBounds_toArray, List.set_cons_zero, List.set_cons_succ])
          refine wpAnyH_tk (i := 1) (v := ?_) (some 25) rfl rfl (by kernel_rfl) (by decide +kernel) (by decide +kernel) (fun _ _ _ h => h) (by kernel_rfl) ?_ hHeld ?_
          rotate_left
          · (intro w hSw; (try dsimp only at hSw); go_simp <;> with_reducible rfl)
          (try simp only [Act.put, List.setIfInBounds_toArray, List.set_cons_zero, List.set_cons_succ])
          refine wpAnyH_tk (i := 2) (v := ?_) (some 26) rfl rfl (by kernel_rfl) (by decide +kernel) (by decide +kernel) (fun _ _ _ h => h) (by kernel_rfl) ?_ hHeld ?_
          rotate_left
          · (intro w hSw; (try dsimp only at hSw); go_simp <;> with_reducible rfl)
          (try simp only [Act.put, List.setIfInBounds_toArray, List.set_cons_zero, List.set_cons_succ])
          refine wpAnyH_tk (i := 3) (v := ?_) (some 27) rfl rfl (by kernel_rfl) (by decide +kernel) (by decide +kernel) (fun _ _ _ h => h) (by kernel_rfl) ?_ hHeld ?_
          rotate_left
          · (intro w hSw; (try dsimp only at hSw); go_simp <;> with_reducible rfl)
          (try simp only [Act.put, List.setIfInBounds_toArray, List.set_cons_zero, List.set_cons_succ])
          refine wpAnyH_tk (i := 4) (v := ?_) (some 28) rfl rfl (by kernel_rfl) (by decide +kernel) (by decide +kernel) (fun _ _ _ h => h) (by kernel_rfl) ?_ hHeld ?_
          rotate_left
          · (intro w hSw; (try dsimp only at hSw); go_simp <;> with_reducible rfl)
          (try simp only [Act.put, List.setIfInBounds_toArray, List.set_cons_zero, List.set_cons_succ])
          refine wpAnyH_tk (i := 5) (v := ?_) (some 29) rfl rfl (by kernel_rfl) (by decide +kernel) (by decide +kernel) (fun _ _ _ h => h) (by kernel_rfl) ?_ hHeld ?_
          rotate_left
          · (intro w hSw; (try dsimp only at hSw); go_simp <;> with_reducible rfl)
          (try simp only [Act.put, List.setIfInBounds_toArray, List.set_cons_zero, List.set_cons_succ])
          refine wpAnyH_tk (i := 6) (v := ?_) (some 30) rfl rfl (by kernel_rfl) (by decide +kernel) (by decide +kernel) (fun _ _ _ h => h) (by kernel_rfl) ?_ hHeld ?_
          rotate_left
          · (intro w hSw; (try dsimp only at hSw); go_simp <;> with_reducible rfl)
          (try simp only [Act.put, List.setIfInBounds_toArray, List.set_cons_zero, List.set_cons_succ])
          refine wpAnyH_tk (i := 7) (v := ?_) (some 31) rfl rfl (by kernel_rfl) (by decide +kernel) (by decide +kernel) (fun _ _ _ h => h) (by kernel_rfl) ?_ hHeld ?_
          rotate_left
          · (intro w hSw; (try dsimp only at hSw); go_simp <;> with_reducible rfl)
          (try simp only [Act.put, List.setIfInBounds_toArray, List.set_cons_zero, List.set_cons_succ])
          refine wpAnyH_tk (i := 8) (v := ?_) (some 32) rfl rfl (by kernel_rfl) (by decide +kernel) (by decide +kernel) (fun _ _ _ h => h) (by kernel_rfl) ?_ hHeld ?_
          rotate_left
          · (intro w hSw; (try dsimp only at hSw); go_simp <;> with_reducible rfl)
          (try simp only [Act.put, List.setIfInBounds_toArray, List.set_cons_zero, List.set_cons_succ])
          refine wpAnyH_tk (i := 10) (v := ?_) (some 34) rfl rfl (by kernel_rfl) (by decide +kernel) (by decide +kernel) (fun _ _ _ h => h) (by kernel_rfl) ?_ hHeld ?_
          rotate_left
          · (intro w hSw; (try dsimp only at hSw); go_simp <;> with_reducible rfl)
          (try simp only [Act.put, List.setIfInBounds_toArray, List.set_cons_zero, List.set_cons_succ])
          refine wpAnyH_ready (rs := [9]) (by kernel_rfl) (by simp) ?_
          refine AllReadyH.cons rfl (fun K hK => ?_) AllReadyH.nil
          go_simp
          with_reducible refine Calls.mono (hcall _) ?_
          rintro e w4 ⟨rfl, hb4⟩
          try go_wp2_with fail
          refine hK.out _ _ ?_ (fun hHeld => ?_)
          · (go_split_ands; refine ⟨?_, ?_, ?_, ?_, ?_, ?_⟩ <;> first | assumption | exact cnext (by assumption) (by assumption) | exact bnext (by assumption) (by assumption) | (simp [go_sem]; done))
          clear hK K
          (try simp only [Act.put, List.setIfInBounds_toArray, List.set_cons_zero, List.set_cons_succ])
          refine wpAnyH_tk (i := 11) (v := ?_) (some 35) rfl rfl (by kernel_rfl) (by decide +kernel) (by decide +kernel) (fun _ _ _ h => h) (by kernel_rfl) ?_ hHeld ?_
          rotate_left
          · (intro w hSw; (try dsimp only at hSw); go_simp <;> with_reducible rfl)
          (try simp only [Act.put, List.setIfInBounds_toArray, List.set_cons_zero, List.set_cons_succ])
          refine wpAnyH_tk (i := 12) (v := ?_) (some 36) rfl rfl (by kernel_rfl) (by decide +kernel) (by decide +kernel) (fun _ _ _ h => h) (by kernel_rfl) ?_ hHeld ?_
          rotate_left
          · (intro w hSw; (try dsimp only at hSw); go_simp <;> with_reducible rfl)
          (try simp only [Act.put, List.setIfInBounds_toArray, List.set_cons_zero, List.set_cons_succ])
          refine wpAnyH_tk (i := 13) (v := ?_) (some 37) rfl rfl (by kernel_rfl) (by decide +kernel) (by decide +kernel) (fun _ _ _ h => h) (by kernel_rfl) ?_ hHeld ?_
          rotate_left
          · (intro w hSw; (try dsimp only at hSw); go_simp <;> with_reducible rfl)
          (try simp only [Act.put, List.setIfInBounds_toArray, List.set_cons_zero, List.set_cons_succ])
          refine wpAnyH_tk (i := 14) (v := ?_) (some 38) rfl rfl (by kernel_rfl) (by decide +kernel) (by decide +kernel) (fun _ _ _ h => h) (by kernel_rfl) ?_ hHeld ?_
          rotate_left
          · (intro w hSw; (try dsimp only at hSw); go_simp <;> with_reducible rfl)
          (try simp only [Act.put, List.setIfInBounds_toArray, List.set_cons_zero, List.set_cons_succ])
          refine wpAnyH_tk (i := 15) (v := ?_) (some 39) rfl rfl (by kernel_rfl) (by decide +kernel) (by decide +kernel) (fun _ _ _ h => h) (by kernel_rfl) ?_ hHeld ?_
          rotate_left
          · (intro w hSw; (try dsimp only at hSw); go_simp <;> with_reducible rfl)
          (try simp only [Act.put, List.setIfInBounds_toArray, List.set_cons_zero, List.set_cons_succ])
          refine wpAnyH_done (by kernel_rfl) ?_ _
          show wpList _ _ _ _ _ _
          have hB4 : Below wr.heap.size wr w4 := by go_split_ands; assumption
          have ho4 := HO.out.below hB4
          have hp4 := HP.out.below hB4
          have hB5 := bnext HB.out hB4
          have fO4 := ho4.free k (by rw [Hlen.out]; exact hkm)
          have cO4 := ho4.cell k (by rw [Hlen.out]; exact hkm)
          have hput := ho4.put k (by rw [Hlen.out]; exact hkm) s1
          rw [Nat.zero_add] at fO4 cO4 hput
          rw [← Hst.out] at hput
          have HF := Lib.hid (And.intro hput (And.intro (hp4.far ⟨w.heap.size + 1, k, none⟩ (eF s1) (by simp)) (hB5.setCell (p := ⟨w.heap.size + 1, k, none⟩) (Nat.le_succ _) (eF s1))))
          clear hHeld hb4 hbb hput ho4 hp4 hB5 hB4 HO HP HB cO p0 p1 p2 c1 c2 fO
          go_wp2
          go_roundw
          case rel => exact ⟨i + 1, by go_num, by omega, HF.out.1, HF.out.2.1, HF.out.2.2⟩
          case measure => simp [intOf]; omega
        · obtain rfl : i = n := by omega
          rw [thH_next] at ho
          have hge : ¬ i < row.length := by have := Hn.out; omega
          go_wp2
          go_roundw
          case rel => exact ⟨k + 1, by go_num, by omega, ho, hp, hB⟩
          case measure => simp [intOf]; omega
    · obtain rfl : k = m := by omega
      rw [thH_all] at ho
      go_wp2
      go_ret
      exact ⟨_, rfl, (ho.mono (Nat.le_succ _)).og, hB⟩
end Go.Proofs.Ytiejljlmbpgbiaa
