/- SideChannels in the program. Conditions: two valid channels, not too many letters of both. -/
import Derived.Test.YtiejljlmbpgbiaaMds2
import Derived.Test.YtiejljlmbpgbiaaChnI
namespace Go.Proofs.Ytiejljlmbpgbiaa
open Go.RowKit
set_option maxRecDepth 100000
set_option linter.unusedVariables false
set_option linter.unusedSimpArgs false

def sdF (xa xb : List Nat) (ma nb mb i k : Nat) : Nat := fmul .f32 (xa.getD (i / nb * ma + k / mb) 0) (xb.getD (i % nb * mb + k % mb) 0)
set_option maxHeartbeats 2000000 in
theorem side1_any (ga gb na ma nb mb ba oa pa bb ob pb : Nat) (xa xb : List Nat) (i k : Nat) (w : World) (hA : ChP w ga na ma (.slice (some ⟨ba, oa, none⟩) xa.length pa)) (hB : ChP w gb nb mb (.slice (some ⟨bb, ob, none⟩) xb.length pb))
    (h0 : Rg eF w (.slice (some ⟨ba, oa, none⟩) xa.length pa) xa) (h1 : Rg eF w (.slice (some ⟨bb, ob, none⟩) xb.length pb) xb) (ca : ChanOk na ma xa) (cb : ChanOk nb mb xb) (hi : i < na * nb) (hk : k < ma * mb) :
    Calls Try.prog 49 #[.int .i64 i, .int .i64 k, .pointer (some ⟨ga, 0, none⟩), .pointer (some ⟨gb, 0, none⟩)] w fun e w' => e = .returned (eF (sdF xa xb ma nb mb i k)) ∧ Below w.heap.size w w' := by
  have hn1 := cb.n1
  have hn8 := cb.n8
  have hm1 := cb.m1
  have hm8 := cb.m8
  have ha8 := ca.n8
  have hma8 := ca.m8
  have hma1 := ca.m1
  obtain ⟨_, _, -, -, cpa1, cpa2, -⟩ := h0.sub 0 1 (by decide) (by rw [ca.len]; have := Nat.mul_pos ca.n1 ca.m1; omega)
  obtain ⟨_, _, -, -, cpb1, cpb2, -⟩ := h1.sub 0 1 (by decide) (by rw [cb.len]; have := Nat.mul_pos cb.n1 cb.m1; omega)
  have q1 : i / nb < na := Nat.div_lt_of_lt_mul (by rwa [Nat.mul_comm] at hi)
  have q2 : i % nb < nb := Nat.mod_lt _ (by omega)
  have q3 : k / mb < ma := Nat.div_lt_of_lt_mul (by rwa [Nat.mul_comm] at hk)
  have q4 : k % mb < mb := Nat.mod_lt _ (by omega)
  have hi64 : i ≤ 64 := by have := Nat.mul_le_mul ha8 hn8; omega
  have hk64 : k ≤ 64 := by have := Nat.mul_le_mul hma8 hm8; omega
  have hF : sdF xa xb ma nb mb i k = fmul .f32 (xa.getD (i / nb * ma + k / mb) 0) (xb.getD (i % nb * mb + k % mb) 0) := rfl
  have hmul := (ch_mul (ca.ch q1 q3) (cb.ch q2 q4)).1
  have t1 : Int.tdiv (i : Int) (nb : Int) = ((i / nb : Nat) : Int) := by rw [Int.tdiv_eq_ediv_of_nonneg (by omega)]; exact (Int.natCast_ediv i nb).symm
  have t2 : Int.tdiv (k : Int) (mb : Int) = ((k / mb : Nat) : Int) := by rw [Int.tdiv_eq_ediv_of_nonneg (by omega)]; exact (Int.natCast_ediv k mb).symm
  have t3 : Int.tmod (i : Int) (nb : Int) = ((i % nb : Nat) : Int) := by rw [Int.tmod_eq_emod_of_nonneg (by omega)]; exact (Int.natCast_emod i nb).symm
  have t4 : Int.tmod (k : Int) (mb : Int) = ((k % mb : Nat) : Int) := by rw [Int.tmod_eq_emod_of_nonneg (by omega)]; exact (Int.natCast_emod k mb).symm
  have u1 : (i : Int) / (nb : Int) = ((i / nb : Nat) : Int) := (Int.natCast_ediv i nb).symm
  have u2 : (k : Int) / (mb : Int) = ((k / mb : Nat) : Int) := (Int.natCast_ediv k mb).symm
  have u3 : (i : Int) % (nb : Int) = ((i % nb : Nat) : Int) := (Int.natCast_emod i nb).symm
  have u4 : (k : Int) % (mb : Int) = ((k % mb : Nat) : Int) := (Int.natCast_emod k mb).symm
  have v1 : i / nb ≤ 64 := Nat.le_trans (Nat.div_le_self _ _) hi64
  have v2 : k / mb ≤ 64 := Nat.le_trans (Nat.div_le_self _ _) hk64
  generalize i / nb = i1 at *
  generalize i % nb = i2 at *
  generalize k / mb = k1 at *
  generalize k % mb = k2 at *
  obtain ⟨loa, hloa, la1, la2, -, -⟩ := row_nums q1 ha8 hma8
  obtain ⟨lob, hlob, lb1, lb2, -, -⟩ := row_nums q2 hn8 hm8
  have hxa : loa + k1 < xa.length := by rw [ca.len, hloa]; exact at_lt q1 q3
  have hxb : lob + k2 < xb.length := by rw [cb.len, hlob]; exact at_lt q2 q4
  obtain ⟨b9, o9, e9, cA⟩ := getD_cell h0 (loa + k1) hxa
  simp only [Option.some.injEq, Addr.mk.injEq, and_true] at e9
  obtain ⟨rfl, rfl⟩ := e9
  obtain ⟨b9, o9, e9, cB⟩ := getD_cell h1 (lob + k2) hxb
  simp only [Option.some.injEq, Addr.mk.injEq, and_true] at e9
  obtain ⟨rfl, rfl⟩ := e9
  have hcA := fun W => implRow_at na ma i1 ba oa xa.length pa W ha8 hma8 hma1 ca.len q1 cpa1 cpa2
  have hcB := fun W => implRow_at nb mb i2 bb ob xb.length pb W hn8 hm8 hm1 cb.len q2 cpb1 cpb2
  rw [← hloa, ← hlob] at hF hmul
  simp only [← hloa] at hcA
  simp only [← hlob] at hcB
  rw [← hF] at hmul
  have o1 := run_op (P := Try.prog) hmul
  rw [← Nat.add_assoc] at cA cB
  have HA := Lib.hid hcA
  have HBc := Lib.hid hcB
  obtain ⟨a0, a1, a2⟩ := hA
  obtain ⟨b0, b1, b2⟩ := hB
  have n0 : (nb : Int) ≠ 0 := by omega
  have m0 : (mb : Int) ≠ 0 := by omega
  have n0' : nb ≠ 0 := by omega
  have m0' : mb ≠ 0 := by omega
  have w1 : IntKind.i64.wrap (i1 : Int) = i1 := IntWalk.i64_in _ (by omega)
  have w2 : IntKind.i64.wrap (i2 : Int) = i2 := IntWalk.i64_in _ (by omega)
  have w3 : IntKind.i64.wrap (k1 : Int) = k1 := IntWalk.i64_in _ (by omega)
  have w4 : IntKind.i64.wrap (k2 : Int) = k2 := IntWalk.i64_in _ (by omega)
  have x1 : (k1 : Int) < (ma : Int) := by omega
  have x2 : (k2 : Int) < (mb : Int) := by omega
  have hbb : Below w.heap.size w w.drew := (Below.refl _ _).drew
  clear hF hmul hcA hcB h0 h1 ca cb hloa hlob hi hk
  generalize sdF xa xb ma nb mb i k = z at *
  generalize xa.getD (loa + k1) 0 = x at *
  generalize xb.getD (lob + k2) 0 = y at *
  go_enter Try.func49, Try.ntmps49
  go_wp2
  refine wp_region_held_tail 25 (S := fun W' => W'.cell? ⟨ga, 0, none⟩ = some (.int .i64 na) ∧ W'.cell? ⟨ga, 1, none⟩ = some (.int .i64 ma) ∧ W'.cell? ⟨ga, 2, none⟩ = some (.slice (some ⟨ba, oa, none⟩) xa.length pa) ∧ W'.cell? ⟨gb, 0, none⟩ = some (.int .i64 nb) ∧ W'.cell? ⟨gb, 1, none⟩ = some (.int .i64 mb) ∧ W'.cell? ⟨gb, 2, none⟩ = some (.slice (some ⟨bb, ob, none⟩) xb.length pb) ∧ W'.cell? ⟨ba, oa + loa + k1, none⟩ = some (eF x) ∧ W'.cell? ⟨bb, ob + lob + k2, none⟩ = some (eF y) ∧ Below w.heap.size w W') (by kernel_rfl) (by decide +kernel) ?_ (fun hHeld => ?_)
  · (go_split_ands; refine ⟨?_, ?_, ?_, ?_, ?_, ?_, ?_, ?_, ?_⟩ <;> first | assumption | exact cnext (by assumption) (by assumption) | exact bnext (by assumption) (by assumption))
  simp only [List.take_succ_cons, List.take_zero, List.drop_succ_cons, List.drop_zero, List.length_cons, List.length_nil, Nat.reduceAdd]
  refine wpAnyH_tk (i := 0) (v := ?_) (some 7) rfl rfl (by kernel_rfl) (by decide +kernel) (by decide +kernel) (fun _ _ _ h => h) (by kernel_rfl) ?_ hHeld ?_
  rotate_left
  · (intro w hSw; (try dsimp only at hSw); go_simp <;> with_reducible rfl)
  (try simp only [Act.put, List.setIfInBounds_toArray, List.set_cons_zero, List.set_cons_succ])
  refine wpAnyH_tk (i := 1) (v := ?_) (some 8) rfl rfl (by kernel_rfl) (by decide +kernel) (by decide +kernel) (fun _ _ _ h => h) (by kernel_rfl) ?_ hHeld ?_
  rotate_left
  · (intro w hSw; (try dsimp only at hSw); go_simp <;> with_reducible rfl)
  (try simp only [Act.put, List.setIfInBounds_toArray, List.set_cons_zero, List.set_cons_succ])
  refine wpAnyH_tk (i := 2) (v := ?_) (some 9) rfl rfl (by kernel_rfl) (by decide +kernel) (by decide +kernel) (fun _ _ _ h => h) (by kernel_rfl) ?_ hHeld ?_
  rotate_left
  · (intro w hSw; (try dsimp only at hSw); go_simp <;> with_reducible rfl)
  (try simp only [Act.put, List.setIfInBounds_toArray, List.set_cons_zero, List.set_cons_succ])
  refine wpAnyH_tk (i := 3) (v := ?_) (some 10) rfl rfl (by kernel_rfl) (by decide +kernel) (by decide +kernel) (fun _ _ _ h => h) (by kernel_rfl) ?_ hHeld ?_
  rotate_left
  · (intro w hSw; (try dsimp only at hSw); go_simp <;> with_reducible rfl)
  (try simp only [Act.put, List.setIfInBounds_toArray, List.set_cons_zero, List.set_cons_succ])
  refine wpAnyH_tk (i := 4) (v := ?_) (some 11) rfl rfl (by kernel_rfl) (by decide +kernel) (by decide +kernel) (fun _ _ _ h => h) (by kernel_rfl) ?_ hHeld ?_
  rotate_left
  · (intro w hSw; (try dsimp only at hSw); go_simp <;> with_reducible rfl)
  (try simp only [Act.put, List.setIfInBounds_toArray, List.set_cons_zero, List.set_cons_succ])
  refine wpAnyH_tk (i := 6) (v := ?_) (some 13) rfl rfl (by kernel_rfl) (by decide +kernel) (by decide +kernel) (fun _ _ _ h => h) (by kernel_rfl) ?_ hHeld ?_
  rotate_left
  · (intro w hSw; (try dsimp only at hSw); go_simp <;> with_reducible rfl)
  (try simp only [Act.put, List.setIfInBounds_toArray, List.set_cons_zero, List.set_cons_succ])
  refine wpAnyH_tk (i := 7) (v := ?_) (some 14) rfl rfl (by kernel_rfl) (by decide +kernel) (by decide +kernel) (fun _ _ _ h => h) (by kernel_rfl) ?_ hHeld ?_
  rotate_left
  · (intro w hSw; (try dsimp only at hSw); go_simp <;> with_reducible rfl)
  (try simp only [Act.put, List.setIfInBounds_toArray, List.set_cons_zero, List.set_cons_succ])
  refine wpAnyH_tk (i := 8) (v := ?_) (some 15) rfl rfl (by kernel_rfl) (by decide +kernel) (by decide +kernel) (fun _ _ _ h => h) (by kernel_rfl) ?_ hHeld ?_
  rotate_left
  · (intro w hSw; (try dsimp only at hSw); go_simp <;> with_reducible rfl)
  (try simp only [Act.put, List.setIfInBounds_toArray, List.set_cons_zero, List.set_cons_succ])
  refine wpAnyH_tk (i := 9) (v := ?_) (some 16) rfl rfl (by kernel_rfl) (by decide +kernel) (by decide +kernel) (fun _ _ _ h => h) (by kernel_rfl) ?_ hHeld ?_
  rotate_left
  · (intro w hSw; (try dsimp only at hSw); go_simp <;> with_reducible rfl)
  (try simp only [Act.put, List.setIfInBounds_toArray, List.set_cons_zero, List.set_cons_succ])
  refine wpAnyH_tk (i := 12) (v := ?_) (some 19) rfl rfl (by kernel_rfl) (by decide +kernel) (by decide +kernel) (fun _ _ _ h => h) (by kernel_rfl) ?_ hHeld ?_
  rotate_left
  · (intro w hSw; (try dsimp only at hSw); go_simp <;> with_reducible rfl)
  (try simp only [Act.put, List.setIfInBounds_toArray, List.set_cons_zero, List.set_cons_succ])
  refine wpAnyH_tk (i := 13) (v := ?_) (some 20) rfl rfl (by kernel_rfl) (by decide +kernel) (by decide +kernel) (fun _ _ _ h => h) (by kernel_rfl) ?_ hHeld ?_
  rotate_left
  · (intro w hSw; (try dsimp only at hSw); go_simp <;> with_reducible rfl)
  (try simp only [Act.put, List.setIfInBounds_toArray, List.set_cons_zero, List.set_cons_succ])
  refine wpAnyH_tk (i := 14) (v := ?_) (some 21) rfl rfl (by kernel_rfl) (by decide +kernel) (by decide +kernel) (fun _ _ _ h => h) (by kernel_rfl) ?_ hHeld ?_
  rotate_left
  · (intro w hSw; (try dsimp only at hSw); go_simp <;> with_reducible rfl)
  (try simp only [Act.put, List.setIfInBounds_toArray, List.set_cons_zero, List.set_cons_succ])
  refine wpAnyH_tk (i := 15) (v := ?_) (some 22) rfl rfl (by kernel_rfl) (by decide +kernel) (by decide +kernel) (fun _ _ _ h => h) (by kernel_rfl) ?_ hHeld ?_
  rotate_left
  · (intro w hSw; (try dsimp only at hSw); go_simp <;> with_reducible rfl)
  (try simp only [Act.put, List.setIfInBounds_toArray, List.set_cons_zero, List.set_cons_succ])
  refine wpAnyH_tk (i := 16) (v := ?_) (some 23) rfl rfl (by kernel_rfl) (by decide +kernel) (by decide +kernel) (fun _ _ _ h => h) (by kernel_rfl) ?_ hHeld ?_
  rotate_left
  · (intro w hSw; (try dsimp only at hSw); go_simp <;> with_reducible rfl)
  (try simp only [Act.put, List.setIfInBounds_toArray, List.set_cons_zero, List.set_cons_succ])
  refine wpAnyH_tk (i := 18) (v := ?_) (some 25) rfl rfl (by kernel_rfl) (by decide +kernel) (by decide +kernel) (fun _ _ _ h => h) (by kernel_rfl) ?_ hHeld ?_
  rotate_left
  · (intro w hSw; (try dsimp only at hSw); go_simp <;> with_reducible rfl)
  (try simp only [Act.put, List.setIfInBounds_toArray, List.set_cons_zero, List.set_cons_succ])
  refine wpAnyH_tk (i := 19) (v := ?_) (some 26) rfl rfl (by kernel_rfl) (by decide +kernel) (by decide +kernel) (fun _ _ _ h => h) (by kernel_rfl) ?_ hHeld ?_
  rotate_left
  · (intro w hSw; (try dsimp only at hSw); go_simp <;> with_reducible rfl)
  (try simp only [Act.put, List.setIfInBounds_toArray, List.set_cons_zero, List.set_cons_succ])
  refine wpAnyH_tk (i := 20) (v := ?_) (some 27) rfl rfl (by kernel_rfl) (by decide +kernel) (by decide +kernel) (fun _ _ _ h => h) (by kernel_rfl) ?_ hHeld ?_
  rotate_left
  · (intro w hSw; (try dsimp only at hSw); go_simp <;> with_reducible rfl)
  (try simp only [Act.put, List.setIfInBounds_toArray, List.set_cons_zero, List.set_cons_succ])
  refine wpAnyH_tk (i := 21) (v := ?_) (some 28) rfl rfl (by kernel_rfl) (by decide +kernel) (by decide +kernel) (fun _ _ _ h => h) (by kernel_rfl) ?_ hHeld ?_
  rotate_left
  · (intro w hSw; (try dsimp only at hSw); go_simp <;> with_reducible rfl)
  (try simp only [Act.put, List.setIfInBounds_toArray, List.set_cons_zero, List.set_cons_succ])
  refine wpAnyH_ready (rs := [5]) (by kernel_rfl) (by simp) ?_
  refine AllReadyH.cons rfl (fun K hK => ?_) AllReadyH.nil
  go_simp
  with_reducible refine Calls.mono (HA.out _) ?_
  rintro e w3 ⟨rfl, hb3⟩
  try go_wp2_with fail
  refine hK.out _ _ ?_ (fun hHeld => ?_)
  · (go_split_ands; refine ⟨?_, ?_, ?_, ?_, ?_, ?_, ?_, ?_, ?_⟩ <;> first | assumption | exact cnext (by assumption) (by assumption) | exact bnext (by assumption) (by assumption))
  clear hK K
  (try simp only [Act.put, List.setIfInBounds_toArray, List.set_cons_zero, List.set_cons_succ])
  refine wpAnyH_tk (i := 10) (v := ?_) (some 17) rfl rfl (by kernel_rfl) (by decide +kernel) (by decide +kernel) (fun _ _ _ h => h) (by kernel_rfl) ?_ hHeld ?_
  rotate_left
  · (intro w hSw; (try dsimp only at hSw); go_simp <;> with_reducible rfl)
  (try simp only [Act.put, List.setIfInBounds_toArray, List.set_cons_zero, List.set_cons_succ])
  refine wpAnyH_tk (i := 11) (v := ?_) (some 18) rfl rfl (by kernel_rfl) (by decide +kernel) (by decide +kernel) (fun _ _ _ h => h) (by kernel_rfl) ?_ hHeld ?_
  rotate_left
  · (intro w hSw; (try dsimp only at hSw); go_simp <;> with_reducible rfl)
  (try simp only [Act.put, List.setIfInBounds_toArray, List.set_cons_zero, List.set_cons_succ])
  refine wpAnyH_ready (rs := [17]) (by kernel_rfl) (by simp) ?_
  refine AllReadyH.cons rfl (fun K hK => ?_) AllReadyH.nil
  go_simp
  with_reducible refine Calls.mono (HBc.out _) ?_
  rintro e w4 ⟨rfl, hb4⟩
  try go_wp2_with fail
  refine hK.out _ _ ?_ (fun hHeld => ?_)
  · (go_split_ands; refine ⟨?_, ?_, ?_, ?_, ?_, ?_, ?_, ?_, ?_⟩ <;> first | assumption | exact cnext (by assumption) (by assumption) | exact bnext (by assumption) (by assumption))
  clear hK K
  (try simp only [Act.put, List.setIfInBounds_toArray, List.set_cons_zero, List.set_cons_succ])
  refine wpAnyH_tk (i := 22) (v := ?_) (some 29) rfl rfl (by kernel_rfl) (by decide +kernel) (by decide +kernel) (fun _ _ _ h => h) (by kernel_rfl) ?_ hHeld ?_
  rotate_left
  · (intro w hSw; (try dsimp only at hSw); go_simp <;> with_reducible rfl)
  (try simp only [Act.put, List.setIfInBounds_toArray, List.set_cons_zero, List.set_cons_succ])
  refine wpAnyH_tk (i := 23) (v := ?_) (some 30) rfl rfl (by kernel_rfl) (by decide +kernel) (by decide +kernel) (fun _ _ _ h => h) (by kernel_rfl) ?_ hHeld ?_
  rotate_left
  · (intro w hSw; (try dsimp only at hSw); go_simp <;> with_reducible rfl)
  (try simp only [Act.put, List.setIfInBounds_toArray, List.set_cons_zero, List.set_cons_succ])
  refine wpAnyH_tk (i := 24) (v := ?_) (some 31) rfl rfl (by kernel_rfl) (by decide +kernel) (by decide +kernel) (fun _ _ _ h => h) (by kernel_rfl) ?_ hHeld ?_
  rotate_left
  · (intro w hSw; (try dsimp only at hSw); go_simp <;> with_reducible rfl)
  (try simp only [Act.put, List.setIfInBounds_toArray, List.set_cons_zero, List.set_cons_succ])
  refine wpAnyH_done (by kernel_rfl) ?_ _
  show wpList _ _ _ _ _ _
  go_wp2
  go_ret
  exact ⟨rfl, by go_split_ands; assumption⟩
end Go.Proofs.Ytiejljlmbpgbiaa
namespace Go.Proofs.Ytiejljlmbpgbiaa
open Go.RowKit
set_option maxRecDepth 100000
set_option linter.unusedVariables false
set_option linter.unusedSimpArgs false

set_option maxHeartbeats 4000000 in
theorem side_yes (na ma nb mb : Nat) (v0 v1 : Value) (z0 z1 : List Nat) (w : World) (h0 : Rg eF w v0 z0) (h1 : Rg eF w v1 z1) (ca : ChanOk na ma z0) (cb : ChanOk nb mb z1)
    (hok : ChanOk (na * nb) (ma * mb) (gridA (sdF z0 z1 ma nb mb) (na * nb) (ma * mb))) :
    Calls Try.prog 22 #[.agg #[.int .i64 na, .int .i64 ma, v0], .agg #[.int .i64 nb, .int .i64 mb, v1]] w fun e w' => ∃ v', e = .returned (.tuple #[.agg #[.int .i64 ((na * nb : Nat) : Int), .int .i64 ((ma * mb : Nat) : Int), v'], .bool true]) ∧ Og eF w.heap.size w' v' (gridA (sdF z0 z1 ma nb mb) (na * nb) (ma * mb)) ∧ Below w.heap.size w w' := by
  have hpos0 : 0 < z0.length := by rw [ca.len]; exact Nat.mul_pos ca.n1 ca.m1
  have hpos1 : 0 < z1.length := by rw [cb.len]; exact Nat.mul_pos cb.n1 cb.m1
  obtain ⟨ao0, cap0, rfl⟩ := h0.shape
  obtain ⟨ao1, cap1, rfl⟩ := h1.shape
  obtain ⟨ba, oa, rfl, -, -, -, -⟩ := h0.sub 0 1 (by decide) (by omega)
  obtain ⟨bb, ob, rfl, -, -, -, -⟩ := h1.sub 0 1 (by decide) (by omega)
  have G0 := Lib.hid h0
  have G1 := Lib.hid h1
  obtain ⟨W0, hW0⟩ : ∃ W0, W0 = ((w.alloc (.cells #[.int .i64 na, .int .i64 ma, .slice (some ⟨ba, oa, none⟩) z0.length cap0] 27)).alloc (.cells #[.int .i64 nb, .int .i64 mb, .slice (some ⟨bb, ob, none⟩) z1.length cap1] 27)).alloc (.cells #[.int .i64 0, .int .i64 0, .slice none 0 0] 27) := ⟨_, rfl⟩
  have hB0 : Below w.heap.size w W0 := by rw [hW0]; go_grown
  have hA0 : ChP W0 w.heap.size na ma (.slice (some ⟨ba, oa, none⟩) z0.length cap0) := by rw [hW0]; exact ⟨by simp [go_sem], by simp [go_sem], by simp [go_sem]⟩
  have hA1 : ChP W0 (w.heap.size + 1) nb mb (.slice (some ⟨bb, ob, none⟩) z1.length cap1) := by rw [hW0]; exact ⟨by simp [go_sem], by simp [go_sem], by simp [go_sem]⟩
  have hR : W0.heap[w.heap.size + 2]? = some (.cells #[.int .i64 0, .int .i64 0, .slice none 0 0] 27 (0, 0)) := by
    have := heap_alloc_new ((w.alloc (.cells #[.int .i64 na, .int .i64 ma, .slice (some ⟨ba, oa, none⟩) z0.length cap0] 27)).alloc (.cells #[.int .i64 nb, .int .i64 mb, .slice (some ⟨bb, ob, none⟩) z1.length cap1] 27)) (.cells #[.int .i64 0, .int .i64 0, .slice none 0 0] 27)
    rw [← hW0, World.size_alloc, World.size_alloc] at this; exact this
  have hi0 := fun W (hb : Below W0.heap.size W0 W) => implChan_any na ma _ z0 W (h0.below (bnext hB0 hb))
  have hi1 := fun W (hb : Below W0.heap.size W0 W) => implChan_any nb mb _ z1 W (h1.below (bnext hB0 hb))
  rw [chan_of ca] at hi0
  rw [chan_of cb] at hi1
  have hmf : ∀ (fn : Fn) (first cap : Array Value) (w : World), (Instr.makeFunc fn first cap).run Try.prog w = .ok (.func fn first cap) w := fun _ _ _ _ => rfl
  obtain ⟨a0, a1, a2⟩ := hA0
  obtain ⟨b0, b1, b2⟩ := hA1
  have HB0 := Lib.hid hB0
  have HR := Lib.hid hR
  have HA0 := Lib.hid (show ChP W0 w.heap.size na ma (.slice (some ⟨ba, oa, none⟩) z0.length cap0) from ⟨a0, a1, a2⟩)
  have HA1 := Lib.hid (show ChP W0 (w.heap.size + 1) nb mb (.slice (some ⟨bb, ob, none⟩) z1.length cap1) from ⟨b0, b1, b2⟩)
  have hn8 := hok.n8
  have hm8 := hok.m8
  have N64 := Nat.mul_le_mul ca.n8 cb.n8
  have M64 := Nat.mul_le_mul ca.m8 cb.m8
  have i1 : IntKind.i64.wrap ((na : Int) * (nb : Int)) = ((na * nb : Nat) : Int) := by rw [← Int.natCast_mul]; exact IntWalk.i64_in _ (by omega)
  have i2 : IntKind.i64.wrap ((ma : Int) * (mb : Int)) = ((ma * mb : Nat) : Int) := by rw [← Int.natCast_mul]; exact IntWalk.i64_in _ (by omega)
  have CA := Lib.hid ca
  have CB := Lib.hid cb
  have HOK := Lib.hid hok
  have EN := Lib.hid (rfl : na * nb = na * nb)
  clear hB0 hR h0 h1 ca cb hok hpos0 hpos1 N64 M64
  have hcl0 : ∀ W1, Below W0.heap.size W0 W1 → ∀ W, Below W1.heap.size W1 W → ∀ i k, i < na * nb → k < ma * mb → Calls Try.prog 49 #[.int .i64 i, .int .i64 k, .pointer (some ⟨w.heap.size, 0, none⟩), .pointer (some ⟨w.heap.size + 1, 0, none⟩)] W fun e w' => e = .returned (eF (sdF z0 z1 ma nb mb i k)) ∧ Below W.heap.size W w' := fun W1 hb1 W hb i k hi hk =>
    side1_any w.heap.size (w.heap.size + 1) na ma nb mb ba oa cap0 bb ob cap1 z0 z1 i k W (HA0.out.below (bnext hb1 hb)) (HA1.out.below (bnext hb1 hb)) (G0.out.below (bnext HB0.out (bnext hb1 hb))) (G1.out.below (bnext HB0.out (bnext hb1 hb))) CA.out CB.out hi hk
  have HM := Lib.hid (fun W1 (hb1 : Below W0.heap.size W0 W1) => madeSide_any (.pointer (some ⟨w.heap.size + 1, 0, none⟩)) (.pointer (some ⟨w.heap.size, 0, none⟩)) (na * nb) (ma * mb) (sdF z0 z1 ma nb mb) W1 HOK.out (hcl0 W1 hb1))
  clear hcl0
  generalize sdF z0 z1 ma nb mb = f at *
  generalize na * nb = n at *
  generalize ma * mb = m at *
  have n8' : ¬ (8 : Int) < (n : Int) := by omega
  have m8' : ¬ (8 : Int) < (m : Int) := by omega
  go_enter Try.func22, Try.ntmps22
  go_wp2_with fail
  rw [← hW0]
  clear hW0
  refine (hi0 _ (Below.refl _ _)).mono ?_
  rintro e w1 ⟨rfl, hb1⟩
  clear a0 a1 a2 b0 b1 b2
  obtain ⟨a0, a1, a2⟩ := HA0.out.below hb1
  obtain ⟨b0, b1, b2⟩ := HA1.out.below hb1
  go_wp2_with fail
  refine (hi1 _ hb1).mono ?_
  rintro e w2 ⟨rfl, hb2⟩
  have hbF := bnext hb1 hb2
  clear a0 a1 a2 b0 b1 b2
  obtain ⟨a0, a1, a2⟩ := HA0.out.below hbF
  obtain ⟨b0, b1, b2⟩ := HA1.out.below hbF
  have hbw := bnext HB0.out hbF
  have hmd := HM.out w2 hbF
  have hsw : w.heap.size ≤ w2.heap.size := hbw.size
  go_wp2_with fail
  refine hmd.mono ?_
  rintro e w9 ⟨v9, rfl, ho9, hb9⟩
  obtain ⟨r0, r1, r2, q0, q1, q2⟩ := cell3 (blk_next (bnext hbF hb9) HR.out)
  obtain ⟨ao9, cap9, rfl⟩ := ho9.rg.shape
  have hfB := below3 (bnext hbw hb9) (w.heap.size + 2) (by omega) (.int .i64 n) (.int .i64 m) (.slice ao9 (gridA f n m).length cap9)
  have hfO := Lib.hid (ho9.box3 (w.heap.size + 2) (blk_lt (blk_next hbF HR.out)) (.int .i64 n) (.int .i64 m) (.slice ao9 (gridA f n m).length cap9))
  clear a0 a1 a2 b0 b1 b2 ho9
  go_wp2
  exact bodyPost_ret (v := .tuple #[.agg #[.int .i64 n, .int .i64 m, .slice ao9 (gridA f n m).length cap9], .bool true]) (by simp [results, Try.results22, go_sem, r0, r1, r2]) rfl ⟨.slice ao9 (gridA f n m).length cap9, rfl, Og.mono hsw hfO.out, hfB⟩
end Go.Proofs.Ytiejljlmbpgbiaa
