/- Stretched chances and the mixed chance in the reference. Conditions: few weights that are numbers, chances that come out small. -/
import Derived.Test.YthafmldcfdcngaaMxV
import Derived.Test.YthafmldcfdcngaaPop
namespace Go.Proofs.Ythafmldcfdcngaa
open Go.RowKit
set_option maxRecDepth 100000
set_option linter.unusedVariables false
set_option linter.unusedSimpArgs false

theorem alloc_up (w : World) (o : Obj) : Below w.heap.size w (w.alloc o) := (Below.refl _ _).alloc (Nat.le_refl _) _
set_option maxHeartbeats 4000000 in
theorem l05Str_any (v u : Value) (ws ps : List Nat) (w : World) (h : Rg eF w v ws) (h' : Rg eF w u ps) (hl : ws.length = ps.length) (l1 : 1 ≤ ps.length) (l4 : ps.length ≤ 4) (hw : AllN ws) (hp : AllS ps) :
    Calls Try.prog 23 #[v, u] w fun e w' => ∃ v', e = .returned (.tuple #[v', .bool true]) ∧ OwnF w.heap.size w' v' (ps.map stW) ∧ Below w.heap.size w w' := by
  have hR' := Lib.hid h'
  have hP := Lib.hid hp
  have hfin := l02Fin_yes v ws w h hw
  obtain ⟨ao, cap, rfl⟩ := h.shape
  obtain ⟨ao', cap', rfl⟩ := h'.shape
  have hlenI := h.len
  clear h h' hp hw
  rw [hl] at hfin hlenI ⊢
  clear hl
  have hn1 : ((ps.length : Int) < 1) = False := by simp; omega
  have hn2 : (16 < (ps.length : Int)) = False := by simp; omega
  go_enter Try.func23, Try.ntmps23
  go_wp2_with (go_at_call 38; refine hfin.mono ?_; rintro e w' ⟨rfl, rfl⟩)
  go_loopw [7, 31] (fun o kv wr => ∃ k : Nat, kv = .int .i64 k ∧ k ≤ ps.length ∧ OwnF w.heap.size wr o ((ps.take k).map stW) ∧ Below w.heap.size w wr) (fun _ kv _ => ps.length - (intOf kv).toNat)
  case atStart => exact ⟨0, rfl, Nat.zero_le _, ownF_empty w _ (Nat.le_refl _), by go_grown⟩
  case round =>
    obtain ⟨k, rfl, hk, hown, hB⟩ := hrel
    obtain ⟨ao1, cap1, rfl⟩ := hown.shape
    have hs1 := hB.size
    by_cases hkm : k < ps.length
    · obtain ⟨P, S, x⟩ := hP.out k hkm
      obtain ⟨b, off, rfl, -, hcs⟩ := (hR'.out.below hB).cells (by omega)
      have hc := hcs k hkm
      clear hcs
      have Hsn := Lib.hid (st_snoc ps k hkm)
      rw [show ((ps.take k).map stW).length = k by simp; omega] at hown ⊢
      have HO := Lib.hid hown
      have Hl := Lib.hid (show ((ps.take k).map stW).length = k by simp; omega)
      have o1 := run_op (P := Try.prog) x.s
      have o2 := run_op (P := Try.prog) x.d
      have t0 : (FloatKind.f32.format.order ps[k] 0 == some .gt) = true := by rw [x.o0]; rfl
      have t1 : (FloatKind.f32.format.order ps[k] 1065353216 == some .lt) = true := by rw [x.o1]; rfl
      obtain ⟨D, nD, D0⟩ := x.nd
      have hlog := fun W => l01Log_any _ _ nD D0 W
      have hst : stW ps[k] = LOG (fdiv .f32 ps[k] (fsub .f32 1065353216 ps[k])) := rfl
      have Hst := Lib.hid hst
      have HB := Lib.hid hB
      clear hst hown x hB
      generalize ps[k] = p at *
      go_wp2_with (first | simp only [t0] | simp only [t1] | fail)
      clear t0 t1
      have hbb : Below wr.heap.size wr wr.drew := (Below.refl _ _).drew
      refine wp_region_held_tail 13 (S := fun W' => W'.cell? ⟨b, off + k, none⟩ = some (eF p) ∧ Below wr.heap.size wr W') (by kernel_rfl) (by decide +kernel) ?_ (fun hHeld => ?_)
      · exact ⟨hc, hbb⟩
      simp only [List.take_succ_cons, List.take_zero, List.drop_succ_cons, List.drop_zero, List.length_cons, List.length_nil, Nat.reduceAdd]
      refine wpAnyH_tk (i := 0) (v := ?_) (some 47) rfl rfl (by kernel_rfl) (by decide +kernel) (by decide +kernel) (fun _ _ _ h => h) (by kernel_rfl) ?_ hHeld ?_
      rotate_left
      · (intro w hSw; (try dsimp only at hSw); go_simp <;> with_reducible rfl)
      (try simp only [Act.put, List.setIfInBounds_toArray, List.set_cons_zero, List.set_cons_succ])
      refine wpAnyH_tk (i := 1) (v := ?_) (some 48) rfl rfl (by kernel_rfl) (by decide +kernel) (by decide +kernel) (fun _ _ _ h => h) (by kernel_rfl) ?_ hHeld ?_
      rotate_left
      · (intro w hSw; (try dsimp only at hSw); go_simp <;> with_reducible rfl)
      (try simp only [Act.put, List.setIfInBounds_toArray, List.set_cons_zero, List.set_cons_succ])
      refine wpAnyH_tk (i := 2) (v := ?_) (some 49) rfl rfl (by kernel_rfl) (by decide +kernel) (by decide +kernel) (fun _ _ _ h => h) (by kernel_rfl) ?_ hHeld ?_
      rotate_left
      · (intro w hSw; (try dsimp only at hSw); go_simp <;> with_reducible rfl)
      (try simp only [Act.put, List.setIfInBounds_toArray, List.set_cons_zero, List.set_cons_succ])
      refine wpAnyH_tk (i := 3) (v := ?_) (some 50) rfl rfl (by kernel_rfl) (by decide +kernel) (by decide +kernel) (fun _ _ _ h => h) (by kernel_rfl) ?_ hHeld ?_
      rotate_left
      · (intro w hSw; (try dsimp only at hSw); go_simp <;> with_reducible rfl)
      (try simp only [Act.put, List.setIfInBounds_toArray, List.set_cons_zero, List.set_cons_succ])
      refine wpAnyH_tk (i := 4) (v := ?_) (some 51) rfl rfl (by kernel_rfl) (by decide +kernel) (by decide +kernel) (fun _ _ _ h => h) (by kernel_rfl) ?_ hHeld ?_
      rotate_left
      · (intro w hSw; (try dsimp only at hSw); go_simp <;> with_reducible rfl)
      (try simp only [Act.put, List.setIfInBounds_toArray, List.set_cons_zero, List.set_cons_succ])
      refine wpAnyH_tk (i := 5) (v := ?_) (some 52) rfl rfl (by kernel_rfl) (by decide +kernel) (by decide +kernel) (fun _ _ _ h => h) (by kernel_rfl) ?_ hHeld ?_
      rotate_left
      · (intro w hSw; (try dsimp only at hSw); go_simp <;> with_reducible rfl)
      (try simp only [Act.put, List.setIfInBounds_toArray, List.set_cons_zero, List.set_cons_succ])
      refine wpAnyH_tk (i := 6) (v := ?_) (some 53) rfl rfl (by kernel_rfl) (by decide +kernel) (by decide +kernel) (fun _ _ _ h => h) (by kernel_rfl) ?_ hHeld ?_
      rotate_left
      · (intro w hSw; (try dsimp only at hSw); go_simp <;> with_reducible rfl)
      (try simp only [Act.put, List.setIfInBounds_toArray, List.set_cons_zero, List.set_cons_succ])
      refine wpAnyH_tk (i := 7) (v := ?_) (some 54) rfl rfl (by kernel_rfl) (by decide +kernel) (by decide +kernel) (fun _ _ _ h => h) (by kernel_rfl) ?_ hHeld ?_
      rotate_left
      · (intro w hSw; (try dsimp only at hSw); go_simp <;> with_reducible rfl)
      (try simp only [Act.put, List.setIfInBounds_toArray, List.set_cons_zero, List.set_cons_succ])
      refine wpAnyH_tk (i := 8) (v := ?_) (some 55) rfl rfl (by kernel_rfl) (by decide +kernel) (by decide +kernel) (fun _ _ _ h => h) (by kernel_rfl) ?_ hHeld ?_
      rotate_left
      · (intro w hSw; (try dsimp only at hSw); go_simp <;> with_reducible rfl)
      (try simp only [Act.put, List.setIfInBounds_toArray, List.set_cons_zero, List.set_cons_succ])
      refine wpAnyH_tk (i := 9) (v := ?_) (some 56) rfl rfl (by kernel_rfl) (by decide +kernel) (by decide +kernel) (fun _ _ _ h => h) (by kernel_rfl) ?_ hHeld ?_
      rotate_left
      · (intro w hSw; (try dsimp only at hSw); go_simp <;> with_reducible rfl)
      (try simp only [Act.put, List.setIfInBounds_toArray, List.set_cons_zero, List.set_cons_succ])
      refine wpAnyH_tk (i := 10) (v := ?_) (some 57) rfl rfl (by kernel_rfl) (by decide +kernel) (by decide +kernel) (fun _ _ _ h => h) (by kernel_rfl) ?_ hHeld ?_
      rotate_left
      · (intro w hSw; (try dsimp only at hSw); go_simp <;> with_reducible rfl)
      (try simp only [Act.put, List.setIfInBounds_toArray, List.set_cons_zero, List.set_cons_succ])
      refine wpAnyH_ready (rs := [11]) (by kernel_rfl) (by simp) ?_
      refine AllReadyH.cons rfl (fun K hK => ?_) AllReadyH.nil
      go_simp
      with_reducible refine Calls.mono (hlog _) ?_
      rintro e w3 ⟨rfl, rfl⟩
      try go_wp2_with fail
      refine hK.out _ _ ?_ (fun hHeld => ?_)
      · exact hHeld
      clear hK K
      (try simp only [Act.put, List.setIfInBounds_toArray, List.set_cons_zero, List.set_cons_succ])
      refine wpAnyH_ready (rs := [12]) (by kernel_rfl) (by simp) ?_
      refine AllReadyH.cons rfl (fun K hK => ?_) AllReadyH.nil
      go_simp
      have hPre := hHeld
      refine hK.out _ _ ?_ (fun hHeld => ?_)
      · exact ⟨cnext (alloc_up _ _) hHeld.1, bnext hHeld.2 (alloc_up _ _)⟩
      clear hK K
      (try simp only [Act.put, List.setIfInBounds_toArray, List.set_cons_zero, List.set_cons_succ])
      refine wpAnyH_done (by kernel_rfl) ?_ _
      show wpList _ _ _ _ _ _
      go_wp2_with (at_builtin; go_must (refine app_flts rfl _ _ rfl w.heap.size w.heap.size (Nat.le_refl _) (.slice ao1 k cap1) ((ps.take k).map stW) rfl (own_below hPre.2 HO.out) (bnext HB.out hPre.2) _ _ [stW p] rfl rfl (by rw [Hl.out]; simp; omega) (bnext HB.out hPre.2).size ?_))
      intro v' w' hown' hB' hg'
      have hown' : OwnF w.heap.size w' v' ((ps.take k).map stW ++ [stW p]) := by simpa using hown'
      rw [← Hsn.out] at hown'
      obtain ⟨ao2, cap2, rfl⟩ := hown'.shape
      rw [show ((ps.take (k + 1)).map stW).length = k + 1 by simp; omega] at hown' ⊢
      clear hg' HO hPre hHeld
      go_wp2
      go_roundw
      case rel => exact ⟨k + 1, by go_num, by omega, hown', hB'⟩
      case measure => simp [intOf]; omega
    · obtain rfl : k = ps.length := by omega
      rw [List.take_length] at hown ⊢
      have hl2 : (ps.map stW).length = ps.length := by simp
      have hf2 := l02Fin_yes _ _ _ hown.og.rg (st_alln hP.out)
      rw [hl2] at hf2 hown ⊢
      clear hl2
      have HO := Lib.hid hown
      have HB := Lib.hid hB
      clear hown hB
      go_wp2_with (go_at_call 38; refine hf2.mono ?_; rintro e w' ⟨rfl, rfl⟩)
      go_ret2
      exact ⟨_, rfl, HO.out, HB.out⟩
end Go.Proofs.Ythafmldcfdcngaa
