/- Stretched chances in the program. Conditions: few weights that are numbers, chances that come out small. -/
import Derived.Test.YthafmldcfdcngaaMxF
import Derived.Test.YthafmldcfdcngaaAppF
namespace Go.Proofs.Ythafmldcfdcngaa
open Go.RowKit
set_option maxRecDepth 100000
set_option linter.unusedVariables false
set_option linter.unusedSimpArgs false

def AllS (ps : List Nat) : Prop := ∀ i, (h : i < ps.length) → ∃ P S, StP ps[i] P S
theorem st_snoc (ps : List Nat) (k : Nat) (h : k < ps.length) : (ps.take (k + 1)).map stW = (ps.take k).map stW ++ [stW ps[k]] := by
  rw [List.take_succ_eq_append_getElem h, List.map_append]; rfl
theorem st_alln {ps : List Nat} (h : AllS ps) : AllN (ps.map stW) := fun i hi => by
  rw [List.length_map] at hi
  obtain ⟨P, S, x⟩ := h i hi
  exact ⟨S, by rw [List.getElem_map]; exact x.ns⟩
set_option maxHeartbeats 4000000 in
theorem stretch_any (v u : Value) (ws ps : List Nat) (w : World) (h : Rg eF w v ws) (h' : Rg eF w u ps) (hl : ws.length = ps.length) (l1 : 1 ≤ ps.length) (l4 : ps.length ≤ 4) (hw : AllN ws) (hp : AllS ps) :
    Calls Try.prog 20 #[v, u] w fun e w' => ∃ v', e = .returned (.tuple #[v', .bool true]) ∧ OwnF w.heap.size w' v' (ps.map stW) ∧ Below w.heap.size w w' := by
  have hR := Lib.hid h
  have hR' := Lib.hid h'
  have hP := Lib.hid hp
  have hfin := areFin_yes v ws w h hw
  obtain ⟨ao, cap, rfl⟩ := h.shape
  obtain ⟨ao', cap', rfl⟩ := h'.shape
  have hlenI := h.len
  clear h h' hp hw hR
  rw [hl] at hfin hlenI ⊢
  clear hl
  have hn1 : ((ps.length : Int) < 1) = False := by simp; omega
  have hn2 : (16 < (ps.length : Int)) = False := by simp; omega
  go_enter Try.func20, Try.ntmps20
  go_wp2_with (go_at_call 22; refine hfin.mono ?_; rintro e w' ⟨rfl, rfl⟩)
  go_loopw [6, 32] (fun o kv wr => ∃ k : Nat, kv = .int .i64 k ∧ k ≤ ps.length ∧ OwnF w.heap.size wr o ((ps.take k).map stW) ∧ Below w.heap.size w wr) (fun _ kv _ => ps.length - (intOf kv).toNat)
  case atStart => exact ⟨0, rfl, Nat.zero_le _, ownF_empty w _ (Nat.le_refl _), by go_grown⟩
  case round =>
    obtain ⟨k, rfl, hk, hown, hB⟩ := hrel
    obtain ⟨ao1, cap1, rfl⟩ := hown.shape
    have hs1 := hB.size
    by_cases hkm : k < ps.length
    · obtain ⟨P, S, x⟩ := hP.out k hkm
      obtain ⟨b, off, rfl, -, hcs⟩ := (hR'.out.below hB).cells (by omega)
      have hc := hcs k hkm
      clear hcs
      have Hsn := Lib.hid (st_snoc ps k hkm)
      have Hown := Lib.hid hown
      have Hl := Lib.hid (show ((ps.take k).map stW).length = k by simp; omega)
      have o1 := run_op (P := Try.prog) x.s
      have o2 := run_op (P := Try.prog) x.d
      have t0 : (FloatKind.f32.format.order ps[k] 0 == some .gt) = true := by rw [x.o0]; rfl
      have t1 : (FloatKind.f32.format.order ps[k] 1065353216 == some .lt) = true := by rw [x.o1]; rfl
      obtain ⟨D, nD, D0⟩ := x.nd
      have hlog := fun W => log_any _ _ nD D0 W
      have hst : stW ps[k] = LOG (fdiv .f32 ps[k] (fsub .f32 1065353216 ps[k])) := rfl
      have Hst := Lib.hid hst
      clear hst hown x
      generalize ps[k] = p at *
      go_wp2_with (first | simp only [o1] | simp only [o2] | simp only [t0] | simp only [t1] | (go_at_call 17; refine (hlog _).mono ?_; rintro e w1 ⟨rfl, n1, rfl⟩) | (at_builtin; go_must (refine app_flts rfl _ _ rfl w.heap.size w.heap.size (Nat.le_refl _) (.slice ao1 ((ps.take k).map stW).length cap1) ((ps.take k).map stW) rfl (own_below (below_drewN wr n1) Hown.out) (bnext hB (below_drewN _ _)) _ _ [stW p] rfl rfl (by rw [Hl.out]; simp; omega) (bnext hB (below_drewN _ _)).size ?_)))
      intro v' w' hown' hB' hg'
      rw [← Hsn.out] at hown'
      obtain ⟨ao2, cap2, rfl⟩ := hown'.shape
      rw [show ((ps.take (k + 1)).map stW).length = k + 1 by simp; omega] at hown' ⊢
      clear hg' hB Hown
      go_wp2
      go_roundw
      case rel => exact ⟨k + 1, by go_num, by omega, hown', hB'⟩
      case measure => simp [intOf]; omega
    · obtain rfl : k = ps.length := by omega
      rw [List.take_length] at hown ⊢
      have hl2 : (ps.map stW).length = ps.length := by simp
      have hf2 := areFin_yes _ _ _ hown.og.rg (st_alln hP.out)
      rw [hl2] at hf2 hown ⊢
      clear hl2
      have HO := Lib.hid hown
      have HB := Lib.hid hB
      clear hown hB
      go_wp2_with (go_at_call 22; refine hf2.mono ?_; rintro e w' ⟨rfl, rfl⟩)
      go_ret2
      exact ⟨_, rfl, HO.out, HB.out⟩
end Go.Proofs.Ythafmldcfdcngaa
