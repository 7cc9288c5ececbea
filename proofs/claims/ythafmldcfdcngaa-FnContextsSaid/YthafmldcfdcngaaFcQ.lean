/- The weights and chances of FnContexts: what may be mixed and learned. Plain; conditions: one to four of them. -/
import Derived.Test.YthafmldcfdcngaaFcP
import Derived.Test.YthafmldcfdcngaaB10
namespace Go.Proofs.Ythafmldcfdcngaa
open Ieee Go.RowKit
set_option maxRecDepth 100000
set_option linter.unusedVariables false
set_option linter.unusedSimpArgs false

def fcW (z : List Int) (n : Nat) : List Nat := (List.range n).map fun k => wtI (b10F z k 9 - 4)
def fcP (z : List Int) (n : Nat) : List Nat := (List.range n).map fun k => pcI (1 + b10F z (3 + k) 15)
theorem fcW_len (z : List Int) (n : Nat) : (fcW z n).length = n := by simp [fcW]
theorem fcP_len (z : List Int) (n : Nat) : (fcP z n).length = n := by simp [fcP]
theorem fcW_snoc (z : List Int) (n : Nat) : fcW z (n + 1) = fcW z n ++ [wtI (b10F z n 9 - 4)] := by simp [fcW, List.range_succ]
theorem fcP_snoc (z : List Int) (n : Nat) : fcP z (n + 1) = fcP z n ++ [pcI (1 + b10F z (3 + n) 15)] := by simp [fcP, List.range_succ]
theorem gD_map {α : Type} (f : Nat → Nat) (n i : Nat) (h : i < n) : gD ((List.range n).map f) i = f i := by simp [gD, h]
theorem gD_get (xs : List Nat) (i : Nat) (h : i < xs.length) : gD xs i = xs[i] := by simp [gD, h]
theorem mcW_congr {ws ss ws' ss' : Nat → Nat} (n : Nat) (h1 : ∀ i, i < n → ws i = ws' i) (h2 : ∀ i, i < n → ss i = ss' i) : muW ws ss n = muW ws' ss' n := by
  induction n with
  | zero => rfl
  | succ n ih => rw [muW, muW, ih (fun i hi => h1 i (by omega)) (fun i hi => h2 i (by omega)), h1 n (by omega), h2 n (by omega)]
theorem mcW_lt (ws ps : List Nat) : mcW ws ps < 4294967296 := by
  unfold mcW mxW fdiv oW
  cases h : floatBits .quo .f32 1065353216 (fadd .f32 1065353216 (EXw (fneg (muW (gD ws) (gD (ps.map stW)) ws.length)))) with
  | none => decide
  | some z => exact Format.div_lt single h
theorem fc_all (bit : Bool) (z0 z1 : List Int) (n : Nat) (h1 : 1 ≤ n) (h4 : n ≤ 4) :
    MixOk (fcW z0 n) (fcP z1 n) ∧ LearnOk (fcW z0 n) (fcP z1 n) bit ∧ MixOk (ulP (fcW z0 n) ((fcP z1 n).map stW) (msW bit (mcW (fcW z0 n) (fcP z1 n))) n) (fcP z1 n) ∧
      NextOk bit (mcW (fcW z0 n) (fcP z1 n)) (mcW (ulP (fcW z0 n) ((fcP z1 n).map stW) (msW bit (mcW (fcW z0 n) (fcP z1 n))) n) (fcP z1 n)) := by
  obtain ⟨ws, hws⟩ : ∃ ws, fcW z0 n = ws := ⟨_, rfl⟩
  obtain ⟨ps, hps⟩ : ∃ ps, fcP z1 n = ps := ⟨_, rfl⟩
  have lw : ws.length = n := by rw [← hws, fcW_len]
  have lp : ps.length = n := by rw [← hps, fcP_len]
  have hw : ∀ i, (h : i < ws.length) → ∃ W, Num .f32 ws[i] W ∧ -1 ≤ W ∧ W ≤ 1 := by
    intro i h
    obtain ⟨b0, b1⟩ := b10F_bd z0 i (n := 9) (by decide)
    obtain ⟨-, W, x⟩ := wt_num (b10F z0 i 9 - 4) (by omega) (by omega)
    subst hws
    refine ⟨W, ?_⟩
    simp only [fcW, List.getElem_map, List.getElem_range]
    exact x
  have hp : ∀ i, (h : i < ps.length) → ∃ P S, StP ps[i] P S := by
    intro i h
    obtain ⟨b0, b1⟩ := b10F_bd z1 (3 + i) (n := 15) (by decide)
    obtain ⟨-, P, S, x⟩ := pc_all (1 + b10F z1 (3 + i) 15) (by omega) (by omega)
    subst hps
    refine ⟨P, S, ?_⟩
    simp only [fcP, List.getElem_map, List.getElem_range]
    exact x
  rw [hws, hps]
  clear hws hps
  have eW : ∀ i, (h : i < n) → gD ws i = ws[i]'(by omega) := fun i h => gD_get ws i _
  have eS : ∀ i, (h : i < n) → gD (ps.map stW) i = stW (ps[i]'(by omega)) := fun i h => (gD_get (ps.map stW) i (by rw [List.length_map]; omega)).trans (List.getElem_map _)
  have hW : ∀ i, ∃ W, i < n → Num .f32 (gD ws i) W ∧ -1 ≤ W ∧ W ≤ 1 := by
    intro i
    by_cases hi : i < n
    · obtain ⟨W, x⟩ := hw i (by omega)
      exact ⟨W, fun _ => by rw [eW i hi]; exact x⟩
    · exact ⟨0, fun h => absurd h hi⟩
  obtain ⟨W, hW⟩ := Classical.axiomOfChoice hW
  have hS : ∀ i, ∃ S, i < n → Num .f32 (gD (ps.map stW) i) S ∧ -(271 / 100) ≤ S ∧ S ≤ 271 / 100 := by
    intro i
    by_cases hi : i < n
    · obtain ⟨P, S, x⟩ := hp i (by omega)
      exact ⟨S, fun _ => by rw [eS i hi]; exact ⟨x.ns, x.s1, x.s2⟩⟩
    · exact ⟨0, fun h => absurd h hi⟩
  obtain ⟨S, hS⟩ := Classical.axiomOfChoice hS
  have hm : mcW ws ps = mxW (muW (gD ws) (gD (ps.map stW)) n) := by rw [mcW, lw]
  obtain ⟨M0, hM0⟩ : ∃ M0, msW bit (mcW ws ps) = M0 := ⟨_, rfl⟩
  have eU : ∀ i, (h : i < n) → gD (ulP ws (ps.map stW) M0 n) i = ulW (gD ws i) M0 (gD (ps.map stW) i) := fun i h => gD_map (α := Nat) _ n i h
  obtain ⟨q, q', m, m', M, nq, q1, q2, nm, m0, m1, nM, M1, M2, ok, hV, ok', nq', q1', q2', nm', m0', m1', hA, hB⟩ :=
    mix_law bit h4 (ws := gD ws) (ss := gD (ps.map stW)) hW hS (us := gD (ulP ws (ps.map stW) M0 n)) (fun i hi => by rw [eU i hi, ← hm, hM0])
  rw [← hm] at nm nM
  rw [hM0] at nM ⊢
  have allW : AllN ws := fun i h => by obtain ⟨W, x, -⟩ := hw i h; exact ⟨W, x⟩
  have hl : (ulP ws (ps.map stW) M0 n).length = n := ulP_len _ _ _ _
  have allU : AllN (ulP ws (ps.map stW) M0 n) := fun i h => by
    obtain ⟨V, x, -⟩ := hV i (by omega)
    refine ⟨V, ?_⟩
    rw [← gD_get _ i h]; exact x
  obtain ⟨s0, s1, -⟩ := ms_num bit nm m0 (by grind)
  have hu : ∀ i, i < n → _ := fun i hi => ul_num (hW i hi).1 nM (hS i hi).1 (hW i hi).2.1 (hW i hi).2.2 M1 M2 (hS i hi).2.1 (hS i hi).2.2
  refine ⟨⟨by omega, by omega, by omega, allW, hp, by rw [lw]; exact ok, q, by rw [lw]; exact nq, q1, by grind⟩,
    ⟨s0, s1, fun i hi => ?_, fun i hi => ?_, fun i hi => ?_, ?_⟩,
    ⟨by omega, by omega, by omega, allU, hp, by rw [hl]; exact ok', q', by rw [hl]; exact nq', q1', q2'⟩, ?_⟩
  · rw [hM0]; exact (hu i (by omega)).1
  · rw [hM0]; exact (hu i (by omega)).2.1
  · rw [hM0]; exact (hu i (by omega)).2.2.1
  · rw [hM0, lw]; exact allU
  · refine next_ok nm ?_ m0 m1 m0' m1' hA hB
    rw [mcW, hl]; exact nm'
end Go.Proofs.Ythafmldcfdcngaa
