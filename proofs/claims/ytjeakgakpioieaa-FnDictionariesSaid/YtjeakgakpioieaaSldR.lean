/- SlidText: the reference. No conditions but that the slice reads. -/
import Derived.Test.YtjeakgakpioieaaSldP
import Derived.Test.YtjeakgakpioieaaMem
import Derived.Handy
namespace Go.Proofs.Ytjeakgakpioieaa
open Go.RowKit
set_option maxRecDepth 100000
set_option linter.unusedVariables false
set_option linter.unusedSimpArgs false

theorem tr_eq {zs : List Int} {k j : Nat} (h : 3 * k + j < zs.length) : tr zs k j = zs[3 * k + j] := by
  unfold tr; rw [List.getD_eq_getElem?_getD, List.getElem?_eq_getElem h]; rfl
theorem tr_eq0 {zs : List Int} {k : Nat} (h : 3 * k < zs.length) : tr zs k 0 = zs[3 * k] := by
  unfold tr; rw [Nat.add_zero, List.getD_eq_getElem?_getD, List.getElem?_eq_getElem h]; rfl
theorem own_at {B : Nat} {w : World} {v : Value} {zs : List Int} (h : OwnI B w v zs) (j : Nat) (hj : j < zs.length) : ∃ g cap, v = .slice (some ⟨g, 0, none⟩) zs.length cap ∧ B ≤ g ∧ g < w.heap.size ∧ w.cell? ⟨g, j, none⟩ = some (.int .i64 zs[j]) ∧ w.frozen? ⟨g, j, none⟩ = false := by
  rcases h.2 with ⟨_, h0⟩ | ⟨g, cap, cur, rfl, hb, hg, hn, hm, hs, ht⟩
  · omega
  · refine ⟨g, cap, rfl, hb, blk_lt hg, ?_, frozen_of_row _ _ _ _ _ hg⟩
    rw [cell_of_row _ _ _ _ _ _ hg]
    have e : (zs.map (Value.int .i64))[j]? = some (.int .i64 zs[j]) := by simp [hj]
    rw [← ht, List.getElem?_take_of_lt (by omega)] at e
    simpa using e
theorem sgStep_no {n : Int} {zs out : List Int} {k : Nat} (h : ¬ (okS out (tr zs k 0) (tr zs k 1) = true ∧ inB (tr zs k 2) 0 (n - 1) = true)) : sgStep n zs out k = none := by
  unfold sgStep sdStep
  rw [← okS_eq]
  by_cases h1 : inB (tr zs k 2) 0 (n - 1) = true
  · rw [if_pos h1, if_neg (fun h2 => h ⟨h2, h1⟩)]
  · rw [if_neg h1]
theorem sgStep_yes {n : Int} {zs out : List Int} {k : Nat} (h1 : okS out (tr zs k 0) (tr zs k 1) = true) (h2 : inB (tr zs k 2) 0 (n - 1) = true) :
    sgStep n zs out k = if (cpy (tr zs k 1).toNat (tr zs k 0).toNat out ++ [tr zs k 2]).length ≤ 64 then some (cpy (tr zs k 1).toNat (tr zs k 0).toNat out ++ [tr zs k 2]) else none := by
  unfold sgStep sdStep
  rw [if_pos h2, ← okS_eq, if_pos h1]
end Go.Proofs.Ytjeakgakpioieaa
