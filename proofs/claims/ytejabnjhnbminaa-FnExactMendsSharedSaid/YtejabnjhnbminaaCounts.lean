/- Counts of letters: which are valid. No conditions but that the slices read. -/
import Derived.Test.YtejabnjhnbminaaText
import Derived.Test.YtejabnjhnbminaaSum
import Derived.Handy
namespace Go.Proofs.Ytejabnjhnbminaa
open Go.RowKit
set_option maxRecDepth 100000
set_option linter.unusedVariables false
set_option linter.unusedSimpArgs false

def cts (n : Int) (zs : List Int) : Bool := sgn n && (((zs.length : Int) == n) && (allIn zs 1 16384 && decide (sumL zs ≤ 16384)))
theorem cts_parts {n : Int} {zs : List Int} (h : cts n zs = true) : 2 ≤ n ∧ n ≤ 16 ∧ (zs.length : Int) = n ∧ (∀ z ∈ zs, 1 ≤ z ∧ z ≤ 16384) ∧ sumL zs ≤ 16384 := by
  simp only [cts, sgn, inB, Bool.and_eq_true, decide_eq_true_eq, beq_iff_eq] at h
  exact ⟨h.1.1, h.1.2, h.2.1, (allIn_iff _ _ _).1 h.2.2.1, h.2.2.2⟩
end Go.Proofs.Ytejabnjhnbminaa
