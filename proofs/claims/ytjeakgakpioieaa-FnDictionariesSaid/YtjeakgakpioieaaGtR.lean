/- Grown text, in the reference: GrownText. No conditions but that the slices read. -/
import Derived.Test.YtjeakgakpioieaaGtP
import Derived.Test.YtjeakgakpioieaaGrR
import Derived.Test.YtjeakgakpioieaaGrS
namespace Go.Proofs.Ytjeakgakpioieaa
open Go.RowKit
set_option maxRecDepth 100000
set_option linter.unusedVariables false
set_option linter.unusedSimpArgs false

theorem ints_cells {w : World} {ao : Option Addr} {cap : Nat} {zs : List Int} (h : RI w (.slice ao zs.length cap) zs) : zs.length ≤ cap ∧ cap ≤ maxLen := by
  obtain ⟨_, ao', cap', e0, h1, h2, _⟩ := h
  simp only [Value.slice.injEq, true_and] at e0
  obtain ⟨rfl, rfl⟩ := e0
  exact ⟨h1, h2⟩
theorem gq_i64 {zs : List Int} (h : AllI64 zs) (k j : Nat) (hk : 2 * k + j < zs.length) : I64 (gq zs k j) := by
  rw [gq_eq hk]; exact h _ (List.getElem_mem _)
end Go.Proofs.Ytjeakgakpioieaa
