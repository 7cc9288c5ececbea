/- The statements' package's helpers for structs of a number and a list: copies, sizes, comparisons, marks. No conditions but that the slices read. -/
import Derived.Test.YtnhgloplobphnaaLaws
import Derived.Test.YtnhgloplobphnaaEq
import Derived.Handy
namespace Go.Proofs.Ytnhgloplobphnaa
open Go.RowKit
set_option maxRecDepth 100000
set_option linter.unusedVariables false
set_option linter.unusedSimpArgs false

set_option maxHeartbeats 400000 in
theorem sz_any (v : Value) (zs : List Int) (left : Int) (w : World) (h : RI w v zs) (h0 : 0 ≤ left) (hl : left ≤ 1048576) :
    Calls Try.prog 13 #[v, .int .i64 left] w fun e w' => e = .returned (.int .i64 (if left < zs.length then -1 else left - zs.length)) ∧ w = w' := by
  have hlen := h.len
  obtain ⟨ao, cap, rfl⟩ := h.shape
  by_cases hc : left < zs.length
  · rw [if_pos hc]
    go_enter Try.func13, Try.ntmps13
    go_wp2
    go_ret
    exact ⟨rfl, rfl⟩
  · rw [if_neg hc]
    go_enter Try.func13, Try.ntmps13
    go_wp2
    go_ret
    exact ⟨rfl, rfl⟩
end Go.Proofs.Ytnhgloplobphnaa
