/- Words and messages of parities: what both packages return. No conditions but that the slices read. -/
import Derived.Test.YtejabnjhnbminaaParA
namespace Go.Proofs.Ytejabnjhnbminaa
open Go.RowKit
set_option maxRecDepth 100000
set_option linter.unusedVariables false
set_option linter.unusedSimpArgs false

theorem pow8' (n : Nat) (hn : n ≤ 8) : (1 : Int) ≤ 2 ^ n ∧ (2 : Int) ^ n ≤ 256 := by
  have h1 : 2 ^ n ≤ 2 ^ 8 := Nat.pow_le_pow_right (by decide) hn
  have h2 : 1 ≤ 2 ^ n := Nat.one_le_two_pow
  have e : (2 : Int) ^ n = ((2 ^ n : Nat) : Int) := by simp
  rw [e]; omega
set_option maxHeartbeats 1000000 in
theorem messages_any (n : Int) (ao : Option Addr) (l cap : Nat) (hl8 : l ≤ 16) (w : World) :
    Calls Try.prog 113 #[.agg #[.int .i64 n, .slice ao l cap]] w fun e w' => e = .returned (.int .i64 (2 ^ l)) ∧ Below w.heap.size w w' := by
  obtain ⟨h1, h2⟩ := pow16 l hl8
  go_enter Try.func113, Try.ntmps113
  go_wp2
  go_ret
  exact ⟨rfl, by go_grown⟩
end Go.Proofs.Ytejabnjhnbminaa
