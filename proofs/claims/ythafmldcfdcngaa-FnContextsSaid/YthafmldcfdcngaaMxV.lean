/- Finite rows in the reference. -/
import Derived.Test.YthafmldcfdcngaaMxU
namespace Go.Proofs.Ythafmldcfdcngaa
open Go.RowKit
set_option maxRecDepth 100000
set_option linter.unusedVariables false
set_option linter.unusedSimpArgs false

set_option maxHeartbeats 400000 in
theorem l01Fin_yes (x : Nat) (a : Rat) (h : Num .f32 x a) (w : World) : Calls Try.prog 40 #[.float .f32 x] w fun e w' => e = .returned (.bool true) ∧ w = w' := by
  obtain ⟨z, h1, h2⟩ := sub_self h
  have o1 := run_op (P := Try.prog) h1
  go_enter Try.func40, Try.ntmps40
  go_wp2_with (first | simp only [o1] | simp only [h2])
  go_ret
  exact ⟨rfl, rfl⟩
set_option maxHeartbeats 400000 in
theorem l02Fin_yes (v : Value) (xs : List Nat) (w : World) (h : Rg eF w v xs) (hx : AllN xs) :
    Calls Try.prog 38 #[v] w fun e w' => e = .returned (.bool true) ∧ w = w' := by
  have hlen := h.len
  obtain ⟨ao, cap, rfl, h1, h2, h3⟩ := h
  go_enter Try.func38, Try.ntmps38
  go_wp2
  go_loop [3] (fun c => ∃ k : Nat, k ≤ xs.length ∧ c = .int .i64 k) (fun c => xs.length - (intOf c).toNat)
  case atStart => exact ⟨0, Nat.zero_le _, rfl⟩
  case round =>
    obtain ⟨k, hk, rfl⟩ := hrel
    by_cases hlt : k < xs.length
    · obtain ⟨b, off, rfl, hcl⟩ := h3 k hlt
      obtain ⟨a, ha⟩ := hx k hlt
      clear h3 hx
      generalize xs[k] = x at *
      go_wp2_with (go_at_call 40; refine (l01Fin_yes x a ha _).mono ?_; rintro e w' ⟨rfl, rfl⟩)
      go_round
      case rel => exact ⟨k + 1, by omega, by go_num⟩
      case measure => simp [intOf]; omega
    · go_wp2
      go_ret
      exact ⟨rfl, rfl⟩
end Go.Proofs.Ythafmldcfdcngaa
