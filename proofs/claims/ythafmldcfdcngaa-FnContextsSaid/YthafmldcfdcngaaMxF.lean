/- Finite rows: what both packages say of rows that are all numbers. -/
import Derived.Test.YthafmldcfdcngaaMxI
namespace Go.Proofs.Ythafmldcfdcngaa
open Go.RowKit
set_option maxRecDepth 100000
set_option linter.unusedVariables false
set_option linter.unusedSimpArgs false

def AllN (xs : List Nat) : Prop := ∀ i, (h : i < xs.length) → ∃ a, Num .f32 xs[i] a
set_option maxHeartbeats 400000 in
theorem isFin_yes (x : Nat) (a : Rat) (h : Num .f32 x a) (w : World) : Calls Try.prog 34 #[.float .f32 x] w fun e w' => e = .returned (.bool true) ∧ w = w' := by
  obtain ⟨z, h1, h2⟩ := sub_self h
  have o1 := run_op (P := Try.prog) h1
  go_enter Try.func34, Try.ntmps34
  go_wp2_with (first | simp only [o1] | simp only [h2])
  go_ret
  exact ⟨rfl, rfl⟩
set_option maxHeartbeats 400000 in
theorem areFin1_yes (x : Nat) (a : Rat) (h : Num .f32 x a) (w : World) : Calls Try.prog 37 #[.float .f32 x] w fun e w' => e = .returned (.bool false) ∧ w = w' := by
  go_enter Try.func37, Try.ntmps37
  go_wp2_with (go_at_call 34; refine (isFin_yes x a h _).mono ?_; rintro e w' ⟨rfl, rfl⟩)
  go_ret
  exact ⟨rfl, rfl⟩
set_option maxHeartbeats 400000 in
theorem idxF_yes (v : Value) (xs : List Nat) (w : World) (h : Rg eF w v xs) (hx : AllN xs) :
    Calls Try.prog 45 #[v, .func (.func 37) #[] #[]] w fun e w' => e = .returned (.int .i64 (-1)) ∧ w = w' := by
  have hlen := h.len
  obtain ⟨ao, cap, rfl, h1, h2, h3⟩ := h
  go_enter Try.func45, Try.ntmps45
  go_wp2
  go_loop [8] (fun c => ∃ k : Nat, k ≤ xs.length ∧ c = .int .i64 k) (fun c => xs.length - (intOf c).toNat)
  case atStart => exact ⟨0, Nat.zero_le _, rfl⟩
  case round =>
    obtain ⟨k, hk, rfl⟩ := hrel
    by_cases hlt : k < xs.length
    · obtain ⟨b, off, rfl, hcl⟩ := h3 k hlt
      obtain ⟨a, ha⟩ := hx k hlt
      clear h3 hx
      generalize xs[k] = x at *
      go_wp2_with (go_at_call 37; refine (areFin1_yes x a ha _).mono ?_; rintro e w' ⟨rfl, rfl⟩)
      go_round
      case rel => exact ⟨k + 1, by omega, by go_num⟩
      case measure => simp [intOf]; omega
    · go_wp2
      go_ret
      exact ⟨rfl, rfl⟩
set_option maxHeartbeats 400000 in
theorem areFin_yes (v : Value) (xs : List Nat) (w : World) (h : Rg eF w v xs) (hx : AllN xs) :
    Calls Try.prog 22 #[v] w fun e w' => e = .returned (.bool true) ∧ w = w' := by
  have hc : Calls Try.prog 36 #[v, .func (.func 37) #[] #[]] w fun e w' => e = .returned (.bool false) ∧ w = w' := by
    go_enter Try.func36, Try.ntmps36
    go_wp2_with (go_at_call 45; refine (idxF_yes v xs _ h hx).mono ?_; rintro e w' ⟨rfl, rfl⟩)
    go_ret
    exact ⟨rfl, rfl⟩
  go_enter Try.func22, Try.ntmps22
  go_wp2_with (go_at_call 36; refine hc.mono ?_; rintro e w' ⟨rfl, rfl⟩)
  go_ret
  exact ⟨rfl, rfl⟩
end Go.Proofs.Ythafmldcfdcngaa
