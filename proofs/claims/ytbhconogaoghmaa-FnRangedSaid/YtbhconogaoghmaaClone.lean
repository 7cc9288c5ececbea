/- A copy of a slice of integers by the library's Clone. Conditions: at most 2^20 numbers. -/
import Derived.Test.YtbhconogaoghmaaOwn
import Derived.Handy
namespace Go.Proofs.Ytbhconogaoghmaa
open Go.RowKit
set_option maxRecDepth 100000
set_option linter.unusedVariables false
set_option linter.unusedSimpArgs false

set_option maxHeartbeats 1000000 in
theorem clone_any (v : Value) (zs : List Int) (w : World) (h : RI w v zs) (hl : zs.length ≤ 1048576) :
    Calls Try.prog 43 #[v] w fun e w' => ∃ v', e = .returned v' ∧ OI w.heap.size w' v' zs ∧ Below w.heap.size w w' := by
  obtain ⟨hz, ao, cap, rfl, h1, h2, h3⟩ := h
  have he := fun (w : World) (a : Option Addr) (n c : Nat) => Lib.run_eql_slice_nil (P := Try.prog) w 25 2 a n c 0 0 Try.underlying25
  cases ao with
  | none =>
    have h0 : zs.length = 0 := by
      rcases Nat.eq_zero_or_pos zs.length with h | h
      · exact h
      · obtain ⟨b, off, e, _⟩ := h3 0 h; cases e
    obtain rfl := List.eq_nil_of_length_eq_zero h0
    go_enter Try.func43, Try.ntmps43
    go_wp2
    go_ret
    exact ⟨_, rfl, OI.nil _ _, Below.refl _ _⟩
  | some a =>
    go_enter Try.func43, Try.ntmps43
    go_wp2_with (at_builtin; go_must (refine app_src rfl _ _ rfl w.heap.size w.heap.size (Nat.le_refl _) (.slice (some ⟨w.heap.size, 0, none⟩) 0 0) [] rfl ?_ (w0 := w) (by go_grown) zs a cap rfl ?_ (by simp; omega) (by simp) ?_))
    · exact own_empty w _ (Nat.le_refl _)
    · intro j hj
      obtain ⟨b, off, e, hc⟩ := h3 j hj
      obtain rfl := Option.some.inj e
      rw [Addr.add_lit]
      exact cnext ((Below.refl _ _).alloc (Nat.le_refl _) _) hc
    · intro v' w' hown hB hg
      go_wp2
      go_ret
      exact ⟨_, rfl, hown.oi hz, hB⟩
end Go.Proofs.Ytbhconogaoghmaa
