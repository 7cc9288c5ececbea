/- Numbers held against each other by their bits. Conditions: words that are numbers. -/
import Derived.Test.YtbhconogaoghmaaLg
import Derived.Laws.Externs
namespace Go.Proofs.Ytbhconogaoghmaa
open Go.RowKit
set_option maxRecDepth 100000
set_option linter.unusedVariables false
set_option linter.unusedSimpArgs false

theorem run_f32bits (x : Nat) (w : World) : (callFunc 65 #[.float .f32 x]).run Try.prog w = .ok (.value (.int .u32 x)) w := by
  rw [run_callFunc_extern (e := Go.Extern.MathFloatBits.float32bits) Try.func65 (by kernel_rfl) (by kernel_rfl) (by kernel_rfl) (by kernel_rfl)]
  rfl
set_option maxHeartbeats 400000 in
theorem l01Bits_num (x : Nat) (a : Rat) (h : Num .f32 x a) (hx : x < 4294967296) (w : World) : Calls Try.prog 61 #[.float .f32 x] w fun e w' => e = .returned (.int .i64 x) ∧ w = w' := by
  have o1 : FloatKind.f32.format.order x x = some (cmpQ a a) := order_num h h
  rw [cmp_eq.2 rfl] at o1
  have c1 : (FloatKind.f32.format.order x x != some .eq) = false := by rw [o1]; rfl
  have hr := run_f32bits x
  have e1 : IntKind.i64.wrap (x : Int) = x := IntWalk.i64_in _ (by omega)
  clear o1
  go_enter Try.func61, Try.ntmps61
  go_wp2_with (first | simp only [c1] | simp only [hr])
  go_ret
  exact ⟨by first | rfl | (rw [e1]), rfl⟩
set_option maxHeartbeats 400000 in
theorem sameNum_same (x : Nat) (a : Rat) (h : Num .f32 x a) (hx : x < 4294967296) (w : World) : Calls Try.prog 15 #[.float .f32 x, .float .f32 x] w fun e w' => e = .returned (.bool true) ∧ ∃ n, w' = w.drewN n := by
  have hb := l01Bits_num x a h hx
  have hs : Calls Try.prog 41 #[.float .f32 x, .float .f32 x] w fun e w' => e = .returned (.bool true) ∧ ∃ n, w' = w.drewN n := by
    go_enter Try.func41, Try.ntmps41
    go_wp2_with (go_at_call 61; refine (hb _).mono ?_; rintro e w' ⟨rfl, rfl⟩)
    go_ret
    exact ⟨by simp, 0, rfl⟩
  go_enter Try.func15, Try.ntmps15
  go_wp2_with (go_at_call 41; refine hs.mono ?_; rintro e w' ⟨rfl, n, rfl⟩)
  go_ret
  exact ⟨rfl, _, rfl⟩
end Go.Proofs.Ytbhconogaoghmaa
