/- Numbers of letters and texts: what both packages say of them. No conditions but that the slices read. -/
import Derived.Test.YtiejljlmbpgbiaaBase
namespace Go.Proofs.Ytiejljlmbpgbiaa
open Go.RowKit
set_option maxRecDepth 100000

def sgn (n : Int) : Bool := inB n 2 16
def txt (zs : List Int) (n : Int) : Bool := sgn n && decide (zs.length ≤ 64) && allIn zs 0 (n - 1)

set_option maxHeartbeats 400000 in
theorem l00In_any (n lo hi : Int) (w : World) :
    Calls Try.prog 79 #[.int .i64 n, .int .i64 lo, .int .i64 hi] w fun e w' => e = .returned (.bool (inB n lo hi)) ∧ w = w' := by
  go_enter Try.func79, Try.ntmps79
  by_cases h1 : lo ≤ n <;> by_cases h2 : n ≤ hi <;>
    (go_wp2; go_ret; exact ⟨ret_bool (by simp [inB, h1, h2]), rfl⟩)

set_option maxHeartbeats 400000 in
theorem within_any (n lo hi : Int) (w : World) :
    Calls Try.prog 31 #[.int .i64 n, .int .i64 lo, .int .i64 hi] w fun e w' => e = .returned (.bool (inB n lo hi)) ∧ w = w' := by
  go_enter Try.func31, Try.ntmps31
  by_cases h1 : lo ≤ n <;> by_cases h2 : n ≤ hi <;>
    (go_wp2; go_ret; exact ⟨ret_bool (by simp [inB, h1, h2]), rfl⟩)

end Go.Proofs.Ytiejljlmbpgbiaa
