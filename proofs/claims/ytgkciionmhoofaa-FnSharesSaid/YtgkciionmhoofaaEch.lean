/- Rows in steps: what the loops of both packages return. Conditions: words of at most 16 digits. -/
import Derived.Test.YtgkciionmhoofaaEchP
import Derived.Test.YtgkciionmhoofaaClone
import Derived.StillTailTactics
import Derived.Deep.RegionWith
namespace Go.Proofs.Ytgkciionmhoofaa
open Go.RowKit
set_option maxRecDepth 100000
set_option linter.unusedVariables false
set_option linter.unusedSimpArgs false

theorem hasD_i64 (x i : Nat) (hx : x < 65536) : (bits .and .i64 ((x : Int) / 2 ^ i) 1 == 1) = hasD x i := by
  have e : ((x : Int) / 2 ^ i) = ((x / 2 ^ i : Nat) : Int) := by rw [Int.natCast_ediv]; simp
  have hl : x / 2 ^ i ≤ x := Nat.div_le_self _ _
  rw [e, show (1 : Int) = ((1 : Nat) : Int) from rfl, and_i64_nat _ _ (by omega) (by decide), Nat.and_one_is_mod]
  unfold hasD
  rw [Bool.eq_iff_iff]; simp; omega
set_option maxHeartbeats 400000 in
theorem l06Has_any (x i : Nat) (hx : x < 65536) (hi : i ≤ 62) (w : World) :
    Calls Try.prog 33 #[.int .i64 x, .int .i64 i] w fun e w' => e = .returned (.bool (hasD x i)) ∧ w = w' := by
  have H := Lib.hid (hasD_i64 x i hx)
  go_enter Try.func33, Try.ntmps33
  go_wp2
  go_ret
  exact ⟨ret_bool H.out, rfl⟩
end Go.Proofs.Ytgkciionmhoofaa
