/- The greatest digit of a number of 1 to 16 digits. -/
import Derived.Test.YtejabnjhnbminaaParP
import Derived.Test.YtejabnjhnbminaaParA
import Derived.Lib.BitFns
import Derived.Lib.ItoaNum
import Derived.Ground.So_math_bits_Len64
namespace Go.Proofs.Ytejabnjhnbminaa
open Go.RowKit
set_option maxRecDepth 100000
set_option linter.unusedVariables false
set_option linter.unusedSimpArgs false

theorem bitLen_log2 (x : Nat) (h0 : 0 < x) (h : x < 65536) : Lib.bitLen x = x.log2 + 1 := by
  obtain ⟨h1, h2, h3⟩ := Lib.bitLenAux_bounds 64 x (by omega) (by omega)
  have e := (Nat.log2_eq_iff (show x ≠ 0 by omega) (k := Lib.bitLenAux 64 x - 1)).2 ⟨h2, by rw [Nat.sub_add_cancel h1]; exact h3⟩
  unfold Lib.bitLen; omega
theorem log2_16 (x : Nat) (h : x < 65536) : x.log2 < 16 := by
  rcases Nat.eq_zero_or_pos x with h0 | h0
  · subst h0; decide
  · exact (Nat.log2_lt (by omega)).2 h
/-- The table as this program's form spells it. -/
theorem fold8 : ({ data := (([0, 1, 2, 2, 3, 3, 3, 3, 4, 4, 4, 4, 4, 4, 4, 4, 5, 5, 5, 5, 5, 5, 5, 5, 5, 5, 5, 5, 5, 5, 5, 5, 6, 6, 6, 6, 6, 6, 6, 6, 6, 6, 6, 6, 6, 6, 6, 6, 6, 6, 6, 6, 6, 6, 6, 6, 6, 6, 6, 6, 6, 6, 6, 6].append [7, 7, 7, 7, 7, 7, 7, 7, 7, 7, 7, 7, 7, 7, 7, 7, 7, 7, 7, 7, 7, 7, 7, 7, 7, 7, 7, 7, 7, 7, 7, 7, 7, 7, 7, 7, 7, 7, 7, 7, 7, 7, 7, 7, 7, 7, 7, 7, 7, 7, 7, 7, 7, 7, 7, 7, 7, 7, 7, 7, 7, 7, 7, 7]).append ([8, 8, 8, 8, 8, 8, 8, 8, 8, 8, 8, 8, 8, 8, 8, 8, 8, 8, 8, 8, 8, 8, 8, 8, 8, 8, 8, 8, 8, 8, 8, 8, 8, 8, 8, 8, 8, 8, 8, 8, 8, 8, 8, 8, 8, 8, 8, 8, 8, 8, 8, 8, 8, 8, 8, 8, 8, 8, 8, 8, 8, 8, 8, 8].append [8, 8, 8, 8, 8, 8, 8, 8, 8, 8, 8, 8, 8, 8, 8, 8, 8, 8, 8, 8, 8, 8, 8, 8, 8, 8, 8, 8, 8, 8, 8, 8, 8, 8, 8, 8, 8, 8, 8, 8, 8, 8, 8, 8, 8, 8, 8, 8, 8, 8, 8, 8, 8, 8, 8, 8, 8, 8, 8, 8, 8, 8, 8, 8])).toArray } : ByteArray) = Lib.len8tab := rfl
theorem len8_size : (Lib.len8tab.size : Int) = 256 := by rw [Lib.len8tab_size]; rfl
theorem len8_got (y l : Int) (h : y.toNat < Lib.len8tab.size) (e : Lib.len8 y = l) : ((Lib.len8tab[y.toNat]'h).toNat : Int) = l := by
  rw [← e]; unfold Lib.len8
  rw [getElem?_pos Lib.len8tab y.toNat h]
  rfl
set_option maxRecDepth 1000000 in
set_option maxHeartbeats 4000000 in
theorem len64_lo (z l : Int) (h0 : 0 ≤ z) (h1 : z ≤ 255) (hl0 : 0 ≤ l) (hl1 : l ≤ 16) (ha : Lib.len8 z = l) (w : World) :
    Calls Try.prog 151 #[.int .u64 z] w fun e w' => e = .returned (.int .i64 l) ∧ w = w' := by
  have Ha := Lib.hid ha
  have hs := len8_size
  clear ha
  go_enter Try.func151, Try.ntmps151
  rw [fold8]
  go_wp2
  go_ret
  exact ⟨ret_i64 (by rw [Ha.out]; unfold wrap64; omega), rfl⟩
set_option maxRecDepth 1000000 in
set_option maxHeartbeats 4000000 in
theorem len64_hi (z l : Int) (h0 : 256 ≤ z) (h1 : z ≤ 65535) (hl0 : 0 ≤ l) (hl1 : l ≤ 16) (ha : Lib.len8 (z / 256) = l) (w : World) :
    Calls Try.prog 151 #[.int .u64 z] w fun e w' => e = .returned (.int .i64 (8 + l)) ∧ w = w' := by
  have Ha := Lib.hid ha
  have hs := len8_size
  clear ha
  go_enter Try.func151, Try.ntmps151
  rw [fold8]
  go_wp2
  go_ret
  exact ⟨ret_i64 (by rw [len8_got (z / 256) l _ Ha.out]; unfold wrap64; omega), rfl⟩
theorem len64_any (x : Nat) (h0 : 0 < x) (hx : x < 65536) (w : World) :
    Calls Try.prog 151 #[.int .u64 x] w fun e w' => e = .returned (.int .i64 ((x.log2 : Int) + 1)) ∧ w = w' := by
  have hl := log2_16 x hx
  have hb := bitLen_log2 x h0 hx
  by_cases hc : x < 256
  · exact len64_lo x _ (by omega) (by omega) (by omega) (by omega) (by rw [Lib.len8_of _ (by omega) (by omega), Int.toNat_natCast, hb]; rfl) w
  · have hs := Lib.bitLen_shift8 x (by omega) (by omega)
    have h1 : ((x : Int) / 256).toNat = x / 256 := by omega
    have h := len64_hi x ((x.log2 : Int) + 1 - 8) (by omega) (by omega) (by omega) (by omega) (by rw [Lib.len8_of _ (by omega) (by omega), h1]; omega) w
    rw [show (8 : Int) + ((x.log2 : Int) + 1 - 8) = (x.log2 : Int) + 1 by omega] at h
    exact h
set_option maxHeartbeats 1000000 in
theorem topOf_any (x : Nat) (h0 : 0 < x) (hx : x < 65536) (w : World) :
    Calls Try.prog 137 #[.int .i64 x] w fun e w' => e = .returned (.int .i64 x.log2) ∧ w = w' := by
  have hl := log2_16 x hx
  go_enter Try.func137, Try.ntmps137
  go_wp2_with (go_at_call 151; refine (len64_any x h0 hx _).mono ?_; rintro e w' ⟨rfl, rfl⟩)
  go_ret
  exact ⟨ret_i64 (by first | rfl | omega), rfl⟩
theorem log2_gt (x k : Nat) : (0 < (x : Int) / 2 ^ (k + 1)) ↔ k < x.log2 ∨ False := by
  have e : ((x : Int) / 2 ^ (k + 1)) = ((x / 2 ^ (k + 1) : Nat) : Int) := by rw [Int.natCast_ediv]; simp
  rw [e]
  rcases Nat.eq_zero_or_pos x with h0 | h0
  · subst h0; simp
  · rw [or_false, Int.natCast_pos, Nat.div_pos_iff]
    constructor
    · intro h; have := (Nat.le_log2 (n := x) (k := k + 1) (by omega)).2 h.2; omega
    · intro h; exact ⟨Nat.two_pow_pos _, (Nat.le_log2 (n := x) (k := k + 1) (by omega)).1 h⟩
set_option maxHeartbeats 1000000 in
theorem l06Top_any (x : Nat) (h0 : 0 < x) (hx : x < 65536) (w : World) :
    Calls Try.prog 135 #[.int .i64 x] w fun e w' => e = .returned (.int .i64 x.log2) ∧ w = w' := by
  have hl := log2_16 x hx
  go_enter Try.func135, Try.ntmps135
  go_wp2
  go_loop [3] (fun kv => ∃ k : Nat, kv = .int .i64 k ∧ k ≤ x.log2) (fun kv => x.log2 - (intOf kv).toNat)
  case atStart => exact ⟨0, rfl, Nat.zero_le _⟩
  case round =>
    obtain ⟨k, rfl, hk⟩ := hrel
    have e1 : IntKind.i64.wrap ((k : Int) + 1) = ((k + 1 : Nat) : Int) := by rw [IntWalk.i64_in _ (by omega)]; omega
    have hg := log2_gt x k
    by_cases hc : k < x.log2
    · have h1 := hg.2 (.inl hc)
      clear hg
      go_wp2
      go_round
      case rel => exact ⟨k + 1, by go_num, by omega⟩
      case measure => simp [intOf] <;> omega
    · have h1 : ¬ (0 < (x : Int) / 2 ^ (k + 1)) := fun h => by rcases hg.1 h with h | h <;> omega
      clear hg
      go_wp2
      go_ret
      exact ⟨ret_i64 (by omega), rfl⟩
end Go.Proofs.Ytejabnjhnbminaa
