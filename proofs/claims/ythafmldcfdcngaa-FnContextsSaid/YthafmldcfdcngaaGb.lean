/- Contexts and chances of bits: what both packages' helpers return. Conditions: at most 1024 bits, depths from 0 to 4. -/
import Derived.Test.YthafmldcfdcngaaText
import Derived.Test.YthafmldcfdcngaaLg
import Derived.Test.YthafmldcfdcngaaGbP
import Derived.Deep.QuietTactic
import Derived.BigRegion
import Derived.Handy
import Derived.Deep.RegionHeld3
namespace Go.Proofs.Ythafmldcfdcngaa
open Go.RowKit
set_option maxRecDepth 100000
set_option linter.unusedVariables false
set_option linter.unusedSimpArgs false

def tld (bits : List Bool) (deep : Int) : Bool := decide (bits.length ≤ 1024) && inB deep 0 4
set_option maxHeartbeats 400000 in
theorem areTold_any (v : Value) (bits : List Bool) (deep : Int) (w : World) (h : Rg Value.bool w v bits) :
    Calls Try.prog 15 #[v, .int .i64 deep] w fun e w' => e = .returned (.bool (tld bits deep)) ∧ w = w' := by
  have hlen := h.len
  obtain ⟨ao, cap, rfl, -⟩ := h
  by_cases h1 : bits.length ≤ 1024
  · go_enter Try.func15, Try.ntmps15
    go_wp2_with (go_at_call 28; refine (within_any _ _ _ _).mono ?_; rintro e w' ⟨rfl, rfl⟩)
    go_ret
    exact ⟨ret_bool (by simp [tld, h1]), rfl⟩
  · go_enter Try.func15, Try.ntmps15
    go_wp2_with (go_at_call 28; refine (within_any _ _ _ _).mono ?_; rintro e w' ⟨rfl, rfl⟩)
    go_ret
    exact ⟨ret_bool (by simp [tld, h1]), rfl⟩
theorem or_add {x k : Nat} (h : x < 2 ^ k) : x ||| 2 ^ k = x + 2 ^ k := by
  have := Nat.two_pow_add_eq_or_of_lt (i := k) h 1
  rw [Nat.mul_one] at this
  rw [Nat.or_comm, ← this, Nat.add_comm]
theorem or_bits (x k : Nat) (hx : x < 2 ^ k) (hk : k ≤ 4) : Go.bits .or .i64 (x : Int) (2 ^ k) = ((x + 2 ^ k : Nat) : Int) := by
  have h1 : 2 ^ k ≤ 2 ^ 4 := Nat.pow_le_pow_right (by decide) hk
  have e : (2 : Int) ^ k = ((2 ^ k : Nat) : Int) := by simp
  have e2 : Go.bits .or .i64 (x : Int) ((2 ^ k : Nat) : Int) = IntKind.i64.wrap (((BitVec.ofInt 64 (x : Int) ||| BitVec.ofInt 64 ((2 ^ k : Nat) : Int)).toNat : Nat) : Int) := rfl
  rw [e, e2]
  have t : ∀ y : Nat, y < 18446744073709551616 → (BitVec.ofInt 64 (y : Int)).toNat = y := by
    intro y hy
    rw [BitVec.ofInt_natCast, BitVec.toNat_ofNat]
    exact Nat.mod_eq_of_lt hy
  rw [BitVec.toNat_or, t x (by omega), t (2 ^ k) (by omega), or_add hx, IntKind.wrap_i64]
  omega
theorem wrap_pow (k : Nat) (hk : k ≤ 4) : wrap64 ((2 : Int) ^ k) = 2 ^ k := by
  rcases (show k = 0 ∨ k = 1 ∨ k = 2 ∨ k = 3 ∨ k = 4 by omega) with rfl | rfl | rfl | rfl | rfl <;> decide +kernel
set_option maxHeartbeats 1000000 in
theorem contextOf_any (v : Value) (bits : List Bool) (pos d : Nat) (w : World) (h : Rg Value.bool w v bits) (hp : pos ≤ bits.length) (hd : d ≤ 4) :
    Calls Try.prog 29 #[v, .int .i64 pos, .int .i64 d] w fun e w' => e = .returned (.int .i64 (ctxN bits pos d)) ∧ w = w' := by
  have hlen := h.len
  obtain ⟨ao, cap, rfl, h1, h2, h3⟩ := h
  go_enter Try.func29, Try.ntmps29
  go_wp2
  go_loop [7, 11] (fun c i => ∃ k : Nat, k ≤ d ∧ i = .int .i64 k ∧ c = .int .i64 (ctxN bits pos k)) (fun _ i => d - (intOf i).toNat)
  case atStart => exact ⟨0, Nat.zero_le _, rfl, rfl⟩
  case round =>
    obtain ⟨k, hk, rfl, rfl⟩ := hrel
    by_cases hlt : k < d
    · have hc := ctxN_lt bits pos k
      have hs : ctxN bits pos (k + 1) = ctxN bits pos k + (if k < pos ∧ bits.getD (pos - 1 - k) false = true then 2 ^ k else 0) := rfl
      have h16 : 2 ^ k ≤ 2 ^ 4 := Nat.pow_le_pow_right (by decide) (by omega)
      have ho := or_bits (ctxN bits pos k) k hc (by omega)
      by_cases hb : k < pos
      · have hi : pos - 1 - k < bits.length := by omega
        obtain ⟨b, off, rfl, hcell⟩ := h3 (pos - 1 - k) hi
        have hg : bits.getD (pos - 1 - k) false = bits[pos - 1 - k] := by simp [List.getD, hi]
        rw [hg] at hs
        clear hg h3
        generalize bits[pos - 1 - k] = x at hcell hs
        obtain ⟨q, hq⟩ : ∃ q : Nat, (pos : Int) - 1 - k = q ∧ q = pos - 1 - k := ⟨pos - 1 - k, by omega, rfl⟩
        obtain ⟨hq1, rfl⟩ := hq
        generalize pos - 1 - k = q at hcell hs hq1 hi
        generalize ctxN bits pos k = cx at hc hs ho ⊢
        cases x
        · have hs' : ctxN bits pos (k + 1) = cx := by simpa using hs
          have Hs := Lib.hid hs'
          clear hs hs' ho
          go_wp2
          go_round
          case rel => exact ⟨k + 1, by omega, by go_num, by rw [Hs.out]⟩
          case measure => simp [intOf]; omega
        · have hs' : ctxN bits pos (k + 1) = cx + 2 ^ k := by simpa [hb] using hs
          have Hs := Lib.hid hs'
          clear hs hs'
          go_wp2
          go_round
          case rel => exact ⟨k + 1, by omega, by go_num, by rw [Hs.out, wrap_pow k (by omega), ho]⟩
          case measure => simp [intOf]; omega
      · have hs' : ctxN bits pos (k + 1) = ctxN bits pos k := by rw [hs, if_neg (by omega)]; rfl
        have Hs := Lib.hid hs'
        clear hs hs' ho h3
        go_wp2
        go_round
        case rel => exact ⟨k + 1, by omega, by go_num, by rw [Hs.out]⟩
        case measure => simp [intOf]; omega
    · obtain rfl : k = d := by omega
      go_wp2
      go_ret
      exact ⟨rfl, rfl⟩
def bi (b : Bool) : Int := if b then 1 else 0
set_option maxHeartbeats 400000 in
theorem bitAt_any (v : Value) (bits : List Bool) (i : Nat) (w : World) (h : Rg Value.bool w v bits) (hi : i < bits.length) :
    Calls Try.prog 30 #[v, .int .i64 i] w fun e w' => e = .returned (.int .i64 (bi (bits.getD i false))) ∧ w = w' := by
  have hlen := h.len
  obtain ⟨ao, cap, rfl, h1, h2, h3⟩ := h
  obtain ⟨b, off, rfl, hcell⟩ := h3 i hi
  have hg : bits.getD i false = bits[i] := by simp [List.getD, hi]
  rw [hg]
  clear hg h3
  generalize bits[i] = x at hcell ⊢
  cases x
  all_goals
    go_enter Try.func30, Try.ntmps30
    go_wp2
    go_ret
    exact ⟨rfl, rfl⟩
set_option maxHeartbeats 1000000 in
theorem chance_any (z o : Nat) (b : Bool) (w : World) (hz : z + o < 4000) :
    Calls Try.prog 31 #[.agg #[.int .i64 z, .int .i64 o], .int .i64 (bi b)] w fun e w' => e = .returned (.float .f32 (chW (if b then o else z) (z + o + 1))) ∧ Below w.heap.size w w' := by
  have hb : ∀ o, Below w.heap.size w (w.alloc o) := fun o => by go_grown
  have g1 := (hlf_num (if b then o else z) (by cases b <;> simp <;> omega)).1
  have g2 := (ch_num (if b then o else z) (z + o + 1) (by cases b <;> simp) (by omega)).1
  have o1 := run_op (P := Try.prog) g1
  have o2 : ∀ t w, (binOp .quo t (.float .f32 (hlfW (if b then o else z))) (.float .f32 (floatOfInt .f32 ((z : Int) + o + 1)))).run Try.prog w = .ok (.float .f32 (chW (if b then o else z) (z + o + 1))) w := run_op (P := Try.prog) g2
  cases b
  all_goals
    simp only [Bool.false_eq_true, if_false, if_true] at o1 o2 ⊢
    simp only [bi, Bool.false_eq_true, if_false, if_true]
    go_enter Try.func31, Try.ntmps31
    go_wp2
    go_quiet (fail)
    go_wp2
    go_ret
    exact ⟨rfl, bnext (hb _) (below_drewN _ _)⟩
end Go.Proofs.Ythafmldcfdcngaa
