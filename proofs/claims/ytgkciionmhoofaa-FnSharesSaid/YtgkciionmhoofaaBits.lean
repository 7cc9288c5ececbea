/- Words: how many digits are 1, digits, words of so many digits. Conditions: words below 65536. -/
import Derived.Test.YtgkciionmhoofaaText
namespace Go.Proofs.Ytgkciionmhoofaa
open Go.RowKit
set_option maxRecDepth 100000

def wtF : Nat → Nat → Nat
  | 0, _ => 0
  | f + 1, x => x % 2 + wtF f (x / 2)
def wt (x : Nat) : Nat := wtF 16 x
theorem wtF_le (f x : Nat) : wtF f x ≤ f := by
  induction f generalizing x with
  | zero => simp [wtF]
  | succ f ih => have := ih (x / 2); simp only [wtF]; omega
theorem wtF_zero (f : Nat) : wtF f 0 = 0 := by
  induction f with
  | zero => rfl
  | succ f ih => simp [wtF, ih]
theorem wt_le (x : Nat) : wt x ≤ 16 := wtF_le _ _

theorem and64 (a b : Nat) (ha : a < 4294967296) (hb : b < 18446744073709551616) : bits .and .u64 (a : Int) (b : Int) = ((a &&& b : Nat) : Int) := u64_and_nat a b (by omega) hb
theorem w64 (a : Nat) (ha : a < 4294967296) : IntKind.u64.wrap (a : Int) = (a : Int) := by rw [IntKind.wrap_u64]; omega
def n1 (x : Nat) : Nat := (x / 2 &&& 6148914691236517205) + (x &&& 6148914691236517205)
def n2 (x : Nat) : Nat := (x / 4 &&& 3689348814741910323) + (x &&& 3689348814741910323)
def n3 (x : Nat) : Nat := (x / 16 + x) &&& 1085102592571150095
def n4 (x : Nat) : Nat := x + x / 256
def n5 (x : Nat) : Nat := x + x / 65536
def n6 (x : Nat) : Nat := x + x / 4294967296
def n7 (x : Nat) : Nat := x &&& 127
def i1 (x : Int) : Int := IntKind.u64.wrap (bits .and .u64 (x / 2) 6148914691236517205 + bits .and .u64 x 6148914691236517205)
def i2 (x : Int) : Int := IntKind.u64.wrap (bits .and .u64 (x / 4) 3689348814741910323 + bits .and .u64 x 3689348814741910323)
def i3 (x : Int) : Int := bits .and .u64 (IntKind.u64.wrap (x / 16 + x)) 1085102592571150095
def i4 (x : Int) : Int := IntKind.u64.wrap (x + x / 256)
def i5 (x : Int) : Int := IntKind.u64.wrap (x + x / 65536)
def i6 (x : Int) : Int := IntKind.u64.wrap (x + x / 4294967296)
def i7 (x : Int) : Int := bits .and .i64 (wrap64 x) 127
theorem i1_eq (x : Nat) (hx : x < 1073741824) : i1 x = (n1 x : Nat) ∧ n1 x ≤ x / 2 + x := by
  have h1 := Nat.and_le_left (n := x / 2) (m := 6148914691236517205)
  have h2 := Nat.and_le_left (n := x) (m := 6148914691236517205)
  refine ⟨?_, by unfold n1; omega⟩
  unfold i1 n1
  have e1 := and64 (x / 2) 6148914691236517205 (by omega) (by decide)
  have e2 := and64 x 6148914691236517205 (by omega) (by decide)
  rw [show ((x : Int) / 2) = ((x / 2 : Nat) : Int) by omega]
  rw [show (6148914691236517205 : Int) = ((6148914691236517205 : Nat) : Int) from rfl, e1, e2, ← Int.natCast_add, w64 _ (by omega)]
theorem i2_eq (x : Nat) (hx : x < 1073741824) : i2 x = (n2 x : Nat) ∧ n2 x ≤ x / 4 + x := by
  have h1 := Nat.and_le_left (n := x / 4) (m := 3689348814741910323)
  have h2 := Nat.and_le_left (n := x) (m := 3689348814741910323)
  refine ⟨?_, by unfold n2; omega⟩
  unfold i2 n2
  have e1 := and64 (x / 4) 3689348814741910323 (by omega) (by decide)
  have e2 := and64 x 3689348814741910323 (by omega) (by decide)
  rw [show ((x : Int) / 4) = ((x / 4 : Nat) : Int) by omega]
  rw [show (3689348814741910323 : Int) = ((3689348814741910323 : Nat) : Int) from rfl, e1, e2, ← Int.natCast_add, w64 _ (by omega)]
theorem i3_eq (x : Nat) (hx : x < 1073741824) : i3 x = (n3 x : Nat) ∧ n3 x ≤ x / 16 + x := by
  have h1 := Nat.and_le_left (n := x / 16 + x) (m := 1085102592571150095)
  refine ⟨?_, by unfold n3; omega⟩
  unfold i3 n3
  rw [show ((x : Int) / 16 + x) = ((x / 16 + x : Nat) : Int) by omega, w64 _ (by omega)]
  exact and64 (x / 16 + x) 1085102592571150095 (by omega) (by decide)
theorem i4_eq (x : Nat) (hx : x < 1073741824) : i4 x = (n4 x : Nat) ∧ n4 x ≤ x + x / 256 := by
  refine ⟨?_, by unfold n4; omega⟩
  unfold i4 n4
  rw [show ((x : Int) + x / 256) = ((x + x / 256 : Nat) : Int) by omega, w64 _ (by omega)]
theorem i5_eq (x : Nat) (hx : x < 1073741824) : i5 x = (n5 x : Nat) ∧ n5 x ≤ x + x / 65536 := by
  refine ⟨?_, by unfold n5; omega⟩
  unfold i5 n5
  rw [show ((x : Int) + x / 65536) = ((x + x / 65536 : Nat) : Int) by omega, w64 _ (by omega)]
theorem i6_eq (x : Nat) (hx : x < 1073741824) : i6 x = (n6 x : Nat) ∧ n6 x ≤ x + x / 4294967296 := by
  refine ⟨?_, by unfold n6; omega⟩
  unfold i6 n6
  rw [show ((x : Int) + x / 4294967296) = ((x + x / 4294967296 : Nat) : Int) by omega, w64 _ (by omega)]
theorem and_i64_nat (a b : Nat) (ha : a < 4294967296) (hb : b < 4294967296) : bits .and .i64 (a : Int) (b : Int) = ((a &&& b : Nat) : Int) := by
  have := Nat.and_le_left (n := a) (m := b)
  have e : bits .and .i64 (a : Int) (b : Int) = IntKind.i64.wrap (((BitVec.ofInt 64 a &&& BitVec.ofInt 64 b).toNat : Nat) : Int) := rfl
  rw [e, BitVec.toNat_and, ofInt_u64 a (by omega), ofInt_u64 b (by omega), IntWalk.i64_in _ (by omega)]
theorem or_i64_nat (a b : Nat) (ha : a < 4294967296) (hb : b < 4294967296) : bits .or .i64 (a : Int) (b : Int) = ((a ||| b : Nat) : Int) := by
  have := Nat.or_lt_two_pow (n := 32) ha hb
  have e : bits .or .i64 (a : Int) (b : Int) = IntKind.i64.wrap (((BitVec.ofInt 64 a ||| BitVec.ofInt 64 b).toNat : Nat) : Int) := rfl
  rw [e, BitVec.toNat_or, ofInt_u64 a (by omega), ofInt_u64 b (by omega), IntWalk.i64_in _ (by omega)]
theorem xor_i64_nat (a b : Nat) (ha : a < 4294967296) (hb : b < 4294967296) : bits .xor .i64 (a : Int) (b : Int) = ((a ^^^ b : Nat) : Int) := by
  have := Nat.xor_lt_two_pow (n := 32) ha hb
  have e : bits .xor .i64 (a : Int) (b : Int) = IntKind.i64.wrap (((BitVec.ofInt 64 a ^^^ BitVec.ofInt 64 b).toNat : Nat) : Int) := rfl
  rw [e, BitVec.toNat_xor, ofInt_u64 a (by omega), ofInt_u64 b (by omega), IntWalk.i64_in _ (by omega)]
theorem i7_eq (x : Nat) (hx : x < 1073741824) : i7 x = (n7 x : Nat) := by
  unfold i7 n7
  rw [IntWalk.wrap64_in _ (by omega)]
  exact and_i64_nat x 127 (by omega) (by decide)
def k1 (x : Nat) : Nat := Nat.add (Nat.land (Nat.div x 2) 6148914691236517205) (Nat.land x 6148914691236517205)
def k2 (x : Nat) : Nat := Nat.add (Nat.land (Nat.div x 4) 3689348814741910323) (Nat.land x 3689348814741910323)
def k3 (x : Nat) : Nat := Nat.land (Nat.add (Nat.div x 16) x) 1085102592571150095
def lane (x : Nat) : Nat := k3 (k2 (k1 x))
def pc (x : Nat) : Nat := Nat.add (Nat.mod x 2) (Nat.add (Nat.mod (Nat.div x 2) 2) (Nat.add (Nat.mod (Nat.div x 4) 2) (Nat.add (Nat.mod (Nat.div x 8) 2) (Nat.add (Nat.mod (Nat.div x 16) 2) (Nat.add (Nat.mod (Nat.div x 32) 2) (Nat.add (Nat.mod (Nat.div x 64) 2) (Nat.mod (Nat.div x 128) 2)))))))
def chk (h : Nat) : Nat → Bool
  | 0 => true
  | l + 1 => Nat.beq (lane (Nat.add (Nat.mul 256 h) l)) (Nat.add (pc l) (Nat.mul 256 (pc h))) && chk h l
def chk2 : Nat → Bool
  | 0 => true
  | h + 1 => chk h 256 && chk2 h
theorem t0 : chk2 256 = true := by decide +kernel
theorem chk_at (h : Nat) : ∀ m, chk h m = true → ∀ l, l < m → lane (256 * h + l) = pc l + 256 * pc h
  | 0, _, l, hl => by omega
  | m + 1, hc, l, hl => by
    simp only [chk, Bool.and_eq_true] at hc
    by_cases e : l = m
    · subst e; exact Nat.eq_of_beq_eq_true hc.1
    · exact chk_at h m hc.2 l (by omega)
theorem chk2_at : ∀ m, chk2 m = true → ∀ h, h < m → chk h 256 = true
  | 0, _, h, hl => by omega
  | m + 1, hc, h, hl => by
    simp only [chk2, Bool.and_eq_true] at hc
    by_cases e : h = m
    · subst e; exact hc.1
    · exact chk2_at m hc.2 h (by omega)
theorem pc_eq (x : Nat) : pc x = x % 2 + (x / 2 % 2 + (x / 4 % 2 + (x / 8 % 2 + (x / 16 % 2 + (x / 32 % 2 + (x / 64 % 2 + x / 128 % 2)))))) := rfl
theorem wt_pc (x : Nat) : wt x = pc (x % 256) + pc (x / 256) := by
  simp only [wt, wtF, pc_eq, Nat.div_div_eq_div_mul, Nat.reduceMul]
  omega
theorem lane_eq (x : Nat) (hx : x < 65536) : n3 (n2 (n1 x)) = pc (x % 256) + 256 * pc (x / 256) := by
  have h := chk_at (x / 256) 256 (chk2_at 256 t0 (x / 256) (by omega)) (x % 256) (by omega)
  rw [show 256 * (x / 256) + x % 256 = x by omega] at h
  exact h
theorem sw_wt (x : Nat) (hx : x < 65536) : n7 (n6 (n5 (n4 (n3 (n2 (n1 x)))))) = wt x := by
  rw [lane_eq x hx, wt_pc]
  have h1 : pc (x % 256) ≤ 8 := by rw [pc_eq]; omega
  have h2 : pc (x / 256) ≤ 8 := by rw [pc_eq]; omega
  generalize pc (x % 256) = a at *
  generalize pc (x / 256) = b at *
  have e : ∀ y : Nat, n7 y = y % 128 := fun y => Nat.and_two_pow_sub_one_eq_mod y 7
  have e4 : n4 (a + 256 * b) = a + b + 256 * b := by unfold n4; omega
  have e5 : n5 (a + b + 256 * b) = a + b + 256 * b := by unfold n5; omega
  have e6 : n6 (a + b + 256 * b) = a + b + 256 * b := by unfold n6; omega
  rw [e4, e5, e6, e]
  omega
theorem swi_wt (x : Nat) (hx : x < 65536) : i7 (i6 (i5 (i4 (i3 (i2 (i1 x)))))) = (wt x : Nat) := by
  have h1 := i1_eq x (by omega)
  have h2 := i2_eq (n1 x) (by omega)
  have h3 := i3_eq (n2 (n1 x)) (by omega)
  have h4 := i4_eq (n3 (n2 (n1 x))) (by omega)
  have h5 := i5_eq (n4 (n3 (n2 (n1 x)))) (by omega)
  have h6 := i6_eq (n5 (n4 (n3 (n2 (n1 x))))) (by omega)
  rw [h1.1, h2.1, h3.1, h4.1, h5.1, h6.1, i7_eq _ (by omega), sw_wt x hx]

set_option maxHeartbeats 1000000 in
theorem onesCount_any (x : Nat) (hx : x < 65536) (w : World) :
    Calls Try.prog 44 #[.int .u64 x] w fun e w' => e = .returned (.int .i64 (wt x)) ∧ w = w' := by
  go_enter Try.func44, Try.ntmps44
  go_wp2
  go_ret
  exact ⟨ret_i64 (swi_wt x hx), rfl⟩

set_option maxHeartbeats 400000 in
theorem l06Weight_any (x : Nat) (hx : x < 65536) (w : World) :
    Calls Try.prog 32 #[.int .i64 x] w fun e w' => e = .returned (.int .i64 (wt x)) ∧ w = w' := by
  go_enter Try.func32, Try.ntmps32
  go_wp2
  go_loop [0, 3] (fun a n => ∃ f q m : Nat, a = .int .i64 q ∧ n = .int .i64 m ∧ q < 2 ^ f ∧ m + wtF f q = wt x ∧ q < 65536) (fun a _ => (intOf a).toNat)
  case atStart => exact ⟨16, x, 0, rfl, rfl, by omega, by simp [wt], hx⟩
  case round =>
    obtain ⟨f, q, m, rfl, rfl, hq, hm, hqs⟩ := hrel
    have hml : m ≤ 16 := by have := wt_le x; omega
    have Hm := Lib.hid hm; clear hm
    have Hq := Lib.hid hq; clear hq
    by_cases h0 : 0 < q
    · go_wp2
      go_round
      case rel =>
        cases f with
        | zero => have := Hq.out; omega
        | succ f =>
          have h1 := Hq.out; have h2 := Hm.out
          simp only [wtF] at h2
          exact ⟨f, q / 2, m + q % 2, by go_num, by go_num, by rw [Nat.pow_succ] at h1; omega, by omega, by omega⟩
      case measure => simp [intOf]; omega
    · go_wp2
      go_ret
      refine ⟨ret_i64 ?_, rfl⟩
      have h2 := Hm.out
      rw [show q = 0 by omega, wtF_zero] at h2
      omega

theorem pow16 (n : Nat) (hn : n ≤ 16) : (1 : Int) ≤ 2 ^ n ∧ (2 : Int) ^ n ≤ 65536 := by
  have h1 : 2 ^ n ≤ 2 ^ 16 := Nat.pow_le_pow_right (by decide) hn
  have h2 : 1 ≤ 2 ^ n := Nat.one_le_two_pow
  have e : (2 : Int) ^ n = ((2 ^ n : Nat) : Int) := by simp
  rw [e]; omega
def isW (z n : Int) : Bool := inB z 0 (2 ^ n.toNat - 1)
theorem isW_nat {z n : Int} (hn : n ≤ 16) (h : isW z n = true) : ∃ x : Nat, z = x ∧ x < 2 ^ n.toNat ∧ x < 65536 := by
  have h1 := inB_eq h
  simp only [if_true] at h1
  have h2 := pow16 n.toNat (by omega)
  have e : (2 : Int) ^ n.toNat = ((2 ^ n.toNat : Nat) : Int) := by simp
  rw [e] at h1 h2
  exact ⟨z.toNat, by omega, by omega, by omega⟩
end Go.Proofs.Ytgkciionmhoofaa
