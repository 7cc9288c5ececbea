/- Values over a prime: what the loops compute, as plain functions. No conditions. -/
import Derived.Test.YtgkciionmhoofaaMem
namespace Go.Proofs.Ytgkciionmhoofaa
open Go.RowKit
set_option maxRecDepth 100000
set_option linter.unusedVariables false
set_option linter.unusedSimpArgs false

def primes : List Int := [7, 11, 13, 17, 31, 127, 257]
def memB (zs : List Int) (x : Int) : Bool := zs.any fun z => z == x
def prm (p : Int) : Bool := memB primes p
theorem prm_cases {p : Int} (h : prm p = true) : p = 7 ∨ p = 11 ∨ p = 13 ∨ p = 17 ∨ p = 31 ∨ p = 127 ∨ p = 257 := by
  simp only [prm, memB, primes, List.any_cons, List.any_nil, Bool.or_false, Bool.or_eq_true, beq_iff_eq] at h
  omega
theorem prm_bd {p : Int} (h : prm p = true) : 7 ≤ p ∧ p ≤ 257 := by have := prm_cases h; omega
def nums (p : Int) (zs : List Int) (lo hi : Int) : Bool := prm p && decide (lo ≤ (zs.length : Int)) && decide ((zs.length : Int) ≤ hi) && allIn zs 0 (p - 1)
theorem nums_parts {p : Int} {zs : List Int} {lo hi : Int} (h : nums p zs lo hi = true) : prm p = true ∧ 7 ≤ p ∧ p ≤ 257 ∧ lo ≤ zs.length ∧ (zs.length : Int) ≤ hi ∧ ∀ z ∈ zs, 0 ≤ z ∧ z < p := by
  simp only [nums, Bool.and_eq_true, decide_eq_true_eq] at h
  obtain ⟨⟨⟨h1, h2⟩, h3⟩, h4⟩ := h
  have hb := prm_bd h1
  exact ⟨h1, hb.1, hb.2, h2, h3, fun z hz => by have := (allIn_iff _ _ _).1 h4 z hz; omega⟩
/-- Of a polynomial the lowest term first. -/
def valF (p x : Int) : List Int → Int
  | [] => 0
  | t :: ts => (valF p x ts * x + t) % p
theorem valF_bd {p : Int} (hp : 0 < p) (x : Int) (ts : List Int) : 0 ≤ valF p x ts ∧ valF p x ts < p := by
  cases ts with
  | nil => simp [valF]; omega
  | cons t ts => rw [valF]; exact ⟨Int.emod_nonneg _ (by omega), Int.emod_lt_of_pos _ hp⟩
def vals (p : Int) (ts : List Int) (x0 n : Nat) : List Int := (List.range n).map fun x => valF p ((x0 + x : Nat) : Int) ts
theorem vals_len (p : Int) (ts : List Int) (x0 n : Nat) : (vals p ts x0 n).length = n := by simp [vals]
theorem vals_snoc (p : Int) (ts : List Int) (x0 n : Nat) : vals p ts x0 n ++ [valF p ((x0 + n : Nat) : Int) ts] = vals p ts x0 (n + 1) := by
  unfold vals; rw [List.range_succ, List.map_append]; rfl
theorem vals_i64 {p : Int} (hp : 0 < p) (hp2 : p ≤ 257) (ts : List Int) (x0 n : Nat) : AllI64 (vals p ts x0 n) := by
  intro z hz
  obtain ⟨x, _, rfl⟩ := List.mem_map.1 hz
  have := valF_bd hp ((x0 + x : Nat) : Int) ts
  constructor <;> omega
def ssOk (p s : Int) (more : List Int) (c : Int) : Bool := nums p more 0 7 && inB s 0 (p - 1) && inB c 1 8 && decide (c < p)
def ssZ (p s : Int) (more : List Int) (c : Int) : List Int := if ssOk p s more c = true then vals p (s :: more) 1 c.toNat else []
theorem ssZ_len (p s : Int) (more : List Int) (c : Int) : (ssZ p s more c).length ≤ 16777216 := by
  unfold ssZ; split
  · have h : ssOk p s more c = true := by assumption
    simp only [ssOk, inB, Bool.and_eq_true, decide_eq_true_eq] at h
    rw [vals_len]; omega
  · simp
def voOk (p : Int) (msg : List Int) (n : Int) : Bool := nums p msg 1 8 && inB n 1 8 && decide (n < p)
def voZ (p : Int) (msg : List Int) (n : Int) : List Int := if voOk p msg n = true then vals p msg 0 n.toNat else []
theorem voZ_len (p : Int) (msg : List Int) (n : Int) : (voZ p msg n).length ≤ 16777216 := by
  unfold voZ; split
  · have h : voOk p msg n = true := by assumption
    simp only [voOk, inB, Bool.and_eq_true, decide_eq_true_eq] at h
    rw [vals_len]; omega
  · simp
end Go.Proofs.Ytgkciionmhoofaa
