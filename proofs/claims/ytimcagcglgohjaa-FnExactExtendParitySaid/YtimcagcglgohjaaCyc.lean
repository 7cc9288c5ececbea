/- Parities of one row, and of a polynomial. No conditions. -/
import Derived.Test.YtimcagcglgohjaaParA
namespace Go.Proofs.Ytimcagcglgohjaa
open Go.RowKit
set_option maxRecDepth 100000
set_option linter.unusedVariables false
set_option linter.unusedSimpArgs false

theorem apN_t (n : Int) : apN true n = n := rfl
theorem apN_f (n : Int) : apN false n = 0 := rfl
theorem apV_t (v : Value) : apV true v = v := rfl
theorem apV_f (v : Value) : apV false v = .slice none 0 0 := rfl
def apZ (b : Bool) (zs : List Int) : List Int := if b = true then zs else []
theorem apZ_len {b : Bool} {zs : List Int} (h : b = true → zs.length ≤ 16777216) : (apZ b zs).length ≤ 16777216 := by
  unfold apZ; split
  · exact h ‹_›
  · simp
theorem prv_len {n : Int} {zs : List Int} (h : prv n zs = true) : zs.length ≤ 16777216 := by
  obtain ⟨_, _, _, _, _, h8, _⟩ := prv_parts h; omega
def rpZ (n : Int) : List Int := [2 ^ n.toNat - 1]
def rpOk (n : Int) : Bool := inB n 1 16 && prv n (rpZ n)
theorem rpZ_len (n : Int) : (apZ (rpOk n) (rpZ n)).length ≤ 16777216 := apZ_len fun _ => by simp [rpZ]
theorem own_one (w : World) (x : Int) (hx : I64 x) : OI w.heap.size (w.alloc (.cells #[.int .i64 x] 2)) (.slice (some ⟨w.heap.size, 0, none⟩) 1 1) [x] :=
  OI.own (e := 2) (by intro z hz; simp only [List.mem_singleton] at hz; subst hz; exact hx) ⟨by simp, .inr ⟨w.heap.size, 1, #[.int .i64 x], rfl, Nat.le_refl _, heap_alloc_new w _, Nat.le_refl _, by unfold maxLen; omega, by simp, by simp⟩⟩
/-- The rows of a polynomial. -/
def cyF (n : Int) : Nat → Nat → List Nat → List Nat
  | 0, _, out => out
  | r + 1, x, out => if isW x n = true then cyF n r (2 * x) (out ++ [x]) else out
def cyB (n p : Int) : Bool := inB n 1 16 && (isW p n && decide (p % 2 ≠ 0))
def cyZ (n p : Int) : List Int := ofN (cyF n 17 p.toNat [])
def cyOk (n p : Int) : Bool := cyB n p && prv n (cyZ n p)
theorem cyF_len (n : Int) (r x : Nat) (out : List Nat) : (cyF n r x out).length ≤ out.length + r := by
  induction r generalizing x out with
  | zero => simp [cyF]
  | succ r ih => rw [cyF]; split
                 · have := ih (2 * x) (out ++ [x]); simp only [List.length_append, List.length_singleton] at this; omega
                 · omega
theorem cyZ_len (n p : Int) : (apZ (cyOk n p) (cyZ n p)).length ≤ 16777216 := apZ_len fun _ => by
  have := cyF_len n 17 p.toNat []
  rw [cyZ, ofN_len]; simp at this; omega
theorem ofN_snoc (xs : List Nat) (x : Nat) : ofN xs ++ [(x : Int)] = ofN (xs ++ [x]) := by simp [ofN]
theorem isW_iff (x m : Nat) (hm : m ≤ 16) : isW x m = decide (x < 2 ^ m) := by
  have h := pow16 m hm
  have e : (2 : Int) ^ m = ((2 ^ m : Nat) : Int) := by simp
  rw [e] at h
  rw [Bool.eq_iff_iff]
  simp only [isW, inB, Int.toNat_natCast, Bool.and_eq_true, decide_eq_true_eq]
  rw [e]; omega
theorem cyF_stop {n : Int} {x : Nat} (h : isW x n = false) (r : Nat) (out : List Nat) : cyF n r x out = out := by
  cases r with
  | zero => rfl
  | succ r => rw [cyF, h]; simp
theorem snoc_lt {M : Nat} {out : List Nat} {x : Nat} (h : Lt M out) (hx : x < M) : Lt M (out ++ [x]) := by
  intro y hy; rcases List.mem_append.1 hy with hy | hy
  · exact h y hy
  · simp only [List.mem_singleton] at hy; omega
end Go.Proofs.Ytimcagcglgohjaa
