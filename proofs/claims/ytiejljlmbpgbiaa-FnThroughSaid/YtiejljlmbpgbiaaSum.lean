/- Sums of lists. Conditions: numbers from 0 to 2^40, at most 2^20 of them. -/
import Derived.Test.YtiejljlmbpgbiaaBase
namespace Go.Proofs.Ytiejljlmbpgbiaa
open Go.RowKit
set_option maxRecDepth 100000
set_option linter.unusedVariables false
set_option linter.unusedSimpArgs false

def sumL : List Int → Int
  | [] => 0
  | z :: zs => z + sumL zs
def Small (M : Int) (zs : List Int) : Prop := ∀ z ∈ zs, 0 ≤ z ∧ z ≤ M
theorem sumL_bd {M : Int} {zs : List Int} (h : Small M zs) (hM : 0 ≤ M) : 0 ≤ sumL zs ∧ sumL zs ≤ M * zs.length := by
  induction zs with
  | nil => simp [sumL]
  | cons z zs ih =>
    have h1 := h z (by simp)
    have h2 := ih fun y hy => h y (List.mem_cons_of_mem _ hy)
    simp only [sumL, List.length_cons]
    have e : M * ((zs.length + 1 : Nat) : Int) = M * zs.length + M := by rw [Int.natCast_add, Int.mul_add]; simp
    rw [e]; omega
theorem Small.at {M : Int} {zs : List Int} (h : Small M zs) (i : Nat) (hi : i < zs.length) : 0 ≤ zs[i] ∧ zs[i] ≤ M := h _ (List.getElem_mem hi)
theorem small_of_allIn {zs : List Int} {lo hi : Int} (h : allIn zs lo hi = true) (h0 : 0 ≤ lo) : Small hi zs := by
  intro z hz; have := (allIn_iff zs lo hi).1 h z hz; omega
theorem Small.mono {M M' : Int} {zs : List Int} (h : Small M zs) (hM : M ≤ M') : Small M' zs := fun z hz => by have := h z hz; omega
theorem Small.drop {M : Int} {zs : List Int} (h : Small M zs) (k : Nat) : Small M (zs.drop k) := fun z hz => h z (List.mem_of_mem_drop hz)

end Go.Proofs.Ytiejljlmbpgbiaa
