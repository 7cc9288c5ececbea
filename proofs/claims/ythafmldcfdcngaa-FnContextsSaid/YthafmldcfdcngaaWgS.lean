/- WeighBits in the reference. No conditions but that the slice reads. -/
import Derived.Test.YthafmldcfdcngaaGbS
import Derived.Test.YthafmldcfdcngaaEx
import Derived.Test.YthafmldcfdcngaaWgP
namespace Go.Proofs.Ythafmldcfdcngaa
open Go.RowKit
set_option maxRecDepth 100000
set_option linter.unusedVariables false
set_option linter.unusedSimpArgs false

def wbV (bits : List Bool) (deep : Int) : Nat := if tld bits deep = true then wbW bits deep.toNat else 0
theorem wbV_num (bits : List Bool) (deep : Int) : ∃ q, Num .f32 (wbV bits deep) q := by
  unfold wbV
  split
  · obtain ⟨h1, h2, h3⟩ := tld_parts (by assumption)
    obtain ⟨-, q, r, -, h, -⟩ := wb_num bits deep.toNat h1 (by omega)
    exact ⟨r, h⟩
  · exact ⟨0, num_zero .f32⟩
theorem cnt_hit (bits : List Bool) (deep c k : Nat) (b : Bool) (h : ctxN bits k deep = c) (hb : bits.getD k false = b) : cnt bits deep c b (k + 1) = cnt bits deep c b k + 1 := by
  rw [cnt, if_pos ⟨h, hb⟩]
theorem cnt_other (bits : List Bool) (deep c k : Nat) (b : Bool) (hb : bits.getD k false ≠ b) : cnt bits deep c b (k + 1) = cnt bits deep c b k := by
  rw [cnt, if_neg (fun h => hb h.2)]; rfl
theorem cnt_far (bits : List Bool) (deep c k : Nat) (b : Bool) (h : ctxN bits k deep ≠ c) : cnt bits deep c b (k + 1) = cnt bits deep c b k := by
  rw [cnt, if_neg (fun hh => h hh.1)]; rfl
theorem wg_more (bits : List Bool) (deep long c : Nat) (h : long < deep) : wgW bits deep (deep - long) c = cbW (smW bits long c bits.length) (fadd .f32 (wgW bits deep (deep - (long + 1)) c) (wgW bits deep (deep - (long + 1)) (c + 2 ^ long))) := by
  obtain ⟨r, hr⟩ : ∃ r, deep - long = r + 1 := ⟨deep - long - 1, by omega⟩
  rw [hr, wgW, show deep - (long + 1) = r by omega, show deep - (r + 1) = long by omega]
theorem wg_last (bits : List Bool) (deep c : Nat) : wgW bits deep (deep - deep) c = smW bits deep c bits.length := by
  rw [Nat.sub_self]; rfl
theorem pow_more {long deep c : Nat} (h : long < deep) (hd : deep ≤ 4) (hc : c < 2 ^ long) : c < 2 ^ (long + 1) ∧ c + 2 ^ long < 2 ^ (long + 1) ∧ c + 2 ^ long ≤ 64 := by
  have h1 : 2 ^ long ≤ 2 ^ 4 := Nat.pow_le_pow_right (by decide) (by omega)
  rw [Nat.pow_succ]; omega
end Go.Proofs.Ythafmldcfdcngaa
