/- GuessBits in the reference. No conditions but that the slice reads. -/
import Derived.Test.YthafmldcfdcngaaGb
import Derived.Test.YthafmldcfdcngaaMk
namespace Go.Proofs.Ythafmldcfdcngaa
open Go.RowKit
set_option maxRecDepth 100000
set_option linter.unusedVariables false
set_option linter.unusedSimpArgs false

def cntL (bits : List Bool) (deep : Nat) (b : Bool) (k : Nat) : List Int := (List.range (2 ^ deep)).map fun c => (cnt bits deep c b k : Int)
theorem cntL_len (bits : List Bool) (deep : Nat) (b : Bool) (k : Nat) : (cntL bits deep b k).length = 2 ^ deep := by simp [cntL]
theorem cntL_get (bits : List Bool) (deep : Nat) (b : Bool) (k c : Nat) (h : c < 2 ^ deep) : (cntL bits deep b k)[c]? = some (cnt bits deep c b k : Int) := by
  simp [cntL, h]
theorem cntL_hit (bits : List Bool) (deep : Nat) (b : Bool) (k : Nat) (h : bits.getD k false = b) : cntL bits deep b (k + 1) = (cntL bits deep b k).set (ctxN bits k deep) ((cnt bits deep (ctxN bits k deep) b k : Int) + 1) := by
  refine List.ext_getElem? fun i => ?_
  rw [List.getElem?_set]
  by_cases hi : i < 2 ^ deep
  · rw [cntL_get _ _ _ _ _ hi, cntL_len, cnt]
    by_cases e : ctxN bits k deep = i
    · subst e; rw [if_pos ⟨rfl, h⟩, if_pos rfl, if_pos hi]; simp
    · rw [if_neg e, cntL_get _ _ _ _ _ hi, if_neg (fun hh => e hh.1)]; simp
  · rw [List.getElem?_eq_none (by rw [cntL_len]; omega), if_neg (fun e => by have := ctxN_lt bits k deep; omega), List.getElem?_eq_none (by rw [cntL_len]; omega)]
theorem cntL_miss (bits : List Bool) (deep : Nat) (b : Bool) (k : Nat) (h : bits.getD k false ≠ b) : cntL bits deep b (k + 1) = cntL bits deep b k := by
  unfold cntL
  refine List.map_congr_left fun c _ => ?_
  rw [cnt, if_neg (fun hh => h hh.2)]; simp
theorem cntL_zero (bits : List Bool) (deep : Nat) (b : Bool) : cntL bits deep b 0 = List.replicate (2 ^ deep) 0 := by
  refine List.ext_getElem? fun i => ?_
  by_cases hi : i < 2 ^ deep
  · rw [cntL_get _ _ _ _ _ hi]; simp [hi, cnt]
  · rw [List.getElem?_eq_none (by rw [cntL_len]; omega), List.getElem?_eq_none (by simp; omega)]
def gbV (bits : List Bool) (deep : Int) : Nat := if tld bits deep = true then alW bits deep.toNat bits.length else 0
theorem tld_parts {bits : List Bool} {deep : Int} (h : tld bits deep = true) : bits.length ≤ 1024 ∧ 0 ≤ deep ∧ deep ≤ 4 := by
  simpa [tld, inB] using h
theorem gbV_num (bits : List Bool) (deep : Int) : ∃ q, Num .f32 (gbV bits deep) q := by
  unfold gbV
  split
  · obtain ⟨q, h, -⟩ := al_acc bits deep.toNat bits.length (tld_parts (by assumption)).1
    exact ⟨q, h⟩
  · exact ⟨0, num_zero .f32⟩
theorem pow4 (d : Nat) (h : d ≤ 4) : 1 ≤ 2 ^ d ∧ 2 ^ d ≤ 16 := ⟨Nat.one_le_two_pow, Nat.le_trans (Nat.pow_le_pow_right (by decide) h) (by decide)⟩
theorem wrap_one (d : Nat) (h : d ≤ 4) : wrap64 ((2 : Int) ^ d) = ((2 ^ d : Nat) : Int) := by
  rw [wrap_pow d h]; simp
theorem alW_succ (bits : List Bool) (d k : Nat) : alW bits d (k + 1) = fadd .f32 (alW bits d k) (costW (pcW bits d k)) := rfl
end Go.Proofs.Ythafmldcfdcngaa
