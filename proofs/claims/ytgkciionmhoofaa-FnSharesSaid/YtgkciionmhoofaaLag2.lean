/- JoinShares: what both packages return. No conditions but that the slices read. -/
import Derived.Test.YtgkciionmhoofaaLag
namespace Go.Proofs.Ytgkciionmhoofaa
open Go.RowKit
set_option maxRecDepth 100000
set_option linter.unusedVariables false
set_option linter.unusedSimpArgs false

theorem mul_mod_mod (a b p : Int) : a * (b % p) % p = a * b % p := by rw [Int.mul_emod, Int.emod_emod_of_dvd _ (Int.dvd_refl p), ← Int.mul_emod]
def Apart (ps : List Int) : Prop := ∀ i j (hi : i < ps.length) (hj : j < ps.length), i ≠ j → ps[i] ≠ ps[j]
theorem Apart.prod {p : Int} {ps : List Int} (h : Apart ps) (hp : prm p = true) (hps : ∀ z ∈ ps, 0 ≤ z ∧ z < p) (i : Nat) (hi : i < ps.length) : 0 < prodF p ps[i] i 0 ps 1 := by
  have hb := prm_bd hp
  exact prodF_pos hp (hps _ (List.getElem_mem hi)) i 0 ps hps (fun j hj e => h i j hi hj (by omega)) (by omega) (by omega)
theorem Apart.of {ps : List Int} (h : dstF ps ps.length 0 = true) : Apart ps := fun i j hi hj hne => by
  rcases Nat.lt_or_ge i j with hlt | hge
  · exact dstF_at h j (Nat.zero_le _) (by omega) i hlt hj
  · exact fun e => dstF_at h i (Nat.zero_le _) (by omega) j (by omega) hi e.symm
theorem Apart.take {ps : List Int} (h : Apart ps) (n : Nat) : Apart (ps.take n) := fun i j hi hj hne => by
  rw [List.length_take] at hi hj
  rw [List.getElem_take, List.getElem_take]; exact h i j (by omega) (by omega) hne
end Go.Proofs.Ytgkciionmhoofaa
