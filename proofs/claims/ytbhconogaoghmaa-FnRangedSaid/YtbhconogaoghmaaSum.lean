/- Sums of lists. Conditions: numbers from 0 to 2^40, at most 2^20 of them. -/
import Derived.Test.YtbhconogaoghmaaBase
namespace Go.Proofs.Ytbhconogaoghmaa
open Go.RowKit
set_option maxRecDepth 100000
set_option linter.unusedVariables false
set_option linter.unusedSimpArgs false

def sumL : List Int → Int
  | [] => 0
  | z :: zs => z + sumL zs
def Small (M : Int) (zs : List Int) : Prop := ∀ z ∈ zs, 0 ≤ z ∧ z ≤ M
theorem sumL_bd {M : Int} {zs : List Int} (h : Small M zs) (hM : 0 ≤ M) : 0 ≤ sumL zs ∧ sumL zs ≤ M * zs.length := by
  induction zs with
  | nil => simp [sumL]
  | cons z zs ih =>
    have h1 := h z (by simp)
    have h2 := ih fun y hy => h y (List.mem_cons_of_mem _ hy)
    simp only [sumL, List.length_cons]
    have e : M * ((zs.length + 1 : Nat) : Int) = M * zs.length + M := by rw [Int.natCast_add, Int.mul_add]; simp
    rw [e]; omega
theorem Small.at {M : Int} {zs : List Int} (h : Small M zs) (i : Nat) (hi : i < zs.length) : 0 ≤ zs[i] ∧ zs[i] ≤ M := h _ (List.getElem_mem hi)
theorem small_of_allIn {zs : List Int} {lo hi : Int} (h : allIn zs lo hi = true) (h0 : 0 ≤ lo) : Small hi zs := by
  intro z hz; have := (allIn_iff zs lo hi).1 h z hz; omega
theorem Small.mono {M M' : Int} {zs : List Int} (h : Small M zs) (hM : M ≤ M') : Small M' zs := fun z hz => by have := h z hz; omega
theorem Small.drop {M : Int} {zs : List Int} (h : Small M zs) (k : Nat) : Small M (zs.drop k) := fun z hz => h z (List.mem_of_mem_drop hz)

set_option maxHeartbeats 400000 in
theorem sumOf_any (v : Value) (zs : List Int) (w : World) (h : RI w v zs) (hb : Small 1099511627776 zs) (hl : zs.length ≤ 1048576) :
    Calls Try.prog 51 #[v] w fun e w' => e = .returned (.int .i64 (sumL zs)) ∧ w = w' := by
  obtain ⟨_, ao, cap, rfl, h1, h2, h3⟩ := h
  have hs := sumL_bd hb (by decide)
  go_enter Try.func51, Try.ntmps51
  go_wp2
  go_loop [3, 8] (fun s i => ∃ (k : Nat) (acc : Int), k ≤ zs.length ∧ i = .int .i64 k ∧ s = .int .i64 acc ∧ 0 ≤ acc ∧ acc + sumL (zs.drop k) = sumL zs) (fun _ i => zs.length - (intOf i).toNat)
  case atStart => exact ⟨0, 0, Nat.zero_le _, rfl, rfl, by omega, by simp⟩
  case round =>
    obtain ⟨k, acc, hk, rfl, rfl, ha, hall⟩ := hrel
    have hd := sumL_bd (hb.drop k) (by decide)
    have hal : acc ≤ 1152921504606846976 := by omega
    have Hall := Lib.hid hall; clear hall hd
    by_cases hlt : k < zs.length
    · obtain ⟨b, off, rfl, hc⟩ := h3 k hlt
      have Hd := Lib.hid (List.drop_eq_getElem_cons hlt)
      have hz := hb.at k hlt
      clear h3 hb hs
      generalize zs[k] = z at hc Hd hz
      obtain ⟨hz0, hz1⟩ := hz
      go_wp2
      go_round
      case rel => exact ⟨k + 1, acc + z, by omega, by go_num, rfl, by omega, by rw [← Hall.out, Hd.out, sumL]; omega⟩
      case measure => simp [intOf]; omega
    · go_wp2
      go_ret
      exact ⟨ret_i64 (by rw [← Hall.out, List.drop_of_length_le (by omega)]; simp [sumL]), rfl⟩
end Go.Proofs.Ytbhconogaoghmaa
