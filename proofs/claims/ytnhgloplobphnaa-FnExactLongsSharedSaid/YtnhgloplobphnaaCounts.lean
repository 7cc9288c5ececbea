/- Counts of letters: which are valid. No conditions but that the slices read. -/
import Derived.Test.YtnhgloplobphnaaText
import Derived.Test.YtnhgloplobphnaaSum
import Derived.Handy
namespace Go.Proofs.Ytnhgloplobphnaa
open Go.RowKit
set_option maxRecDepth 100000
set_option linter.unusedVariables false
set_option linter.unusedSimpArgs false

def cts (n : Int) (zs : List Int) : Bool := sgn n && (((zs.length : Int) == n) && (allIn zs 1 16384 && decide (sumL zs ≤ 16384)))
theorem cts_parts {n : Int} {zs : List Int} (h : cts n zs = true) : 2 ≤ n ∧ n ≤ 16 ∧ (zs.length : Int) = n ∧ (∀ z ∈ zs, 1 ≤ z ∧ z ≤ 16384) ∧ sumL zs ≤ 16384 := by
  simp only [cts, sgn, inB, Bool.and_eq_true, decide_eq_true_eq, beq_iff_eq] at h
  exact ⟨h.1.1, h.1.2, h.2.1, (allIn_iff _ _ _).1 h.2.2.1, h.2.2.2⟩
set_option maxHeartbeats 400000 in
theorem total_any (n : Int) (v : Value) (zs : List Int) (w : World) (h : RI w v zs) (hb : Small 1099511627776 zs) (hl : zs.length ≤ 1048576) :
    Calls Try.prog 39 #[.agg #[.int .i64 n, v]] w fun e w' => e = .returned (.int .i64 (sumL zs)) ∧ Below w.heap.size w w' := by
  have hb' : ∀ o, Below w.heap.size w (w.alloc o) := fun o => by go_grown
  have g := h.below (hb' (.cells #[.int .i64 n, v] 40))
  obtain ⟨ao, cap, rfl⟩ := h.shape
  go_enter Try.func39, Try.ntmps39
  go_wp2_with (go_at_call 40; refine (sumOf_any _ zs _ g hb hl).mono ?_; rintro e w' ⟨rfl, rfl⟩)
  go_ret
  exact ⟨rfl, hb' _⟩
set_option maxHeartbeats 400000 in
theorem l05Total_any (n : Int) (v : Value) (zs : List Int) (B : Nat) (w : World) (h : RI w v zs) (c1 : w.cell? ⟨B, 1, none⟩ = some v) (hb : Small 1099511627776 zs) (hl : zs.length ≤ 1048576) :
    Calls Try.prog 37 #[.pointer (some ⟨B, 0, none⟩)] w fun e w' => e = .returned (.int .i64 (sumL zs)) ∧ w = w' := by
  obtain ⟨_, ao, cap, rfl, h1, h2, h3⟩ := h
  have hs := sumL_bd hb (by decide)
  go_enter Try.func37, Try.ntmps37
  go_wp2
  go_loop [3, 10] (fun s i => ∃ (k : Nat) (acc : Int), k ≤ zs.length ∧ i = .int .i64 k ∧ s = .int .i64 acc ∧ 0 ≤ acc ∧ acc + sumL (zs.drop k) = sumL zs) (fun _ i => zs.length - (intOf i).toNat)
  case atStart => exact ⟨0, 0, Nat.zero_le _, rfl, rfl, by omega, by simp⟩
  case round =>
    obtain ⟨k, acc, hk, rfl, rfl, ha, hall⟩ := hrel
    have hd := sumL_bd (hb.drop k) (by decide)
    have hal : acc ≤ 1152921504606846976 := by omega
    have Hall := Lib.hid hall; clear hall hd
    by_cases hlt : k < zs.length
    · obtain ⟨b, off, rfl, hc⟩ := h3 k hlt
      have Hd := Lib.hid (List.drop_eq_getElem_cons hlt)
      have hz := hb.at k hlt
      clear h3 hb hs
      generalize zs[k] = z at hc Hd hz
      obtain ⟨hz0, hz1⟩ := hz
      go_wp2
      go_round
      case rel => exact ⟨k + 1, acc + z, by omega, by go_num, rfl, by omega, by rw [← Hall.out, Hd.out, sumL]; omega⟩
      case measure => simp [intOf]; omega
    · go_wp2
      go_ret
      exact ⟨ret_i64 (by rw [← Hall.out, List.drop_of_length_le (by omega)]; simp [sumL]), rfl⟩
end Go.Proofs.Ytnhgloplobphnaa
