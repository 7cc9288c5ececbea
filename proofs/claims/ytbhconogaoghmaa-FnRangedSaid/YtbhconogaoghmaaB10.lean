/- A number that a byte chooses, as a function. Conditions: the slice reads as bytes. -/
import Derived.Test.YtbhconogaoghmaaSrc
namespace Go.Proofs.Ytbhconogaoghmaa
open Go.RowKit
set_option maxRecDepth 100000
set_option linter.unusedVariables false
set_option linter.unusedSimpArgs false

/-- The number that a byte chooses, or its index behind the end. -/
def b10F (bs : List Int) (i : Nat) (n : Int) : Int := if i < bs.length then bs[i]?.getD 0 % n else ((i : Int) * 37 + 11) % n
theorem b10F_bd (bs : List Int) (i : Nat) {n : Int} (hn : 1 ≤ n) : 0 ≤ b10F bs i n ∧ b10F bs i n < n := by
  unfold b10F; split
  · exact ⟨Int.emod_nonneg _ (by omega), Int.emod_lt_of_pos _ (by omega)⟩
  · exact ⟨Int.emod_nonneg _ (by omega), Int.emod_lt_of_pos _ (by omega)⟩
theorem ret_i64' {a b : Int} (h : a = b) : Ending.returned (.int .i64 a) = Ending.returned (.int .i64 b) := by rw [h]
set_option maxHeartbeats 400000 in
theorem b10At_f (v : Value) (bs : List Int) (i n : Nat) (w : World) (h : RB w v bs) (hi : i ≤ 1000) (hn : 2 ≤ n) (hn2 : n ≤ 1000) :
    Calls Try.prog 5 #[v, .int .i64 i, .int .i64 n] w fun e w' => e = .returned (.int .i64 (b10F bs i n)) ∧ w = w' := by
  have hlen := h.len
  obtain ⟨ao, cap, rfl⟩ := h.shape
  have hn1 : ¬ (n : Int) ≤ 1 := by omega
  have hn1' : ¬ n ≤ 1 := by omega
  by_cases hlt : i < bs.length
  · obtain ⟨b0, off, rfl, -, hcs⟩ := h.2.cells (by omega)
    have hc := hcs i hlt
    have hb := h.1 bs[i] (List.getElem_mem hlt)
    have HR := Lib.hid (show b10F bs i n = bs[i] % (n : Int) by rw [b10F, if_pos hlt, List.getElem?_eq_getElem hlt]; rfl)
    generalize bs[i] = x at *
    have q1 := Int.emod_nonneg x (show (n : Int) ≠ 0 by omega)
    have q2 := Int.emod_lt_of_pos x (show (0 : Int) < n by omega)
    clear h hcs
    go_enter Try.func5, Try.ntmps5
    go_wp2
    go_ret
    exact ⟨ret_i64' HR.out.symm, rfl⟩
  · have HR := Lib.hid (show b10F bs i n = ((i : Int) * 37 + 11) % (n : Int) by rw [b10F, if_neg hlt])
    have q1 := Int.emod_nonneg ((i : Int) * 37 + 11) (show (n : Int) ≠ 0 by omega)
    have q2 := Int.emod_lt_of_pos ((i : Int) * 37 + 11) (show (0 : Int) < n by omega)
    clear h
    go_enter Try.func5, Try.ntmps5
    go_wp2
    go_ret
    exact ⟨ret_i64' HR.out.symm, rfl⟩
end Go.Proofs.Ytbhconogaoghmaa
