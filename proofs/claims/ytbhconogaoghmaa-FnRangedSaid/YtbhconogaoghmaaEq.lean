/- Two slices of integers held against each other. No conditions but that the slices read. -/
import Derived.Test.YtbhconogaoghmaaBase
namespace Go.Proofs.Ytbhconogaoghmaa
open Go.RowKit
set_option maxRecDepth 100000
set_option linter.unusedVariables false
set_option linter.unusedSimpArgs false

def eqL (xs ys : List Int) : Bool := decide (xs = ys)
theorem eqL_len {xs ys : List Int} (h : ¬ xs.length = ys.length) : eqL xs ys = false := by
  simp only [eqL, decide_eq_false_iff_not]; intro e; exact h (by rw [e])
theorem eqL_cons (x y : Int) (xs ys : List Int) : eqL (x :: xs) (y :: ys) = ((x == y) && eqL xs ys) := by
  rw [Bool.eq_iff_iff]; simp [eqL]
theorem eqL_self (xs : List Int) : eqL xs xs = true := by simp [eqL]
theorem eqL_true {xs ys : List Int} (h : eqL xs ys = true) : xs = ys := by simpa [eqL] using h

set_option maxHeartbeats 400000 in
theorem slEqual_any (v v' : Value) (xs ys : List Int) (w : World) (h : RI w v xs) (h' : RI w v' ys) :
    Calls Try.prog 45 #[v, v'] w fun e w' => e = .returned (.bool (eqL xs ys)) ∧ ∃ n, w' = w.drewN n := by
  have hlen := h.len
  have hlen' := h'.len
  obtain ⟨_, ao, cap, rfl, h1, h2, h3⟩ := h
  obtain ⟨_, ao', cap', rfl, h1', h2', h3'⟩ := h'
  by_cases hl : xs.length = ys.length
  · have hll : ((xs.length : Int) != (ys.length : Int)) = false := by simp [hl]
    have Hl := Lib.hid hl
    clear hl
    go_enter Try.func45, Try.ntmps45
    go_wp2
    go_loopw [13] (fun i wr => ∃ k : Nat, k ≤ xs.length ∧ i = .int .i64 k ∧ eqL (xs.drop k) (ys.drop k) = eqL xs ys ∧ ∃ n, wr = w.drewN n) (fun i _ => xs.length - (intOf i).toNat)
    case atStart => exact ⟨0, Nat.zero_le _, rfl, rfl, 0, rfl⟩
    case round =>
      obtain ⟨k, hk, rfl, hq, n, rfl⟩ := hrel
      have Hq := Lib.hid hq
      clear hq
      by_cases hlt : k < xs.length
      · have hlt' : k < ys.length := by have := Hl.out; omega
        obtain ⟨b, off, rfl, hc⟩ := h3 k hlt
        obtain ⟨b', off', rfl, hc'⟩ := h3' k hlt'
        have Hd := Lib.hid (List.drop_eq_getElem_cons hlt)
        have Hd' := Lib.hid (List.drop_eq_getElem_cons hlt')
        clear h3 h3'
        generalize xs[k] = x at hc Hd
        generalize ys[k] = y at hc' Hd'
        by_cases hxy : x = y
        · subst hxy
          go_wp2
          go_quiet (fail)
          go_wp2
          go_roundw
          case rel => exact ⟨k + 1, by omega, by go_num, by rw [← Hq.out, Hd.out, Hd'.out, eqL_cons]; simp, _, rfl⟩
          case measure => simp [intOf]; omega
        · have hne : (x != y) = true := by simp [hxy]
          go_wp2
          go_quiet (fail)
          go_wp2
          go_ret
          exact ⟨ret_bool (by rw [← Hq.out, Hd.out, Hd'.out, eqL_cons]; simp [hxy]), n + nq, by simp⟩
      · go_wp2
        go_ret
        exact ⟨ret_bool (by rw [← Hq.out, List.drop_of_length_le (by omega), List.drop_of_length_le (by have := Hl.out; omega)]; rfl), n, rfl⟩
  · have hll : ((xs.length : Int) != (ys.length : Int)) = true := by simp; omega
    have He := Lib.hid (eqL_len hl)
    clear hl
    go_enter Try.func45, Try.ntmps45
    go_wp2
    go_ret
    exact ⟨ret_bool (by rw [He.out]), 0, rfl⟩
set_option maxHeartbeats 400000 in
theorem b10Ints_any (v v' : Value) (xs ys : List Int) (w : World) (h : RI w v xs) (h' : RI w v' ys) :
    Calls Try.prog 14 #[v, v'] w fun e w' => e = .returned (.bool (eqL xs ys)) ∧ ∃ n, w' = w.drewN n := by
  have hlen := h.len
  have hlen' := h'.len
  obtain ⟨_, ao, cap, rfl, h1, h2, h3⟩ := h
  obtain ⟨_, ao', cap', rfl, h1', h2', h3'⟩ := h'
  by_cases hl : xs.length = ys.length
  · have hll : ((xs.length : Int) != (ys.length : Int)) = false := by simp [hl]
    have Hl := Lib.hid hl
    clear hl
    go_enter Try.func14, Try.ntmps14
    go_wp2
    go_loopw [13] (fun i wr => ∃ k : Nat, k ≤ xs.length ∧ i = .int .i64 k ∧ eqL (xs.drop k) (ys.drop k) = eqL xs ys ∧ ∃ n, wr = w.drewN n) (fun i _ => xs.length - (intOf i).toNat)
    case atStart => exact ⟨0, Nat.zero_le _, rfl, rfl, 0, rfl⟩
    case round =>
      obtain ⟨k, hk, rfl, hq, n, rfl⟩ := hrel
      have Hq := Lib.hid hq
      clear hq
      by_cases hlt : k < xs.length
      · have hlt' : k < ys.length := by have := Hl.out; omega
        obtain ⟨b, off, rfl, hc⟩ := h3 k hlt
        obtain ⟨b', off', rfl, hc'⟩ := h3' k hlt'
        have Hd := Lib.hid (List.drop_eq_getElem_cons hlt)
        have Hd' := Lib.hid (List.drop_eq_getElem_cons hlt')
        clear h3 h3'
        generalize xs[k] = x at hc Hd
        generalize ys[k] = y at hc' Hd'
        by_cases hxy : x = y
        · subst hxy
          go_wp2
          go_quiet (fail)
          go_wp2
          go_roundw
          case rel => exact ⟨k + 1, by omega, by go_num, by rw [← Hq.out, Hd.out, Hd'.out, eqL_cons]; simp, _, rfl⟩
          case measure => simp [intOf]; omega
        · have hne : (x != y) = true := by simp [hxy]
          go_wp2
          go_quiet (fail)
          go_wp2
          go_ret
          exact ⟨ret_bool (by rw [← Hq.out, Hd.out, Hd'.out, eqL_cons]; simp [hxy]), n + nq, by simp⟩
      · go_wp2
        go_ret
        exact ⟨ret_bool (by rw [← Hq.out, List.drop_of_length_le (by omega), List.drop_of_length_le (by have := Hl.out; omega)]; rfl), n, rfl⟩
  · have hll : ((xs.length : Int) != (ys.length : Int)) = true := by simp; omega
    have He := Lib.hid (eqL_len hl)
    clear hl
    go_enter Try.func14, Try.ntmps14
    go_wp2
    go_ret
    exact ⟨ret_bool (by rw [He.out]), 0, rfl⟩
end Go.Proofs.Ytbhconogaoghmaa
