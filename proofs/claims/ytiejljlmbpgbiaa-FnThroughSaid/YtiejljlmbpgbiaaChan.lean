/- Channels: their rows, whether they are valid. Conditions: what each theorem names. -/
import Derived.Test.YtiejljlmbpgbiaaRow
import Derived.Test.YtiejljlmbpgbiaaMem
namespace Go.Proofs.Ytiejljlmbpgbiaa
open Go.RowKit
set_option maxRecDepth 100000
set_option linter.unusedVariables false
set_option linter.unusedSimpArgs false

/-- A part of what is read. -/
theorem Rg.sub {α : Type} {enc : α → Value} {w : World} {xs : List α} {ao : Option Addr} {m cap : Nat} (h : Rg enc w (.slice ao m cap) xs) (lo k : Nat) (hk : 0 < k) (hh : lo + k ≤ xs.length) :
    ∃ b off, ao = some ⟨b, off, none⟩ ∧ m = xs.length ∧ m ≤ cap ∧ cap ≤ maxLen ∧ ∀ c, k ≤ c → c ≤ maxLen → Rg enc w (.slice (some ⟨b, off + lo, none⟩) k c) ((xs.drop lo).take k) := by
  obtain ⟨ao', cap', e, h1, h2, h3⟩ := h
  simp only [Value.slice.injEq] at e
  obtain ⟨rfl, rfl, rfl⟩ := e
  obtain ⟨b, off, rfl, _⟩ := h3 lo (by omega)
  have hl : ((xs.drop lo).take k).length = k := by simp; omega
  refine ⟨b, off, rfl, rfl, h1, h2, fun c hc hm => ⟨_, c, by rw [hl], by rw [hl]; exact hc, hm, fun i hi => ?_⟩⟩
  rw [hl] at hi
  obtain ⟨b', off', e', hc⟩ := h3 (lo + i) (by omega)
  simp only [Option.some.injEq, Addr.mk.injEq, and_true] at e'
  obtain ⟨rfl, rfl⟩ := e'
  refine ⟨b, off + lo, rfl, ?_⟩
  rw [Nat.add_assoc, List.getElem_take, List.getElem_drop]; exact hc
theorem row_nums {i n m : Nat} (hi : i < n) (hn : n ≤ 8) (hm : m ≤ 8) : ∃ lo : Nat, lo = i * m ∧ lo + m ≤ n * m ∧ n * m ≤ 64 ∧ (i : Int) * m = lo ∧ ((i : Int) + 1) * m = ((lo + m : Nat) : Int) := by
  have h1 : (i + 1) * m ≤ n * m := Nat.mul_le_mul_right _ hi
  have h2 : n * m ≤ 64 := Nat.mul_le_mul hn hm
  have e1 : ((i * m : Nat) : Int) = (i : Int) * m := Int.natCast_mul i m
  have e2 : (((i + 1) * m : Nat) : Int) = ((i : Int) + 1) * m := by rw [Int.natCast_mul]; rfl
  rw [Nat.add_mul, Nat.one_mul] at h1 e2
  exact ⟨i * m, rfl, h1, h2, e1.symm, e2.symm⟩
set_option maxHeartbeats 400000 in
theorem implRow_any (n m i : Nat) (v : Value) (xs : List Nat) (w : World) (h : Rg eF w v xs) (hn : n ≤ 8) (hm : m ≤ 8) (h1 : 1 ≤ m) (hx : xs.length = n * m) (hi : i < n) :
    Calls Try.prog 28 #[.agg #[.int .i64 n, .int .i64 m, v], .int .i64 i] w fun e w' => ∃ v', e = .returned v' ∧ Rg eF w' v' (rowL xs m i) ∧ Below w.heap.size w w' := by
  have hb : ∀ o, Below w.heap.size w (w.alloc o) := fun o => by go_grown
  have hlen := h.len
  obtain ⟨ao, cap, rfl⟩ := h.shape
  obtain ⟨lo, hlo, l1, l2, e1, e2⟩ := row_nums hi hn hm
  obtain ⟨b, off, rfl, -, c1, c2, hs⟩ := h.sub lo m (by omega) (by omega)
  have hres := hs m (by omega) (by omega)
  rw [hlo, show (xs.drop (i * m)).take m = rowL xs m i from rfl, ← hlo] at hres
  have Hres := Lib.hid hres
  have Hlo := Lib.hid hlo
  clear hs hres hlo h
  go_enter Try.func28, Try.ntmps28
  go_wp2
  go_ret
  exact ⟨_, rfl, by rw [Nat.add_sub_cancel_left]; exact Hres.out.below (hb _), hb _⟩
theorem chan_no {n m : Int} {xs : List Nat} (h : ¬ (chanW n m xs = true)) : chanW n m xs = false := by simpa using h
theorem chan_row_no {n m k : Nat} {xs : List Nat} (hk : k < n) (h : isRowW (rowL xs m k) = false) : chanW n m xs = false := chan_no fun e => by
  obtain ⟨a, b, e1, e2, hc⟩ := chan_ok e
  obtain rfl : n = a := by omega
  obtain rfl : m = b := by omega
  rw [hc.row k hk] at h; cases h
theorem chan_all {n m : Nat} {xs : List Nat} (hn : n ≤ 8) (hm : m ≤ 8) (h0 : 1 ≤ n) (h1 : 1 ≤ m) (hx : xs.length = n * m) (h : ∀ i, i < n → isRowW (rowL xs m i) = true) : chanW n m xs = true := chan_of ⟨h0, hn, h1, hm, hx, h⟩
theorem chan_dims {n m : Int} {xs : List Nat} (h1 : inB n 1 8 = true) (h2 : inB m 1 8 = true) : ∃ a b : Nat, n = a ∧ m = b ∧ 1 ≤ a ∧ a ≤ 8 ∧ 1 ≤ b ∧ b ≤ 8 := by
  simp only [inB, Bool.and_eq_true, decide_eq_true_eq] at h1 h2
  exact ⟨n.toNat, m.toNat, by omega, by omega, by omega, by omega, by omega, by omega⟩
set_option maxHeartbeats 1000000 in
theorem implChan_any (n m : Int) (v : Value) (xs : List Nat) (w : World) (h : Rg eF w v xs) :
    Calls Try.prog 12 #[.agg #[.int .i64 n, .int .i64 m, v]] w fun e w' => e = .returned (.bool (chanW n m xs)) ∧ Below w.heap.size w w' := by
  have hb : ∀ o, Below w.heap.size w (w.alloc o) := fun o => by go_grown
  have hlen := h.len
  obtain ⟨ao, cap, rfl⟩ := h.shape
  have hR := Lib.hid h
  have hdef : chanW n m xs = (inB n 1 8 && inB m 1 8 && decide ((xs.length : Int) = n * m) && (List.range n.toNat).all fun i => isRowW (rowL xs m.toNat i)) := rfl
  cases h1 : inB n 1 8
  · rw [h1] at hdef
    have Hd := Lib.hid hdef
    clear hdef
    go_enter Try.func12, Try.ntmps12
    go_wp2_with (go_at_call 31; refine (within_any _ _ _ _).mono ?_; rw [h1]; rintro e w' ⟨rfl, rfl⟩)
    go_ret
    exact ⟨ret_bool (by rw [Hd.out]; rfl), hb _⟩
  · cases h2 : inB m 1 8
    · rw [h1, h2] at hdef
      have Hd := Lib.hid hdef
      clear hdef
      go_enter Try.func12, Try.ntmps12
      go_wp2_with (go_at_call 31; refine (within_any _ _ _ _).mono ?_; (first | rw [h1] | rw [h2]); rintro e w' ⟨rfl, rfl⟩)
      go_ret
      exact ⟨ret_bool (by rw [Hd.out]; rfl), hb _⟩
    · obtain ⟨a, b, rfl, rfl, a1, a8, b1, b8⟩ := chan_dims (xs := xs) h1 h2
      have hsz : a * b ≤ 64 := Nat.mul_le_mul a8 b8
      obtain ⟨q, hq0⟩ : ∃ q, q = a * b := ⟨_, rfl⟩
      have hmul : ((a : Int) * b) = (q : Int) := by rw [hq0]; exact (Int.natCast_mul a b).symm
      have hq64 : q ≤ 64 := by omega
      by_cases hx : xs.length = a * b
      · have Hno := Lib.hid (fun k (hk : k < a) hf => chan_row_no (n := a) (m := b) (xs := xs) hk hf)
        have Hall := Lib.hid (chan_all a8 b8 a1 b1 hx)
        have hrow := fun i (hi : i < a) W (hW : Rg eF W (.slice ao xs.length cap) xs) => implRow_any a b i _ xs W hW a8 b8 b1 hx hi
        have Hrow := Lib.hid hrow
        have hne : ((xs.length : Int) != (q : Int)) = false := by rw [hx, hq0]; simp
        have hne' : (xs.length != q) = false := by rw [hx, hq0]; simp
        have Hx := Lib.hid hx
        clear hdef hrow hx hsz hq0
        go_enter Try.func12, Try.ntmps12
        go_wp2_with (go_at_call 31; refine (within_any _ _ _ _).mono ?_; (first | rw [h1] | rw [h2]); rintro e w' ⟨rfl, rfl⟩)
        clear h1 h2 hne hne' hmul
        go_loopw [27] (fun i wr => ∃ k : Nat, k ≤ a ∧ i = .int .i64 k ∧ (∀ j, j < k → isRowW (rowL xs b j) = true) ∧ Below w.heap.size w wr ∧ wr.cell? ⟨w.heap.size, 0, none⟩ = some (.int .i64 a) ∧ wr.cell? ⟨w.heap.size, 1, none⟩ = some (.int .i64 b) ∧ wr.cell? ⟨w.heap.size, 2, none⟩ = some (.slice ao xs.length cap)) (fun i _ => a - (intOf i).toNat)
        case atStart => exact ⟨0, Nat.zero_le _, rfl, fun j hj => by omega, hb _, by simp [go_sem], by simp [go_sem], by simp [go_sem]⟩
        case round =>
          obtain ⟨k, hk, rfl, hq, hB, q0, q1, q2⟩ := hrel
          by_cases hlt : k < a
          · go_wp2_with fail
            refine (Hrow.out k hlt _ (hR.out.below hB)).mono ?_
            rintro e w2 ⟨v2, rfl, hr2, hb2⟩
            have q0' := cnext hb2 q0
            have q1' := cnext hb2 q1
            have q2' := cnext hb2 q2
            have hB2 := bnext hB hb2
            clear q0 q1 q2
            cases hf : isRowW (rowL xs b k)
            · have Hf := Lib.hid (Hno.out k hlt hf)
              go_wp2_with (go_at_call 32; refine (IsRow_any _ _ _ hr2).mono ?_; rw [hf]; rintro e w' ⟨rfl, n', rfl⟩)
              go_ret
              exact ⟨ret_bool (by rw [Hf.out]), bnext hB2 (below_drewN _ _)⟩
            · go_wp2_with (go_at_call 32; refine (IsRow_any _ _ _ hr2).mono ?_; rw [hf]; rintro e w' ⟨rfl, n', rfl⟩)
              go_roundw
              case rel => exact ⟨k + 1, by omega, by go_num, fun j hj => by rcases Nat.lt_succ_iff_lt_or_eq.1 hj with h | rfl; exact hq j h; exact hf, bnext hB2 (below_drewN _ _), cnext (below_drewN _ _) q0', cnext (below_drewN _ _) q1', cnext (below_drewN _ _) q2'⟩
              case measure => simp [intOf]; omega
          · obtain rfl : k = a := by omega
            have Hf := Lib.hid (Hall.out hq)
            go_wp2
            go_ret
            exact ⟨ret_bool (by rw [Hf.out]), hB⟩
      · have hne : ((xs.length : Int) != (a : Int) * b) = true := by rw [hmul]; simp; omega
        have Hd := Lib.hid (show chanW a b xs = false from chan_no fun e => hx (by
          obtain ⟨a', b', e1, e2, hc⟩ := chan_ok e
          obtain rfl : a = a' := by omega
          obtain rfl : b = b' := by omega
          exact hc.len))
        clear hdef hx hq0 hsz
        go_enter Try.func12, Try.ntmps12
        go_wp2_with (go_at_call 31; refine (within_any _ _ _ _).mono ?_; (first | rw [h1] | rw [h2]); rintro e w' ⟨rfl, rfl⟩)
        go_ret
        exact ⟨ret_bool (by rw [Hd.out]), hb _⟩
end Go.Proofs.Ytiejljlmbpgbiaa
