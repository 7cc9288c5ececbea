/- Channels in the reference, through pointers. Conditions: what each theorem names. -/
import Derived.Test.YtiejljlmbpgbiaaChan
import Derived.Deep.QuietTactic
namespace Go.Proofs.Ytiejljlmbpgbiaa
open Go.RowKit
set_option maxRecDepth 100000
set_option linter.unusedVariables false
set_option linter.unusedSimpArgs false

/-- A channel's cells. -/
def ChP (W : World) (g : Nat) (n m : Int) (v : Value) : Prop := W.cell? ⟨g, 0, none⟩ = some (.int .i64 n) ∧ W.cell? ⟨g, 1, none⟩ = some (.int .i64 m) ∧ W.cell? ⟨g, 2, none⟩ = some v
theorem ChP.below {W W' : World} {g : Nat} {n m : Int} {v : Value} (h : ChP W g n m v) (hb : Below W.heap.size W W') : ChP W' g n m v := ⟨cnext hb h.1, cnext hb h.2.1, cnext hb h.2.2⟩
set_option maxHeartbeats 1000000 in
theorem l03Row_at (g n m i : Nat) (b off len cap : Nat) (w : World) (hp : ChP w g n m (.slice (some ⟨b, off, none⟩) len cap)) (hn : n ≤ 8) (hm : m ≤ 8) (h1 : 1 ≤ m) (hx : len = n * m) (hi : i < n) (hc1 : len ≤ cap) (hc2 : cap ≤ maxLen) :
    Calls Try.prog 82 #[.pointer (some ⟨g, 0, none⟩), .int .i64 i] w fun e w' => e = .returned (.slice (some ⟨b, off + i * m, none⟩) m (cap - i * m)) ∧ ∃ n, w' = w.drewN n := by
  obtain ⟨p0, p1, p2⟩ := hp
  obtain ⟨lo, hlo, l1, l2, e1, e2⟩ := row_nums hi hn hm
  rw [← hlo]
  have hm2 : cap ≤ 9223372036854775807 := by unfold maxLen at hc2; omega
  have hne : cap - lo ≠ 0 := by omega
  have hq : lo + m ≤ cap := by omega
  have Hlo := Lib.hid hlo
  clear hlo hx
  go_enter Try.func82, Try.ntmps82
  go_wp2
  go_quiet (fail)
  go_wp2
  go_ret
  exact ⟨congrArg (fun q => Ending.returned (Value.slice (some ⟨b, off + lo, none⟩) q (cap - lo))) (Nat.add_sub_cancel_left lo m), _, rfl⟩
theorem Rg.row {w : World} {xs : List Nat} {b off n m cap i : Nat} (h : Rg eF w (.slice (some ⟨b, off, none⟩) xs.length cap) xs) (hx : xs.length = n * m) (hn : n ≤ 8) (hm : m ≤ 8) (h1 : 1 ≤ m) (hi : i < n) : Rg eF w (.slice (some ⟨b, off + i * m, none⟩) m (cap - i * m)) (rowL xs m i) := by
  obtain ⟨lo, hlo, l1, l2, e1, e2⟩ := row_nums hi hn hm
  obtain ⟨b', off', e, -, c1, c2, hs⟩ := h.sub lo m (by omega) (by omega)
  simp only [Option.some.injEq, Addr.mk.injEq, and_true] at e
  obtain ⟨rfl, rfl⟩ := e
  rw [← hlo]
  have := hs (cap - lo) (by omega) (by omega)
  rw [hlo] at this ⊢; exact this
set_option maxHeartbeats 2000000 in
theorem l03Is_any (g : Nat) (n m : Int) (v : Value) (xs : List Nat) (w : World) (hp : ChP w g n m v) (h : Rg eF w v xs) :
    Calls Try.prog 67 #[.pointer (some ⟨g, 0, none⟩)] w fun e w' => e = .returned (.bool (chanW n m xs)) ∧ ∃ n, w' = w.drewN n := by
  have hlen := h.len
  obtain ⟨ao, cap, rfl⟩ := h.shape
  have hR := Lib.hid h
  have hP := Lib.hid hp
  obtain ⟨p0, p1, p2⟩ := hp
  have hdef : chanW n m xs = (inB n 1 8 && inB m 1 8 && decide ((xs.length : Int) = n * m) && (List.range n.toNat).all fun i => isRowW (rowL xs m.toNat i)) := rfl
  cases h1 : inB n 1 8
  · rw [h1] at hdef
    have Hd := Lib.hid hdef
    have g1 := l00In_any n 1 8
    rw [h1] at g1
    clear hdef h1
    go_enter Try.func67, Try.ntmps67
    go_wp2
    go_quiet ((go_at_call 79; exact Calls.quiet_of (qi (g1 _))))
    go_wp2
    go_ret
    exact ⟨ret_bool (by rw [Hd.out]; rfl), _, rfl⟩
  · cases h2 : inB m 1 8
    · rw [h1, h2] at hdef
      have Hd := Lib.hid hdef
      have g1 := l00In_any n 1 8
      have g2 := l00In_any m 1 8
      rw [h1] at g1
      rw [h2] at g2
      clear hdef h1 h2
      go_enter Try.func67, Try.ntmps67
      go_wp2
      go_quiet ((go_at_call 79; first | with_reducible exact Calls.quiet_of (qi (g1 _)) | with_reducible exact Calls.quiet_of (qi (g2 _))))
      go_wp2
      go_ret
      exact ⟨ret_bool (by rw [Hd.out]; rfl), _, rfl⟩
    · have g1 := l00In_any n 1 8
      have g2 := l00In_any m 1 8
      obtain ⟨a, b, rfl, rfl, a1, a8, b1, b8⟩ := chan_dims (xs := xs) h1 h2
      rw [h1] at g1
      rw [h2] at g2
      have hsz : a * b ≤ 64 := Nat.mul_le_mul a8 b8
      obtain ⟨q, hq0⟩ : ∃ q, q = a * b := ⟨_, rfl⟩
      have hmul : ((a : Int) * b) = (q : Int) := by rw [hq0]; exact (Int.natCast_mul a b).symm
      have hq64 : q ≤ 64 := by omega
      by_cases hx : xs.length = a * b
      · have Hno := Lib.hid (fun k (hk : k < a) hf => chan_row_no (n := a) (m := b) (xs := xs) hk hf)
        have Hall := Lib.hid (chan_all a8 b8 a1 b1 hx)
        have hne : ((xs.length : Int) != (q : Int)) = false := by rw [hx, hq0]; simp
        have hne' : (xs.length != q) = false := by rw [hx, hq0]; simp
        have Hx := Lib.hid hx
        clear hdef hx hsz hq0
        go_enter Try.func67, Try.ntmps67
        go_wp2
        go_quiet ((go_at_call 79; first | with_reducible exact Calls.quiet_of (qi (g1 _)) | with_reducible exact Calls.quiet_of (qi (g2 _))))
        clear h1 h2 hne hne' hmul g1 g2
        go_wp2
        go_loopw [3] (fun i wr => ∃ k : Nat, k ≤ a ∧ i = .int .i64 k ∧ (∀ j, j < k → isRowW (rowL xs b j) = true) ∧ ∃ n, wr = w.drewN n) (fun i _ => a - (intOf i).toNat)
        case atStart => exact ⟨0, Nat.zero_le _, rfl, fun j hj => by omega, _, rfl⟩
        case round =>
          obtain ⟨k, hk, rfl, hq, nn, rfl⟩ := hrel
          by_cases hlt : k < a
          · obtain ⟨bb, off, rfl, hcell⟩ := (show ∃ bb off, ao = some ⟨bb, off, none⟩ ∧ True by
              obtain ⟨_, _, e, _, _, k3⟩ := hR.out
              simp only [Value.slice.injEq] at e
              obtain ⟨rfl, -, rfl⟩ := e
              have hpos : 0 < xs.length := by rw [Hx.out]; exact Nat.mul_pos (by omega) (by omega)
              obtain ⟨bb, off, e, -⟩ := k3 0 hpos
              exact ⟨bb, off, e, trivial⟩)
            have hcap : xs.length ≤ cap ∧ cap ≤ maxLen := by
              obtain ⟨_, _, e, c1, c2, _⟩ := hR.out
              simp only [Value.slice.injEq] at e
              obtain ⟨-, -, rfl⟩ := e
              exact ⟨c1, c2⟩
            have hrow := l03Row_at g a b k bb off xs.length cap (w.drewN nn) (hP.out.below (below_drewN _ _)) a8 b8 b1 Hx.out hlt hcap.1 hcap.2
            have hRr := Rg.row hR.out Hx.out a8 b8 b1 hlt
            have HRr := Lib.hid hRr
            clear hRr hcap hcell
            cases hf : isRowW (rowL xs b k)
            · have Hf := Lib.hid (Hno.out k hlt hf)
              go_wp2_with (first | (go_at_call 82; refine hrow.mono ?_; rintro e w' ⟨rfl, n2, rfl⟩) | (go_at_call 35; refine (l02Row_any _ _ _ (HRr.out.below (below_drewN w _))).mono ?_; rw [hf]; rintro e w' ⟨rfl, n3, rfl⟩))
              go_ret
              exact ⟨ret_bool (by rw [Hf.out]), nn + n2 + n3, by simp⟩
            · go_wp2_with (first | (go_at_call 82; refine hrow.mono ?_; rintro e w' ⟨rfl, n2, rfl⟩) | (go_at_call 35; refine (l02Row_any _ _ _ (HRr.out.below (below_drewN w _))).mono ?_; rw [hf]; rintro e w' ⟨rfl, n3, rfl⟩))
              go_roundw
              case rel => exact ⟨k + 1, by omega, by go_num, fun j hj => by rcases Nat.lt_succ_iff_lt_or_eq.1 hj with h | rfl; exact hq j h; exact hf, nn + n2 + n3, by simp⟩
              case measure => simp [intOf]; omega
          · obtain rfl : k = a := by omega
            have Hf := Lib.hid (Hall.out hq)
            go_wp2
            go_ret
            exact ⟨ret_bool (by rw [Hf.out]), nn, rfl⟩
      · have hne : ((xs.length : Int) != (q : Int)) = true := by rw [hq0]; simp; omega
        have hne' : (xs.length != q) = true := by rw [hq0]; simp; omega
        have Hd := Lib.hid (show chanW a b xs = false from chan_no fun e => hx (by
          obtain ⟨a', b', e1, e2, hc⟩ := chan_ok e
          obtain rfl : a = a' := by omega
          obtain rfl : b = b' := by omega
          exact hc.len))
        clear hdef hx hq0 hsz
        go_enter Try.func67, Try.ntmps67
        go_wp2
        go_quiet ((go_at_call 79; first | with_reducible exact Calls.quiet_of (qi (g1 _)) | with_reducible exact Calls.quiet_of (qi (g2 _))))
        clear g1 g2
        go_wp2
        go_ret
        exact ⟨ret_bool (by rw [Hd.out]), _, rfl⟩
end Go.Proofs.Ytiejljlmbpgbiaa
