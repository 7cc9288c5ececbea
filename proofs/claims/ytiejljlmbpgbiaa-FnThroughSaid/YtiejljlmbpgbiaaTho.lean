/- What comes out of a channel: tests of both packages. Conditions: what each theorem names. -/
import Derived.Test.YtiejljlmbpgbiaaChaS
import Derived.Test.YtiejljlmbpgbiaaMk
import Derived.Test.YtiejljlmbpgbiaaPop
import Derived.Laws.Entries
namespace Go.Proofs.Ytiejljlmbpgbiaa
open Go.RowKit
set_option maxRecDepth 100000
set_option linter.unusedVariables false
set_option linter.unusedSimpArgs false

def fitW (n m : Int) (xs row : List Nat) : Bool := chanW n m xs && isRowW row && decide ((row.length : Int) = n)
set_option maxHeartbeats 1000000 in
theorem takes_any (n m : Int) (v : Value) (xs : List Nat) (u : Value) (row : List Nat) (w : World) (h : Rg eF w v xs) (h' : Rg eF w u row) :
    Calls Try.prog 25 #[.agg #[.int .i64 n, .int .i64 m, v], u] w fun e w' => e = .returned (.bool (fitW n m xs row)) ∧ Below w.heap.size w w' := by
  have hb : ∀ o, Below w.heap.size w (w.alloc o) := fun o => by go_grown
  have hlen := h'.len
  obtain ⟨ao, cap, rfl⟩ := h.shape
  obtain ⟨ao', cap', rfl⟩ := h'.shape
  have hR := Lib.hid h
  have hR' := Lib.hid h'
  have hd : fitW n m xs row = (chanW n m xs && isRowW row && decide ((row.length : Int) = n)) := rfl
  have hch := implChan_any n m (.slice ao xs.length cap) xs
  have hro := IsRow_any (.slice ao' row.length cap') row
  cases h1 : chanW n m xs
  · rw [h1] at hd hch
    have Hd := Lib.hid hd
    clear hd
    go_enter Try.func25, Try.ntmps25
    go_wp2_with fail
    refine (hch _ (hR.out.below (hb _))).mono ?_
    rintro e w1 ⟨rfl, hb1⟩
    go_wp2
    go_ret
    exact ⟨ret_bool (by rw [Hd.out]; rfl), bnext (hb _) hb1⟩
  · cases h2 : isRowW row
    · rw [h1] at hd hch
      rw [h2] at hd hro
      have Hd := Lib.hid hd
      clear hd
      go_enter Try.func25, Try.ntmps25
      go_wp2_with fail
      refine (hch _ (hR.out.below (hb _))).mono ?_
      rintro e w1 ⟨rfl, hb1⟩
      have hB1 := bnext (hb _) hb1
      go_wp2_with fail
      refine (hro _ (hR'.out.below hB1)).mono ?_
      rintro e w2 ⟨rfl, n2, rfl⟩
      go_wp2
      go_ret
      exact ⟨ret_bool (by rw [Hd.out]; rfl), bnext hB1 (below_drewN _ _)⟩
    · rw [h1] at hd hch
      rw [h2] at hd hro
      obtain ⟨t, ht⟩ : ∃ t : Bool, t = decide ((row.length : Int) = n) := ⟨_, rfl⟩
      have ht' : ((row.length : Int) == n) = t := by rw [ht, Bool.eq_iff_iff]; simp
      rw [← ht] at hd
      have Hd := Lib.hid hd
      clear hd ht
      go_enter Try.func25, Try.ntmps25
      go_wp2_with fail
      refine (hch _ (hR.out.below (hb _))).mono ?_
      rintro e w1 ⟨rfl, hb1⟩
      have hB1 := bnext (hb _) hb1
      have q0 := cnext hb1 (show (w.alloc (.cells #[.int .i64 n, .int .i64 m, .slice ao xs.length cap] 27)).cell? ⟨w.heap.size, 0, none⟩ = some (.int .i64 n) by simp [go_sem])
      go_wp2_with fail
      refine (hro _ (hR'.out.below hB1)).mono ?_
      rintro e w2 ⟨rfl, n2, rfl⟩
      go_wp2
      go_ret
      exact ⟨ret_bool (by rw [Hd.out]; simp [ht']), bnext hB1 (below_drewN _ _)⟩
set_option maxHeartbeats 1000000 in
theorem l03Fits_any (g : Nat) (n m : Int) (v : Value) (xs : List Nat) (u : Value) (row : List Nat) (w : World) (hp : ChP w g n m v) (h : Rg eF w v xs) (h' : Rg eF w u row) :
    Calls Try.prog 46 #[.pointer (some ⟨g, 0, none⟩), u] w fun e w' => e = .returned (.bool (fitW n m xs row)) ∧ ∃ n, w' = w.drewN n := by
  have hlen := h'.len
  obtain ⟨ao', cap', rfl⟩ := h'.shape
  have hR' := Lib.hid h'
  have hd : fitW n m xs row = (chanW n m xs && isRowW row && decide ((row.length : Int) = n)) := rfl
  have hch := l03Is_any g n m v xs w hp h
  have hro := l02Row_any (.slice ao' row.length cap') row
  have hP := Lib.hid hp
  have p0 := hp.1
  cases h1 : chanW n m xs
  · rw [h1] at hd hch
    have Hd := Lib.hid hd
    clear hd
    go_enter Try.func46, Try.ntmps46
    go_wp2_with fail
    refine hch.mono ?_
    rintro e w1 ⟨rfl, n1, rfl⟩
    go_wp2
    go_ret
    exact ⟨ret_bool (by rw [Hd.out]; rfl), n1, rfl⟩
  · obtain ⟨t, ht⟩ : ∃ t : Bool, t = decide ((row.length : Int) = n) := ⟨_, rfl⟩
    have ht' : ((row.length : Int) == n) = t := by rw [ht, Bool.eq_iff_iff]; simp
    rw [← ht, h1] at hd
    rw [h1] at hch
    cases t
    · have Hd := Lib.hid hd
      clear hd ht
      go_enter Try.func46, Try.ntmps46
      go_wp2_with fail
      refine hch.mono ?_
      rintro e w1 ⟨rfl, n1, rfl⟩
      go_wp2
      go_ret
      exact ⟨ret_bool (by rw [Hd.out]; simp), n1, rfl⟩
    · have Hd := Lib.hid hd
      clear hd ht
      go_enter Try.func46, Try.ntmps46
      go_wp2_with fail
      refine hch.mono ?_
      rintro e w1 ⟨rfl, n1, rfl⟩
      go_wp2_with fail
      refine (hro _ (hR'.out.below (below_drewN w _))).mono ?_
      rintro e w2 ⟨rfl, n2, rfl⟩
      go_wp2
      go_ret
      exact ⟨ret_bool (by rw [Hd.out]; simp), n1 + n2, by simp⟩
set_option maxHeartbeats 400000 in
theorem asRow_any (u : Value) (row : List Nat) (w : World) (h : Rg eF w u row) :
    Calls Try.prog 26 #[u] w fun e w' => e = .returned (.tuple #[if isRowW row = true then u else .slice none 0 0, .bool (isRowW row)]) ∧ ∃ n, w' = w.drewN n := by
  have hro := IsRow_any u row w h
  cases h1 : isRowW row
  · rw [h1] at hro
    go_enter Try.func26, Try.ntmps26
    go_wp2_with fail
    refine hro.mono ?_
    rintro e w1 ⟨rfl, n1, rfl⟩
    go_wp2
    go_ret2
    exact ⟨rfl, n1, rfl⟩
  · rw [h1] at hro
    go_enter Try.func26, Try.ntmps26
    go_wp2_with fail
    refine hro.mono ?_
    rintro e w1 ⟨rfl, n1, rfl⟩
    go_wp2
    go_ret2
    exact ⟨rfl, n1, rfl⟩
set_option maxHeartbeats 400000 in
theorem l03GiveRow_any (u : Value) (row : List Nat) (w : World) (h : Rg eF w u row) :
    Calls Try.prog 47 #[u] w fun e w' => e = .returned (.tuple #[if isRowW row = true then u else .slice none 0 0, .bool (isRowW row)]) ∧ ∃ n, w' = w.drewN n := by
  have hro := l02Row_any u row w h
  cases h1 : isRowW row
  · rw [h1] at hro
    go_enter Try.func47, Try.ntmps47
    go_wp2_with fail
    refine hro.mono ?_
    rintro e w1 ⟨rfl, n1, rfl⟩
    go_wp2
    go_ret2
    exact ⟨rfl, n1, rfl⟩
  · rw [h1] at hro
    go_enter Try.func47, Try.ntmps47
    go_wp2_with fail
    refine hro.mono ?_
    rintro e w1 ⟨rfl, n1, rfl⟩
    go_wp2
    go_ret2
    exact ⟨rfl, n1, rfl⟩
end Go.Proofs.Ytiejljlmbpgbiaa
