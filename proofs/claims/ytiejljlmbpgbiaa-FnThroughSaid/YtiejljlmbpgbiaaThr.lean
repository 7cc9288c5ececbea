/- ThroughOf: both packages. No conditions but that the slices read. -/
import Derived.Test.YtiejljlmbpgbiaaThrI
namespace Go.Proofs.Ytiejljlmbpgbiaa
open Go.RowKit
set_option maxRecDepth 100000
set_option linter.unusedVariables false
set_option linter.unusedSimpArgs false

def toOk (n m : Int) (xs row : List Nat) : Bool := fitW n m xs row && isRowW (thL row xs n.toNat m.toNat m.toNat)
def toZ (n m : Int) (xs row : List Nat) : List Nat := if toOk n m xs row = true then thL row xs n.toNat m.toNat m.toNat else []
theorem toZ_len (n m : Int) (xs row : List Nat) : (toZ n m xs row).length ≤ 16777216 := by
  unfold toZ
  split
  · rename_i h
    have h2 : isRowW (thL row xs n.toNat m.toNat m.toNat) = true := by
      unfold toOk at h; rw [Bool.and_eq_true] at h; exact h.2
    have := (row_len h2).2
    omega
  · simp
theorem fit_parts {n m : Int} {xs row : List Nat} (h : fitW n m xs row = true) : ∃ a b : Nat, n = a ∧ m = b ∧ ChanOk a b xs ∧ isRowW row = true ∧ row.length = a := by
  simp only [fitW, Bool.and_eq_true, decide_eq_true_eq] at h
  obtain ⟨⟨h1, h2⟩, h3⟩ := h
  obtain ⟨a, b, rfl, rfl, hc⟩ := chan_ok h1
  exact ⟨a, b, rfl, rfl, hc, h2, by omega⟩
theorem og_nil {B : Nat} (w : World) : Og eF B w (.slice none 0 0) [] := ⟨none, 0, rfl, by simp, by unfold maxLen; omega, (fun a ha => by cases ha), fun i hi => by simp at hi⟩
set_option maxHeartbeats 1000000 in
theorem implThr_any (n m : Int) (v : Value) (xs : List Nat) (u : Value) (row : List Nat) (w : World) (h : Rg eF w v xs) (h' : Rg eF w u row) :
    Calls Try.prog 9 #[.agg #[.int .i64 n, .int .i64 m, v], u] w fun e w' => ∃ v', e = .returned (.tuple #[v', .bool (toOk n m xs row)]) ∧ Og eF w.heap.size w' v' (toZ n m xs row) ∧ Below w.heap.size w w' := by
  have hb : ∀ o, Below w.heap.size w (w.alloc o) := fun o => by go_grown
  obtain ⟨ao, cap, rfl⟩ := h.shape
  obtain ⟨ao', cap', rfl⟩ := h'.shape
  have hR := Lib.hid h
  have hR' := Lib.hid h'
  have ht := takes_any n m _ xs _ row (w.alloc (.cells #[.int .i64 n, .int .i64 m, .slice ao xs.length cap] 27)) (h.below (hb _)) (h'.below (hb _))
  cases hf : fitW n m xs row
  · have hok : toOk n m xs row = false := by unfold toOk; rw [hf]; rfl
    have Hz := Lib.hid (show toZ n m xs row = [] by unfold toZ; rw [hok]; rfl)
    rw [hok]
    rw [hf] at ht
    go_enter Try.func9, Try.ntmps9
    go_wp2_with fail
    refine ht.mono ?_
    rintro e w1 ⟨rfl, hb1⟩
    go_wp2
    go_ret2
    exact ⟨_, rfl, by rw [Hz.out]; exact og_nil _, bnext (hb _) hb1⟩
  · rw [hf] at ht
    obtain ⟨a, b, rfl, rfl, hc, hr, hl⟩ := fit_parts hf
    have hok : toOk a b xs row = isRowW (thL row xs a b b) := by unfold toOk; rw [hf]; rfl
    have hz : toZ a b xs row = if isRowW (thL row xs a b b) = true then thL row xs a b b else [] := by unfold toZ; rw [hok]; rfl
    have Hok := Lib.hid hok
    have Hz := Lib.hid hz
    have Hc := Lib.hid hc
    have Hl := Lib.hid hl
    have Hr := Lib.hid (row_ch hr hl)
    clear hok hz hc hl hr hf h h'
    go_enter Try.func9, Try.ntmps9
    go_wp2_with fail
    refine ht.mono ?_
    rintro e w1 ⟨rfl, hb1⟩
    have hB1 := bnext (hb _) hb1
    have q0 := cnext hb1 (show (w.alloc (.cells #[.int .i64 a, .int .i64 b, .slice ao xs.length cap] 27)).cell? ⟨w.heap.size, 0, none⟩ = some (.int .i64 a) by simp [go_sem])
    have q1 := cnext hb1 (show (w.alloc (.cells #[.int .i64 a, .int .i64 b, .slice ao xs.length cap] 27)).cell? ⟨w.heap.size, 1, none⟩ = some (.int .i64 b) by simp [go_sem])
    have q2 := cnext hb1 (show (w.alloc (.cells #[.int .i64 a, .int .i64 b, .slice ao xs.length cap] 27)).cell? ⟨w.heap.size, 2, none⟩ = some (.slice ao xs.length cap) by simp [go_sem])
    go_wp2_with fail
    refine (through_any a b _ xs _ row _ (hR.out.below hB1) (hR'.out.below hB1) Hc.out Hl.out Hr.out).mono ?_
    rintro e w2 ⟨v2, rfl, ho2, hb2⟩
    have hB2 := bnext hB1 hb2
    have ho := ho2.mono hB1.size
    have hro := asRow_any v2 _ w2 ho2.rg
    clear ho2 q0 q1 q2
    cases hi : isRowW (thL row xs a b b)
    · simp only [hi, if_true, Bool.false_eq_true, if_false] at hro
      go_wp2_with fail
      refine hro.mono ?_
      rintro e w3 ⟨rfl, n3, rfl⟩
      go_wp2
      go_ret2
      exact ⟨_, ret2 rfl (vb (by rw [Hok.out, hi])), by rw [Hz.out, hi]; exact og_nil _, bnext hB2 (below_drewN _ _)⟩
    · simp only [hi, if_true, Bool.false_eq_true, if_false] at hro
      go_wp2_with fail
      refine hro.mono ?_
      rintro e w3 ⟨rfl, n3, rfl⟩
      go_wp2
      go_ret2
      exact ⟨_, ret2 rfl (vb (by rw [Hok.out, hi])), by rw [Hz.out, hi]; exact ho.below (below_drewN _ _), bnext hB2 (below_drewN _ _)⟩
set_option maxHeartbeats 1000000 in
theorem specThr_any (n m : Int) (v : Value) (xs : List Nat) (u : Value) (row : List Nat) (w : World) (h : Rg eF w v xs) (h' : Rg eF w u row) :
    Calls Try.prog 21 #[.agg #[.int .i64 n, .int .i64 m, v], u] w fun e w' => ∃ v', e = .returned (.tuple #[v', .bool (toOk n m xs row)]) ∧ Og eF w.heap.size w' v' (toZ n m xs row) ∧ Below w.heap.size w w' := by
  have hb : ∀ o, Below w.heap.size w (w.alloc o) := fun o => by go_grown
  obtain ⟨ao, cap, rfl⟩ := h.shape
  obtain ⟨ao', cap', rfl⟩ := h'.shape
  have hR := Lib.hid h
  have hR' := Lib.hid h'
  have hP0 : ChP (w.alloc (.cells #[.int .i64 n, .int .i64 m, .slice ao xs.length cap] 27)) w.heap.size n m (.slice ao xs.length cap) := ⟨by simp [go_sem], by simp [go_sem], by simp [go_sem]⟩
  have ht := l03Fits_any w.heap.size n m _ xs _ row (w.alloc (.cells #[.int .i64 n, .int .i64 m, .slice ao xs.length cap] 27)) hP0 (h.below (hb _)) (h'.below (hb _))
  cases hf : fitW n m xs row
  · have hok : toOk n m xs row = false := by unfold toOk; rw [hf]; rfl
    have Hz := Lib.hid (show toZ n m xs row = [] by unfold toZ; rw [hok]; rfl)
    rw [hok]
    rw [hf] at ht
    clear hP0
    go_enter Try.func21, Try.ntmps21
    go_wp2_with fail
    refine ht.mono ?_
    rintro e w1 ⟨rfl, n1, rfl⟩
    go_wp2
    go_ret2
    exact ⟨_, rfl, by rw [Hz.out]; exact og_nil _, bnext (hb _) (below_drewN _ _)⟩
  · rw [hf] at ht
    obtain ⟨a, b, rfl, rfl, hc, hr, hl⟩ := fit_parts hf
    have hok : toOk a b xs row = isRowW (thL row xs a b b) := by unfold toOk; rw [hf]; rfl
    have hz : toZ a b xs row = if isRowW (thL row xs a b b) = true then thL row xs a b b else [] := by unfold toZ; rw [hok]; rfl
    have Hok := Lib.hid hok
    have Hz := Lib.hid hz
    have Hc := Lib.hid hc
    have Hl := Lib.hid hl
    have Hr := Lib.hid (row_ch hr hl)
    have HP0 := Lib.hid hP0
    clear hok hz hc hl hr hf h h' hP0
    go_enter Try.func21, Try.ntmps21
    go_wp2_with fail
    refine ht.mono ?_
    rintro e w1 ⟨rfl, n1, hw1⟩
    have hb1 : Below (w.alloc (.cells #[.int .i64 a, .int .i64 b, .slice ao xs.length cap] 27)).heap.size (w.alloc (.cells #[.int .i64 a, .int .i64 b, .slice ao xs.length cap] 27)) w1 := by rw [hw1]; exact below_drewN _ _
    clear hw1
    have hB1 := bnext (hb _) hb1
    have hP1 := HP0.out.below hb1
    clear HP0
    go_wp2_with fail
    refine (l03Through_any w.heap.size a b _ xs _ row _ hP1 (hR.out.below hB1) (hR'.out.below hB1) Hc.out Hl.out Hr.out).mono ?_
    rintro e w2 ⟨v2, rfl, hown, hb2⟩
    have ho2 := hown.og
    have hB2 := bnext hB1 hb2
    have ho := ho2.mono hB1.size
    have hro := l03GiveRow_any v2 _ w2 ho2.rg
    clear ho2 hown hP1
    cases hi : isRowW (thL row xs a b b)
    · simp only [hi, if_true, Bool.false_eq_true, if_false] at hro
      go_wp2_with fail
      refine hro.mono ?_
      rintro e w3 ⟨rfl, n3, rfl⟩
      go_wp2
      go_ret2
      exact ⟨_, ret2 rfl (vb (by rw [Hok.out, hi])), by rw [Hz.out, hi]; exact og_nil _, bnext hB2 (below_drewN _ _)⟩
    · simp only [hi, if_true, Bool.false_eq_true, if_false] at hro
      go_wp2_with fail
      refine hro.mono ?_
      rintro e w3 ⟨rfl, n3, rfl⟩
      go_wp2
      go_ret2
      exact ⟨_, ret2 rfl (vb (by rw [Hok.out, hi])), by rw [Hz.out, hi]; exact ho.below (below_drewN _ _), bnext hB2 (below_drewN _ _)⟩
end Go.Proofs.Ytiejljlmbpgbiaa
