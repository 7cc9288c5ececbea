/- What comes out of a channel: the reference. Conditions: a valid channel, chances. -/
import Derived.Test.YtiejljlmbpgbiaaTho
import Derived.Test.YtiejljlmbpgbiaaAppF
namespace Go.Proofs.Ytiejljlmbpgbiaa
open Go.RowKit
set_option maxRecDepth 100000
set_option linter.unusedVariables false
set_option linter.unusedSimpArgs false

def thL (row xs : List Nat) (n m k : Nat) : List Nat := (List.range k).map fun k => thS row xs m k n
theorem thL_len (row xs : List Nat) (n m k : Nat) : (thL row xs n m k).length = k := by simp [thL]
theorem thL_snoc (row xs : List Nat) (n m k : Nat) : thL row xs n m (k + 1) = thL row xs n m k ++ [thS row xs m k n] := by simp [thL, List.range_succ]
theorem getD_cell {w : World} {ao : Option Addr} {m cap : Nat} {xs : List Nat} (h : Rg eF w (.slice ao m cap) xs) (i : Nat) (hi : i < xs.length) : ∃ b off, ao = some ⟨b, off, none⟩ ∧ w.cell? ⟨b, off + i, none⟩ = some (eF (xs.getD i 0)) := by
  obtain ⟨ao', cap', e, h1, h2, h3⟩ := h
  simp only [Value.slice.injEq] at e
  obtain ⟨rfl, rfl, rfl⟩ := e
  obtain ⟨b, off, rfl, hc⟩ := h3 i hi
  exact ⟨b, off, rfl, by rw [hc, List.getD, List.getElem?_eq_getElem hi]; rfl⟩
set_option maxHeartbeats 4000000 in
theorem l03Through_any (g n m : Nat) (v : Value) (xs : List Nat) (u : Value) (row : List Nat) (w : World) (hp : ChP w g n m v) (h : Rg eF w v xs) (h' : Rg eF w u row) (hc : ChanOk n m xs) (hn : row.length = n) (hrow : ∀ i, i < n → Ch (row.getD i 0)) :
    Calls Try.prog 48 #[.pointer (some ⟨g, 0, none⟩), u] w fun e w' => ∃ v', e = .returned v' ∧ OwnF w.heap.size w' v' (thL row xs n m m) ∧ Below w.heap.size w w' := by
  have hR := Lib.hid h
  have hR' := Lib.hid h'
  have hP := Lib.hid hp
  have hC := Lib.hid hc
  have hRow := Lib.hid hrow
  have hm8 := hc.m8
  have hn8 := hc.n8
  obtain ⟨ao, cap, rfl⟩ := h.shape
  obtain ⟨ao', cap', rfl⟩ := h'.shape
  have hlenI := h.len
  have hlenR := h'.len
  obtain ⟨p0, p1, p2⟩ := hp
  have Hn := Lib.hid hn
  clear hc hrow h h' hn
  go_enter Try.func48, Try.ntmps48
  go_wp2
  go_loopw [5, 6] (fun o kv wr => ∃ k : Nat, kv = .int .i64 k ∧ k ≤ m ∧ OwnF w.heap.size wr o (thL row xs n m k) ∧ Below w.heap.size w wr) (fun _ kv _ => m - (intOf kv).toNat)
  case atStart => exact ⟨0, rfl, Nat.zero_le _, ownF_empty w _ (Nat.le_refl _), by go_grown⟩
  case round =>
    obtain ⟨k, rfl, hk, hown, hB⟩ := hrel
    obtain ⟨ao1, cap1, rfl⟩ := hown.shape
    obtain ⟨p0', p1', p2'⟩ := hP.out.below hB
    have hs1 := hB.size
    have Hl := Lib.hid (thL_len row xs n m k)
    clear p0 p1 p2
    by_cases hkm : k < m
    · have Hsn := Lib.hid (thL_snoc row xs n m k)
      have HB := Lib.hid hB
      have Hown := Lib.hid hown
      clear hB hown
      go_wp2
      go_loopw [7, 8] (fun s iv w2 => ∃ i : Nat, iv = .int .i64 i ∧ i ≤ n ∧ s = .float .f32 (thS row xs m k i) ∧ ∃ q, w2 = wr.drewN q) (fun _ iv _ => n - (intOf iv).toNat)
      case atStart => exact ⟨0, rfl, Nat.zero_le _, rfl, 0, rfl⟩
      case round =>
        obtain ⟨i, rfl, hi, rfl, q, rfl⟩ := hrel
        by_cases hin : i < n
        · obtain ⟨lo, hlo, l1, l2, e1, -⟩ := row_nums hin hn8 hm8
          have hxl := hC.out.len
          obtain ⟨b1, off1, rfl, c1⟩ := getD_cell (hR'.out.below HB.out) i (by rw [Hn.out]; exact hin)
          obtain ⟨b2, off2, rfl, c2⟩ := getD_cell (hR.out.below HB.out) (i * m + k) (by rw [hxl]; exact at_lt hin hkm)
          have hlt : lo + k < xs.length := by rw [hxl]; omega
          obtain ⟨g1, -⟩ := th_step hRow.out hC.out hkm i hin
          have g2 := th_add hRow.out hC.out hkm i hin
          have hirow : i < row.length := by rw [Hn.out]; exact hin
          rw [← hlo] at c2 g1
          have o1 := run_op (P := Try.prog) g1
          have o2 := run_op (P := Try.prog) g2
          have Hlo := Lib.hid hlo
          clear hlo hxl
          generalize row.getD i 0 = x at *
          generalize xs.getD (lo + k) 0 = y at *
          have HS := Lib.hid (show thS row xs m k (i + 1) = thS row xs m k (i + 1) from rfl)
          generalize hs1' : thS row xs m k (i + 1) = s1 at *
          generalize thS row xs m k i = s at *
          go_wp2
          go_quiet (fail)
          go_wp2
          go_roundw
          case rel => exact ⟨i + 1, by go_num, by omega, fl_eq hs1'.symm, q + nq, by simp⟩
          case measure => simp [intOf]; omega
        · obtain rfl : i = n := by omega
          have hB3 := bnext HB.out (below_drewN wr q)
          have hown3 := own_below (below_drewN wr q) Hown.out
          have hs3 := hB3.size
          obtain ⟨r0, r1, r2⟩ := hP.out.below hB3
          generalize wr.drewN q = w3 at *
          go_wp2_with (at_builtin; go_must (refine app_flts rfl _ _ rfl w.heap.size w.heap.size (Nat.le_refl _) (.slice ao1 (thL row xs i m k).length cap1) (thL row xs i m k) rfl hown3 hB3 _ _ [thS row xs m k i] rfl rfl (by rw [Hl.out]; simp; omega) hs3 ?_))
          intro v' w' hown' hB' hg'
          rw [← Hsn.out] at hown'
          obtain ⟨ao2, cap2, rfl⟩ := hown'.shape
          clear hg' hown3 hB3
          go_wp2
          go_roundw
          case rel => exact ⟨k + 1, by go_num, by omega, hown', hB'⟩
          case measure => simp [intOf]; omega
    · obtain rfl : k = m := by omega
      go_wp2
      go_ret
      exact ⟨_, rfl, hown, hB⟩
end Go.Proofs.Ytiejljlmbpgbiaa
