/- ValuesOver and ShareSecret: what both packages return. No conditions but that the slices read. -/
import Derived.Test.YtgkciionmhoofaaVal
namespace Go.Proofs.Ytgkciionmhoofaa
open Go.RowKit
set_option maxRecDepth 100000
set_option linter.unusedVariables false
set_option linter.unusedSimpArgs false

theorem inB_min {c p : Int} (h1 : 7 ≤ p) : inB c 1 (min 8 (p - 1)) = (inB c 1 8 && decide (c < p)) := by
  unfold inB
  by_cases a : 1 ≤ c <;> by_cases b : c ≤ 8 <;> by_cases d : c < p <;> simp [a, b, d] <;> omega
theorem inB_min2 {c p : Int} (h1 : 7 ≤ p) {b : Bool} (h : (inB c 1 8 && decide (c < p)) = b) : (8 ≤ p - 1 → inB c 1 8 = b) ∧ (p - 1 ≤ 8 → inB c 1 (p - 1) = b) := by
  rw [← inB_min h1] at h
  exact ⟨fun h8 => by rw [Int.min_eq_left h8] at h; exact h, fun h8 => by rw [Int.min_eq_right h8] at h; exact h⟩
theorem oi_cut {w : World} {B : Nat} {v : Value} {zs : List Int} (h : OwnI B w v zs) (hz : AllI64 zs) {B' : Nat} (hB : B' ≤ B) : OI B' w v zs := (h.oi hz).mono hB
set_option maxHeartbeats 2000000 in
theorem implVo_any (p : Int) (v : Value) (zs : List Int) (n : Int) (w : World) (h : RI w v zs) :
    Calls Try.prog 11 #[.int .i64 p, v, .int .i64 n] w fun e w' => ∃ v', e = .returned (.tuple #[v', .bool (voOk p zs n)]) ∧ OI w.heap.size w' v' (voZ p zs n) ∧ Below w.heap.size w w' := by
  by_cases hn : nums p zs 1 8 = true
  · obtain ⟨hpr, hp1, hp2, -, hl8, hz⟩ := nums_parts hn
    by_cases hc : inB n 1 8 && decide (n < p)
    · have HOK := Lib.hid (show voOk p zs n = true by rw [voOk, hn, Bool.true_and]; exact hc)
      have Hi := Lib.hid (inB_min2 hp1 hc)
      have hnb : 1 ≤ n ∧ n ≤ 8 ∧ n < p := by simpa [inB, and_assoc] using hc
      obtain ⟨m, rfl⟩ := Int.eq_ofNat_of_zero_le (show 0 ≤ n by omega)
      have HZ := Lib.hid (show voZ p zs m = vals p zs 0 m by rw [voZ, if_pos HOK.out]; rfl)
      obtain ⟨ao, cap, rfl⟩ := h.shape
      have G := Lib.hid h
      have Hz := Lib.hid hz
      have hm8 : m ≤ 8 := by omega
      clear hc hnb hz
      go_enter Try.func11, Try.ntmps11
      go_wp2_with fail
      refine (areNumbers_any p _ zs _ _ _ h).mono ?_
      rw [hn]
      rintro e w1 ⟨rfl, hb1⟩
      go_wp2_with fail
      all_goals
        refine (within_any _ _ _ _).mono ?_
        first | rw [Hi.out.1 (by omega)] | rw [Hi.out.2 (by omega)]
        rintro e w2 ⟨rfl, rfl⟩
        have g1 := G.out.below hb1
        have hbs := hb1.size
        go_wp2_with fail
        go_loopw [8, 24] (fun o iv wr => ∃ i : Nat, iv = .int .i64 i ∧ i ≤ m ∧ OwnI w1.heap.size wr o (vals p zs 0 i) ∧ Below w1.heap.size w1 wr) (fun _ iv _ => m - (intOf iv).toNat)
        case atStart => exact ⟨0, rfl, Nat.zero_le _, own_empty w1 _ (Nat.le_refl _), by go_grown⟩
        case round =>
          obtain ⟨i, rfl, hi, hown, hB⟩ := hrel
          obtain ⟨ao1, cap1, rfl⟩ := hown.shape
          have hs1 := hB.size
          have Hl := Lib.hid (vals_len p zs 0 i)
          by_cases him : i < m
          · have Hsn := Lib.hid (vals_snoc p zs 0 i)
            have e0 : ((0 + i : Nat) : Int) = (i : Int) := by omega
            go_wp2_with fail
            refine (valueAt_any p i hp1 hp2 (by omega) (by omega) _ zs Hz.out _ (g1.below hB)).mono ?_
            rintro e w3 ⟨rfl, hb3⟩
            have hB3 := bnext hB hb3
            have hown3 := own_below hb3 hown
            have hs3 := hB3.size
            go_wp2_with (at_builtin; go_must (refine app_ints rfl _ _ rfl w1.heap.size w1.heap.size (Nat.le_refl _) (.slice ao1 (vals p zs 0 i).length cap1) (vals p zs 0 i) rfl hown3 hB3 _ _ [valF p i zs] rfl rfl (by rw [Hl.out]; simp; omega) hs3 ?_))
            intro v' w' hown' hB' hg'
            have hsn := Hsn.out
            rw [e0] at hsn
            rw [hsn] at hown'
            obtain ⟨ao2, cap2, rfl⟩ := hown'.shape
            clear hg' hown hB hown3 hB3 hsn e0 hb3
            go_wp2
            go_roundw
            case rel => exact ⟨i + 1, by go_num, by omega, hown', hB'⟩
            case measure => simp [intOf] <;> omega
          · obtain rfl : i = m := by omega
            have ho := Lib.hid (oi_cut hown (vals_i64 (by omega) hp2 zs 0 i) hbs)
            have hB2 := bnext hb1 hB
            clear hown
            go_wp2
            go_ret2
            exact ⟨_, ret2 rfl (vb HOK.out.symm), by rw [HZ.out]; exact ho.out, hB2⟩
    · have hc : (inB n 1 8 && decide (n < p)) = false := by simpa using hc
      have HOK := Lib.hid (show voOk p zs n = false by rw [voOk, hn, Bool.true_and]; exact hc)
      have HZ := Lib.hid (show voZ p zs n = [] by rw [voZ, HOK.out]; rfl)
      have Hi := Lib.hid (inB_min2 hp1 hc)
      obtain ⟨ao, cap, rfl⟩ := h.shape
      clear hc hz
      go_enter Try.func11, Try.ntmps11
      go_wp2_with fail
      refine (areNumbers_any p _ zs _ _ _ h).mono ?_
      rw [hn]
      rintro e w1 ⟨rfl, hb1⟩
      go_wp2_with fail
      all_goals
        refine (within_any _ _ _ _).mono ?_
        first | rw [Hi.out.1 (by omega)] | rw [Hi.out.2 (by omega)]
        rintro e w2 ⟨rfl, rfl⟩
        go_wp2
        go_ret2
        exact ⟨_, ret2 rfl (vb HOK.out.symm), by rw [HZ.out]; exact OI.nil _ _, hb1⟩
  · have hn : nums p zs 1 8 = false := by simpa using hn
    have HOK := Lib.hid (show voOk p zs n = false by simp [voOk, hn])
    have HZ := Lib.hid (show voZ p zs n = [] by rw [voZ, HOK.out]; rfl)
    obtain ⟨ao, cap, rfl⟩ := h.shape
    go_enter Try.func11, Try.ntmps11
    go_wp2_with fail
    refine (areNumbers_any p _ zs _ _ _ h).mono ?_
    rw [hn]
    rintro e w1 ⟨rfl, hb1⟩
    go_wp2
    go_ret2
    exact ⟨_, ret2 rfl (vb HOK.out.symm), by rw [HZ.out]; exact OI.nil _ _, hb1⟩
end Go.Proofs.Ytgkciionmhoofaa
