/- EvenCounts and CountsOf: what both packages return. No conditions but that the slices read. -/
import Derived.Test.YtbhconogaoghmaaEven
import Derived.Handy
namespace Go.Proofs.Ytbhconogaoghmaa
open Go.RowKit
set_option maxRecDepth 100000
set_option linter.unusedVariables false
set_option linter.unusedSimpArgs false

set_option maxHeartbeats 1000000 in
theorem implEven_any (a : Int) (w : World) :
    Calls Try.prog 19 #[.int .i64 a] w fun e w' => ∃ v', e = .returned (.tuple #[.agg #[.int .i64 (evN a), v'], .bool (sgn a)]) ∧ OI w.heap.size w' v' (evZ a) ∧ Below w.heap.size w w' := by
  by_cases h : sgn a = true
  · have hN := Lib.hid (show evN a = a by simp [evN, h])
    have hZ := Lib.hid (show evZ a = ones a.toNat by simp [evZ, h])
    rw [hN.out, hZ.out, h]
    obtain ⟨h1, h2⟩ := sgn_bd h
    obtain ⟨n, rfl⟩ := Int.eq_ofNat_of_zero_le (show 0 ≤ a by omega)
    rw [Int.toNat_natCast]
    clear hN hZ
    go_enter Try.func19, Try.ntmps19
    go_wp2_with (go_at_call 39; refine (areSigns_any _ _).mono ?_; rw [h]; rintro e w' ⟨rfl, rfl⟩)
    refine (even_any n (by omega) (by omega) _).mono ?_
    rintro e w1 ⟨v', rfl, ho, hb⟩
    obtain ⟨ao, cap, rfl⟩ := ho.shape
    obtain ⟨r0, r1, q0, q1⟩ := blk2 (blk_next hb (heap_alloc_new w _))
    have hB : Below w.heap.size w w1 := bnext (by go_grown) hb
    simp only [World.size_alloc] at ho
    have hfin := OI.box ho w.heap.size (by omega) (.int .i64 n) (.slice ao (ones n).length cap)
    have hfB := below_box hB w.heap.size (Nat.le_refl _) (.int .i64 n) (.slice ao (ones n).length cap)
    go_wp2
    refine bodyPost_ret (v := .tuple #[.agg #[.int .i64 n, .slice ao (ones n).length cap], .bool true]) (by simp [results, Try.results19, go_sem, r0, r1]) rfl ⟨_, rfl, OI.mono (by omega) hfin, hfB⟩
  · have h : sgn a = false := by simpa using h
    have hN := Lib.hid (show evN a = 0 by simp [evN, h])
    have hZ := Lib.hid (show evZ a = [] by simp [evZ, h])
    rw [hN.out, hZ.out, h]
    clear hN hZ
    go_enter Try.func19, Try.ntmps19
    go_wp2_with (go_at_call 39; refine (areSigns_any _ _).mono ?_; rw [h]; rintro e w' ⟨rfl, rfl⟩)
    exact bodyPost_ret (v := .tuple #[.agg #[.int .i64 0, .slice none 0 0], .bool false]) (by simp [results, Try.results19, go_sem]) rfl ⟨_, rfl, OI.nil _ _, by go_grown⟩
end Go.Proofs.Ytbhconogaoghmaa
