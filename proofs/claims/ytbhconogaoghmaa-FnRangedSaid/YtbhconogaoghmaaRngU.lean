/- RangeText, GrowingText. No conditions but that the slices read. -/
import Derived.Test.YtbhconogaoghmaaRngL
import Derived.Test.YtbhconogaoghmaaRngT
namespace Go.Proofs.Ytbhconogaoghmaa
open Go.RowKit
set_option maxRecDepth 100000
set_option linter.unusedVariables false
set_option linter.unusedSimpArgs false

def rxOk (n : Int) (cs : List Int) (bs : List Bool) (a : Int) : Bool := cts n cs && (decide (bs.length ≤ 1024) && inB a 0 64)
def rxZ (n : Int) (cs : List Int) (bs : List Bool) (a : Int) : List Int := if rxOk n cs bs a = true then rt 0 cs bs a.toNat else []
theorem rt_len (g : Int) (cs : List Int) (bs : List Bool) (n : Nat) : (rt g cs bs n).length = n := by rw [rt, rtF_len]; simp
theorem inB64 {a : Int} (h : inB a 0 64 = true) : 0 ≤ a ∧ a ≤ 64 := by have := inB_eq h; simpa using this
theorem rxZ_len (n : Int) (cs : List Int) (bs : List Bool) (a : Int) : (rxZ n cs bs a).length ≤ 16777216 := by
  unfold rxZ; split
  · rename_i h; simp only [rxOk, Bool.and_eq_true] at h; have := inB64 h.2.2; rw [rt_len]; omega
  · simp
def gxOk (n : Int) (bs : List Bool) (a : Int) : Bool := sgn n && (decide (bs.length ≤ 1024) && inB a 0 64)
def gxZ (n : Int) (bs : List Bool) (a : Int) : List Int := if gxOk n bs a = true then rt 16 (ones n.toNat) bs a.toNat else []
theorem gxZ_len (n : Int) (bs : List Bool) (a : Int) : (gxZ n bs a).length ≤ 16777216 := by
  unfold gxZ; split
  · rename_i h; simp only [gxOk, Bool.and_eq_true] at h; have := inB64 h.2.2; rw [rt_len]; omega
  · simp
set_option maxHeartbeats 2000000 in
theorem implRxt_any (n : Int) (v : Value) (cs : List Int) (vb : Value) (bs : List Bool) (a : Int) (w : World) (h : RI w v cs) (hbs : Rg Value.bool w vb bs) :
    Calls Try.prog 9 #[.agg #[.int .i64 n, v], vb, .int .i64 a] w fun e w' => ∃ v', e = .returned (.tuple #[v', .bool (rxOk n cs bs a)]) ∧ OI w.heap.size w' v' (rxZ n cs bs a) ∧ Below w.heap.size w w' := by
  have hb : ∀ o, Below w.heap.size w (w.alloc o) := fun o => by go_grown
  obtain ⟨ao, cap, rfl⟩ := h.shape
  obtain ⟨aob, capb, rfl⟩ := hbs.shape
  have hlb := hbs.len
  have g := h.below (hb (.cells #[.int .i64 n, .slice ao cs.length cap] 27))
  have gb := hbs.below (hb (.cells #[.int .i64 n, .slice ao cs.length cap] 27))
  have hB := hb (.cells #[.int .i64 n, .slice ao cs.length cap] 27)
  have hA := heap_alloc_new w (.cells #[.int .i64 n, .slice ao cs.length cap] 27)
  generalize hW : w.alloc (.cells #[.int .i64 n, .slice ao cs.length cap] 27) = W0 at g gb hB hA
  obtain ⟨a0, a1, -, -⟩ := blk2 hA
  have hcn := implCounts_any n _ cs W0 g
  by_cases hc : cts n cs = true
  · by_cases hl : bs.length ≤ 1024
    · by_cases hi : inB a 0 64 = true
      · obtain ⟨h1, h2, h3, h4, h5⟩ := cts_pos hc
        obtain ⟨i1, i2⟩ := inB64 hi
        obtain rfl := h4
        obtain ⟨q, rfl⟩ := Int.eq_ofNat_of_zero_le i1
        have HOk := Lib.hid (show rxOk cs.length cs bs (q : Int) = true by rw [rxOk, hc, hi, decide_eq_true hl]; rfl)
        have HZ := Lib.hid (show rxZ cs.length cs bs (q : Int) = rt 0 cs bs q by rw [rxZ, if_pos HOk.out, Int.toNat_natCast])
        have Hrd := Lib.hid (show ∀ w1, Below W0.heap.size W0 w1 → _ from fun w1 hb1 => rangeText_any _ cs _ bs q 0 w1 (g.below hb1) (gb.below hb1) h1 h2 h3 (by omega) (by omega) (by omega) (by omega))
        have hl' : ((bs.length : Nat) : Int) ≤ 1024 := by omega
        clear h1
        go_enter Try.func9, Try.ntmps9
        go_wp2_with fail
        refine hcn.mono ?_
        rw [hc]
        rintro e w1 ⟨rfl, hb1⟩
        have a0' := cnext hb1 a0
        have a1' := cnext hb1 a1
        have hB' := bnext hB hb1
        go_wp2_with fail
        refine (within_any _ _ _ _).mono ?_
        rw [hi]
        rintro e w' ⟨rfl, rfl⟩
        go_wp2_with fail
        refine (Hrd.out _ hb1).mono ?_
        rintro e w2 ⟨v2, rfl, ho, hb2⟩
        have hsz := hB'.size
        go_wp2
        go_ret2
        exact ⟨_, ret2 rfl (vb HOk.out.symm), by rw [HZ.out]; exact OI.mono hsz ho, bnext hB' hb2⟩
      · have hi : inB a 0 64 = false := by simpa using hi
        have HOk := Lib.hid (show rxOk n cs bs a = false by rw [rxOk, hi, Bool.and_false, Bool.and_false])
        have HZ := Lib.hid (show rxZ n cs bs a = [] by rw [rxZ, if_neg (by rw [HOk.out]; decide)])
        have hl' : ((bs.length : Nat) : Int) ≤ 1024 := by omega
        go_enter Try.func9, Try.ntmps9
        go_wp2_with fail
        refine hcn.mono ?_
        rw [hc]
        rintro e w1 ⟨rfl, hb1⟩
        have a0' := cnext hb1 a0
        have a1' := cnext hb1 a1
        have hB' := bnext hB hb1
        go_wp2_with fail
        refine (within_any _ _ _ _).mono ?_
        rw [hi]
        rintro e w' ⟨rfl, rfl⟩
        go_wp2
        go_ret2
        exact ⟨_, ret2 rfl (vb HOk.out.symm), by rw [HZ.out]; exact OI.nil _ _, hB'⟩
    · have HOk := Lib.hid (show rxOk n cs bs a = false by rw [rxOk, decide_eq_false hl, Bool.false_and, Bool.and_false])
      have HZ := Lib.hid (show rxZ n cs bs a = [] by rw [rxZ, if_neg (by rw [HOk.out]; decide)])
      have hl' : ¬ ((bs.length : Nat) : Int) ≤ 1024 := by omega
      go_enter Try.func9, Try.ntmps9
      go_wp2_with fail
      refine hcn.mono ?_
      rw [hc]
      rintro e w1 ⟨rfl, hb1⟩
      have a0' := cnext hb1 a0
      have a1' := cnext hb1 a1
      have hB' := bnext hB hb1
      go_wp2
      go_ret2
      exact ⟨_, ret2 rfl (vb HOk.out.symm), by rw [HZ.out]; exact OI.nil _ _, hB'⟩
  · have hc : cts n cs = false := by simpa using hc
    have HOk := Lib.hid (show rxOk n cs bs a = false by rw [rxOk, hc, Bool.false_and])
    have HZ := Lib.hid (show rxZ n cs bs a = [] by rw [rxZ, if_neg (by rw [HOk.out]; decide)])
    go_enter Try.func9, Try.ntmps9
    go_wp2_with fail
    refine hcn.mono ?_
    rw [hc]
    rintro e w1 ⟨rfl, hb1⟩
    have a0' := cnext hb1 a0
    have a1' := cnext hb1 a1
    have hB' := bnext hB hb1
    go_wp2
    go_ret2
    exact ⟨_, ret2 rfl (vb HOk.out.symm), by rw [HZ.out]; exact OI.nil _ _, hB'⟩
set_option maxHeartbeats 2000000 in
theorem implGxt_any (n : Int) (vb : Value) (bs : List Bool) (a : Int) (w : World) (hbs : Rg Value.bool w vb bs) :
    Calls Try.prog 17 #[.int .i64 n, vb, .int .i64 a] w fun e w' => ∃ v', e = .returned (.tuple #[v', .bool (gxOk n bs a)]) ∧ OI w.heap.size w' v' (gxZ n bs a) ∧ Below w.heap.size w w' := by
  obtain ⟨aob, capb, rfl⟩ := hbs.shape
  have hlb := hbs.len
  by_cases hs : sgn n = true
  · by_cases hl : bs.length ≤ 1024
    · by_cases hi : inB a 0 64 = true
      · skip
        obtain ⟨s1, s2⟩ := sgn_bd hs
        obtain ⟨i1, i2⟩ := inB64 hi
        obtain ⟨q, rfl⟩ := Int.eq_ofNat_of_zero_le i1
        obtain ⟨m, rfl⟩ := Int.eq_ofNat_of_zero_le (show 0 ≤ n by omega)
        have Hol := Lib.hid (show (ones m).length = m by simp [ones])
        have HOk := Lib.hid (show gxOk (m : Int) bs (q : Int) = true by rw [gxOk, hs, hi, decide_eq_true hl]; rfl)
        have HZ := Lib.hid (show gxZ (m : Int) bs (q : Int) = rt 16 (ones m) bs q by rw [gxZ, if_pos HOk.out, Int.toNat_natCast, Int.toNat_natCast])
        have hl' : ((bs.length : Nat) : Int) ≤ 1024 := by omega
        have Hrd := Lib.hid (show ∀ (v : Value) (w1 : World), RI w1 v (ones m) → Below w.heap.size w w1 → _ from fun v w1 hr hb1 => rangeText_any v (ones m) _ bs q 16 w1 hr (hbs.below hb1) (ones_pos m) (by rw [Hol.out]; omega) (by rw [Hol.out]; omega) (by rw [ones_sum]; omega) (by omega) (by omega) (by omega))
        rw [Hol.out] at Hrd
        go_enter Try.func17, Try.ntmps17
        go_wp2_with fail
        refine (areSigns_any _ _).mono ?_
        rw [hs]
        rintro e w' ⟨rfl, rfl⟩
        go_wp2_with fail
        refine (within_any _ _ _ _).mono ?_
        rw [hi]
        rintro e w' ⟨rfl, rfl⟩
        go_wp2_with fail
        refine (even_any m (by omega) (by omega) _).mono ?_
        rintro e w1 ⟨v1, rfl, ho1, hb1⟩
        obtain ⟨ao1, cap1, rfl⟩ := ho1.shape
        go_wp2_with fail
        have hB2 := hb1
        refine (Hrd.out _ w1 ho1.ri hb1).mono ?_
        rintro e w2 ⟨v2, rfl, ho, hb3⟩
        have hsz := hB2.size
        go_wp2
        go_ret2
        exact ⟨_, ret2 rfl (vb HOk.out.symm), by rw [HZ.out]; exact OI.mono hsz ho, bnext hB2 hb3⟩
      · have hi : inB a 0 64 = false := by simpa using hi
        have HOk := Lib.hid (show gxOk n bs a = false by rw [gxOk, hi, Bool.and_false, Bool.and_false])
        have HZ := Lib.hid (show gxZ n bs a = [] by rw [gxZ, if_neg (by rw [HOk.out]; decide)])
        have hl' : ((bs.length : Nat) : Int) ≤ 1024 := by omega
        go_enter Try.func17, Try.ntmps17
        go_wp2_with fail
        refine (areSigns_any _ _).mono ?_
        rw [hs]
        rintro e w' ⟨rfl, rfl⟩
        go_wp2_with fail
        refine (within_any _ _ _ _).mono ?_
        rw [hi]
        rintro e w' ⟨rfl, rfl⟩
        go_wp2
        go_ret2
        exact ⟨_, ret2 rfl (vb HOk.out.symm), by rw [HZ.out]; exact OI.nil _ _, Below.refl _ _⟩
    · have HOk := Lib.hid (show gxOk n bs a = false by rw [gxOk, decide_eq_false hl, Bool.false_and, Bool.and_false])
      have HZ := Lib.hid (show gxZ n bs a = [] by rw [gxZ, if_neg (by rw [HOk.out]; decide)])
      have hl' : ¬ ((bs.length : Nat) : Int) ≤ 1024 := by omega
      go_enter Try.func17, Try.ntmps17
      go_wp2_with fail
      refine (areSigns_any _ _).mono ?_
      rw [hs]
      rintro e w' ⟨rfl, rfl⟩
      go_wp2
      go_ret2
      exact ⟨_, ret2 rfl (vb HOk.out.symm), by rw [HZ.out]; exact OI.nil _ _, Below.refl _ _⟩
  · have hs : sgn n = false := by simpa using hs
    have HOk := Lib.hid (show gxOk n bs a = false by rw [gxOk, hs, Bool.false_and])
    have HZ := Lib.hid (show gxZ n bs a = [] by rw [gxZ, if_neg (by rw [HOk.out]; decide)])
    go_enter Try.func17, Try.ntmps17
    go_wp2_with fail
    refine (areSigns_any _ _).mono ?_
    rw [hs]
    rintro e w' ⟨rfl, rfl⟩
    go_wp2
    go_ret2
    exact ⟨_, ret2 rfl (vb HOk.out.symm), by rw [HZ.out]; exact OI.nil _ _, Below.refl _ _⟩
end Go.Proofs.Ytbhconogaoghmaa
