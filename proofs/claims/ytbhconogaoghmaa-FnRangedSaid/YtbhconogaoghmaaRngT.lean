/- RangeBits, GrowingBits. No conditions but that the slices read. -/
import Derived.Test.YtbhconogaoghmaaRngS
import Derived.Test.YtbhconogaoghmaaEvenOf
namespace Go.Proofs.Ytbhconogaoghmaa
open Go.RowKit
set_option maxRecDepth 100000
set_option linter.unusedVariables false
set_option linter.unusedSimpArgs false

theorem txt_ptR {zs : List Int} {n : Int} (h : txt zs n = true) : 2 ≤ n ∧ n ≤ 16 ∧ zs.length ≤ 64 ∧ ∀ z ∈ zs, 0 ≤ z ∧ z < n := by
  simp only [txt, sgn, inB, Bool.and_eq_true, decide_eq_true_eq] at h
  obtain ⟨⟨⟨h1, h2⟩, h3⟩, h4⟩ := h
  refine ⟨h1, h2, h3, fun z hz => ?_⟩
  have := (allIn_iff _ _ _).1 h4 z hz; omega
theorem ogb_nil (B : Nat) (w : World) : Og Value.bool B w (.slice none 0 0) [] := ⟨none, 0, rfl, by simp, by unfold maxLen; omega, (fun a ha => by cases ha), fun i hi => by simp at hi⟩
theorem rb_len {g : Int} {cs zs : List Int} (h : rbOk g cs zs = true) : (rb g cs zs).length ≤ 1024 := by simpa [rbOk] using h
def rgOk (n : Int) (cs zs : List Int) : Bool := cts n cs && (txt zs n && rbOk 0 cs zs)
def rgZ (n : Int) (cs zs : List Int) : List Bool := if rgOk n cs zs = true then rb 0 cs zs else []
theorem rgZ_len (n : Int) (cs zs : List Int) : (rgZ n cs zs).length ≤ 16777216 := by
  unfold rgZ; split
  · rename_i h; unfold rgOk at h; simp only [Bool.and_eq_true] at h; have := rb_len h.2.2; omega
  · simp
def gwOk (n : Int) (zs : List Int) : Bool := txt zs n && rbOk 16 (ones n.toNat) zs
def gwZ (n : Int) (zs : List Int) : List Bool := if gwOk n zs = true then rb 16 (ones n.toNat) zs else []
theorem gwZ_len (n : Int) (zs : List Int) : (gwZ n zs).length ≤ 16777216 := by
  unfold gwZ; split
  · rename_i h; unfold gwOk at h; simp only [Bool.and_eq_true] at h; have := rb_len h.2; omega
  · simp
theorem ones_pos (n : Nat) : Pos (ones n) := fun z hz => by rw [List.eq_of_mem_replicate hz]; omega
theorem ones_sum (n : Nat) : sumL (ones n) = n := by
  induction n with
  | zero => rfl
  | succ n ih => rw [ones, List.replicate_succ, sumL, show List.replicate n (1 : Int) = ones n from rfl, ih]; omega
theorem cts_pos {n : Int} {cs : List Int} (h : cts n cs = true) : Pos cs ∧ cs.length ≤ 16 ∧ 1 ≤ cs.length ∧ (cs.length : Int) = n ∧ sumL cs ≤ 16384 := by
  obtain ⟨h1, h2, h3, h4, h5⟩ := cts_parts h
  exact ⟨fun z hz => (h4 z hz).1, by omega, by omega, h3, h5⟩
set_option maxHeartbeats 2000000 in
theorem implRgb_any (n : Int) (v : Value) (cs : List Int) (vt : Value) (zs : List Int) (w : World) (h : RI w v cs) (ht : RI w vt zs) :
    Calls Try.prog 8 #[.agg #[.int .i64 n, v], vt] w fun e w' => ∃ v', e = .returned (.tuple #[v', .bool (rgOk n cs zs)]) ∧ Og Value.bool w.heap.size w' v' (rgZ n cs zs) ∧ Below w.heap.size w w' := by
  have hb : ∀ o, Below w.heap.size w (w.alloc o) := fun o => by go_grown
  obtain ⟨ao, cap, rfl⟩ := h.shape
  obtain ⟨aot, capt, rfl⟩ := ht.shape
  have g := h.below (hb (.cells #[.int .i64 n, .slice ao cs.length cap] 27))
  have gt := ht.below (hb (.cells #[.int .i64 n, .slice ao cs.length cap] 27))
  have hB := hb (.cells #[.int .i64 n, .slice ao cs.length cap] 27)
  have hA := heap_alloc_new w (.cells #[.int .i64 n, .slice ao cs.length cap] 27)
  generalize hW : w.alloc (.cells #[.int .i64 n, .slice ao cs.length cap] 27) = W0 at g gt hB hA
  obtain ⟨a0, a1, -, -⟩ := blk2 hA
  have hcn := implCounts_any n _ cs W0 g
  by_cases hc : cts n cs = true
  · by_cases hx : txt zs n = true
    · obtain ⟨h1, h2, h3, h4, h5⟩ := cts_pos hc
      obtain ⟨t1, t2, t3, t4⟩ := txt_ptR hx
      have hbt : ∀ w1, Below W0.heap.size W0 w1 → Calls Try.prog 29 #[.agg #[.int .i64 n, .slice ao cs.length cap], .slice aot zs.length capt, .int .i64 0] w1 fun e w' => ∃ v', e = .returned (.tuple #[v', .bool (rbOk 0 cs zs)]) ∧ Og Value.bool w1.heap.size w' v' (rbZ 0 cs zs) ∧ Below w1.heap.size w1 w' := fun w1 hb1 =>
        rangeBits_any n _ cs _ zs 0 _ (g.below hb1) (gt.below hb1) h1 h2 h3 (by omega) (by omega) (by omega) t3 (fun z hz => by have := t4 z hz; omega)
      have Hbt := Lib.hid hbt
      have Ht4 := Lib.hid t4
      have HOk := Lib.hid (show rbOk 0 cs zs = rgOk n cs zs by rw [rgOk, hc, hx]; rfl)
      have HZ := Lib.hid (show rbZ 0 cs zs = rgZ n cs zs by rw [rgZ, rbZ, HOk.out])
      clear hbt h1 t4
      go_enter Try.func8, Try.ntmps8
      go_wp2_with fail
      refine hcn.mono ?_
      rw [hc]
      rintro e w1 ⟨rfl, hb1⟩
      have a0' := cnext hb1 a0
      have a1' := cnext hb1 a1
      have gt' := gt.below hb1
      have hB' := bnext hB hb1
      go_wp2_with fail
      refine (isText_any _ zs _ _ gt').mono ?_
      rw [hx]
      rintro e w' ⟨rfl, rfl⟩
      go_wp2_with fail
      refine (Hbt.out w1 hb1).mono ?_
      rw [HOk.out, HZ.out]
      rintro e w2 ⟨v2, rfl, ho, hb2⟩
      have hsz : w.heap.size ≤ w1.heap.size := hB'.size
      go_wp2
      go_ret2
      exact ⟨_, rfl, ho.mono hsz, bnext hB' hb2⟩
    · have hx : txt zs n = false := by simpa using hx
      have HOk := Lib.hid (show rgOk n cs zs = false by rw [rgOk, hx, Bool.false_and, Bool.and_false])
      have HZ := Lib.hid (show rgZ n cs zs = [] by rw [rgZ, if_neg (by rw [HOk.out]; decide)])
      go_enter Try.func8, Try.ntmps8
      go_wp2_with fail
      refine hcn.mono ?_
      rw [hc]
      rintro e w1 ⟨rfl, hb1⟩
      have a0' := cnext hb1 a0
      have gt' := gt.below hb1
      have hB' := bnext hB hb1
      go_wp2_with fail
      refine (isText_any _ zs _ _ gt').mono ?_
      rw [hx]
      rintro e w' ⟨rfl, rfl⟩
      go_wp2
      go_ret2
      exact ⟨_, ret2 rfl (vb HOk.out.symm), by rw [HZ.out]; exact ogb_nil _ _, hB'⟩
  · have hc : cts n cs = false := by simpa using hc
    have HOk := Lib.hid (show rgOk n cs zs = false by rw [rgOk, hc, Bool.false_and])
    have HZ := Lib.hid (show rgZ n cs zs = [] by rw [rgZ, if_neg (by rw [HOk.out]; decide)])
    go_enter Try.func8, Try.ntmps8
    go_wp2_with fail
    refine hcn.mono ?_
    rw [hc]
    rintro e w1 ⟨rfl, hb1⟩
    have hB' := bnext hB hb1
    go_wp2
    go_ret2
    exact ⟨_, ret2 rfl (vb HOk.out.symm), by rw [HZ.out]; exact ogb_nil _ _, hB'⟩
set_option maxHeartbeats 2000000 in
theorem implGwb_any (n : Int) (vt : Value) (zs : List Int) (w : World) (ht : RI w vt zs) :
    Calls Try.prog 16 #[.int .i64 n, vt] w fun e w' => ∃ v', e = .returned (.tuple #[v', .bool (gwOk n zs)]) ∧ Og Value.bool w.heap.size w' v' (gwZ n zs) ∧ Below w.heap.size w w' := by
  obtain ⟨aot, capt, rfl⟩ := ht.shape
  by_cases hx : txt zs n = true
  · obtain ⟨t1, t2, t3, t4⟩ := txt_ptR hx
    obtain ⟨m, rfl⟩ := Int.eq_ofNat_of_zero_le (show 0 ≤ n by omega)
    have Hol := Lib.hid (show (ones m).length = m by simp [ones])
    have hbt : ∀ (v : Value) (w1 : World), RI w1 v (ones m) → Below w.heap.size w w1 → Calls Try.prog 29 #[.agg #[.int .i64 m, v], .slice aot zs.length capt, .int .i64 16] w1 fun e w' => ∃ v', e = .returned (.tuple #[v', .bool (rbOk 16 (ones m) zs)]) ∧ Og Value.bool w1.heap.size w' v' (rbZ 16 (ones m) zs) ∧ Below w1.heap.size w1 w' := fun v w1 hr hb1 =>
      rangeBits_any m _ (ones m) _ zs 16 _ hr (ht.below hb1) (ones_pos m) (by rw [Hol.out]; omega) (by rw [Hol.out]; omega) (by rw [ones_sum]; omega) (by omega) (by omega) t3 (fun z hz => by have := t4 z hz; rw [Hol.out]; exact this)
    have Hbt := Lib.hid hbt
    have Ht4 := Lib.hid t4
    have HOk := Lib.hid (show rbOk 16 (ones m) zs = gwOk (m : Int) zs by rw [gwOk, hx, Int.toNat_natCast]; rfl)
    have HZ := Lib.hid (show rbZ 16 (ones m) zs = gwZ (m : Int) zs by rw [gwZ, rbZ, HOk.out, Int.toNat_natCast])
    clear hbt t4
    go_enter Try.func16, Try.ntmps16
    go_wp2_with fail
    refine (isText_any _ zs _ _ ht).mono ?_
    rw [hx]
    rintro e w' ⟨rfl, rfl⟩
    go_wp2_with fail
    refine (even_any m (by omega) (by omega) _).mono ?_
    rintro e w1 ⟨v1, rfl, ho1, hb1⟩
    obtain ⟨ao1, cap1, rfl⟩ := ho1.shape
    go_wp2_with fail
    refine (Hbt.out _ w1 ho1.ri hb1).mono ?_
    rw [HOk.out, HZ.out]
    rintro e w2 ⟨v2, rfl, ho, hb3⟩
    have hsz := hb1.size
    go_wp2
    go_ret2
    exact ⟨_, rfl, ho.mono hsz, bnext hb1 hb3⟩
  · have hx : txt zs n = false := by simpa using hx
    have HOk := Lib.hid (show gwOk n zs = false by rw [gwOk, hx, Bool.false_and])
    have HZ := Lib.hid (show gwZ n zs = [] by rw [gwZ, if_neg (by rw [HOk.out]; decide)])
    go_enter Try.func16, Try.ntmps16
    go_wp2_with fail
    refine (isText_any _ zs _ _ ht).mono ?_
    rw [hx]
    rintro e w' ⟨rfl, rfl⟩
    go_wp2
    go_ret2
    exact ⟨_, ret2 rfl (vb HOk.out.symm), by rw [HZ.out]; exact ogb_nil _ _, Below.refl _ _⟩
end Go.Proofs.Ytbhconogaoghmaa
