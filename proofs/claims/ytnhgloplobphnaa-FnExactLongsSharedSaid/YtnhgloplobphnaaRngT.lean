/- RangeBits, GrowingBits. No conditions but that the slices read. -/
import Derived.Test.YtnhgloplobphnaaRngS
import Derived.Test.YtnhgloplobphnaaEvenOf
namespace Go.Proofs.Ytnhgloplobphnaa
open Go.RowKit
set_option maxRecDepth 100000
set_option linter.unusedVariables false
set_option linter.unusedSimpArgs false

theorem txt_parts {zs : List Int} {n : Int} (h : txt zs n = true) : 2 ≤ n ∧ n ≤ 16 ∧ zs.length ≤ 64 ∧ ∀ z ∈ zs, 0 ≤ z ∧ z < n := by
  simp only [txt, sgn, inB, Bool.and_eq_true, decide_eq_true_eq] at h
  obtain ⟨⟨⟨h1, h2⟩, h3⟩, h4⟩ := h
  refine ⟨h1, h2, h3, fun z hz => ?_⟩
  have := (allIn_iff _ _ _).1 h4 z hz; omega
theorem ogb_nil (B : Nat) (w : World) : Og Value.bool B w (.slice none 0 0) [] := ⟨none, 0, rfl, by simp, by unfold maxLen; omega, (fun a ha => by cases ha), fun i hi => by simp at hi⟩
theorem rb_len {g : Int} {cs zs : List Int} (h : rbOk g cs zs = true) : (rb g cs zs).length ≤ 1024 := by simpa [rbOk] using h
def rgOk (n : Int) (cs zs : List Int) : Bool := cts n cs && (txt zs n && rbOk 0 cs zs)
def rgZ (n : Int) (cs zs : List Int) : List Bool := if rgOk n cs zs = true then rb 0 cs zs else []
theorem rgZ_len (n : Int) (cs zs : List Int) : (rgZ n cs zs).length ≤ 16777216 := by
  unfold rgZ; split
  · rename_i h; unfold rgOk at h; simp only [Bool.and_eq_true] at h; have := rb_len h.2.2; omega
  · simp
def gwOk (n : Int) (zs : List Int) : Bool := txt zs n && rbOk 16 (ones n.toNat) zs
def gwZ (n : Int) (zs : List Int) : List Bool := if gwOk n zs = true then rb 16 (ones n.toNat) zs else []
theorem gwZ_len (n : Int) (zs : List Int) : (gwZ n zs).length ≤ 16777216 := by
  unfold gwZ; split
  · rename_i h; unfold gwOk at h; simp only [Bool.and_eq_true] at h; have := rb_len h.2; omega
  · simp
theorem ones_pos (n : Nat) : Pos (ones n) := fun z hz => by rw [List.eq_of_mem_replicate hz]; omega
theorem ones_sum (n : Nat) : sumL (ones n) = n := by
  induction n with
  | zero => rfl
  | succ n ih => rw [ones, List.replicate_succ, sumL, show List.replicate n (1 : Int) = ones n from rfl, ih]; omega
theorem cts_pos {n : Int} {cs : List Int} (h : cts n cs = true) : Pos cs ∧ cs.length ≤ 16 ∧ 1 ≤ cs.length ∧ (cs.length : Int) = n ∧ sumL cs ≤ 16384 := by
  obtain ⟨h1, h2, h3, h4, h5⟩ := cts_parts h
  exact ⟨fun z hz => (h4 z hz).1, by omega, by omega, h3, h5⟩
set_option maxHeartbeats 2000000 in
theorem specGwb_any (n : Int) (vt : Value) (zs : List Int) (w : World) (ht : RI w vt zs) :
    Calls Try.prog 16 #[.int .i64 n, vt] w fun e w' => ∃ v', e = .returned (.tuple #[v', .bool (gwOk n zs)]) ∧ Og Value.bool w.heap.size w' v' (gwZ n zs) ∧ Below w.heap.size w w' := by
  obtain ⟨aot, capt, rfl⟩ := ht.shape
  by_cases hx : txt zs n = true
  · obtain ⟨t1, t2, t3, t4⟩ := txt_parts hx
    obtain ⟨m, rfl⟩ := Int.eq_ofNat_of_zero_le (show 0 ≤ n by omega)
    have Hol := Lib.hid (show (ones m).length = m by simp [ones])
    have hbt : ∀ (v : Value) (B : Nat) (w1 : World), RI w1 v (ones m) → w1.cell? ⟨B, 0, none⟩ = some (.int .i64 m) → w1.cell? ⟨B, 1, none⟩ = some v → Below w.heap.size w w1 → Calls Try.prog 23 #[.pointer (some ⟨B, 0, none⟩), .slice aot zs.length capt, .int .i64 16] w1 fun e w' => ∃ v', e = .returned (.tuple #[v', .bool (rbOk 16 (ones m) zs)]) ∧ Og Value.bool w1.heap.size w' v' (rb 16 (ones m) zs) ∧ Below w1.heap.size w1 w' := fun v B w1 hr b0 b1 hb1 =>
      l05Bits_any m _ (ones m) B _ zs 16 _ hr b0 b1 (ht.below hb1) (ones_pos m) (by rw [Hol.out]; omega) (by rw [Hol.out]; omega) (by rw [ones_sum]; omega) (by omega) (by omega) t3 (fun z hz => by have := t4 z hz; rw [Hol.out]; exact this)
    have Hbt := Lib.hid hbt
    have Ht4 := Lib.hid t4
    have HOk := Lib.hid (show gwOk (m : Int) zs = rbOk 16 (ones m) zs by rw [gwOk, hx, Int.toNat_natCast]; rfl)
    have HZ := Lib.hid (show gwZ (m : Int) zs = if rbOk 16 (ones m) zs = true then rb 16 (ones m) zs else [] by rw [gwZ, HOk.out, Int.toNat_natCast])
    clear hbt t4
    by_cases hk : rbOk 16 (ones m) zs = true
    · have Hk := Lib.hid hk
      rw [Hk.out, if_pos rfl] at HZ
      clear hk
      go_enter Try.func16, Try.ntmps16
      go_wp2_with fail
      refine (l05Text_any _ zs _ _ ht).mono ?_
      rw [hx]
      rintro e w' ⟨rfl, rfl⟩
      go_wp2_with fail
      refine (l05Even_any m (by omega) _).mono ?_
      rintro e w1 ⟨v1, rfl, ho1, hb1⟩
      obtain ⟨ao1, cap1, rfl⟩ := ho1.shape
      go_wp2_with fail
      have hb2 : Below w1.heap.size w1 (w1.alloc (.cells #[.int .i64 m, .slice ao1 (ones m).length cap1] 40)) := by go_grown
      obtain ⟨a0, a1, -, -⟩ := blk2 (heap_alloc_new w1 (.cells #[.int .i64 m, .slice ao1 (ones m).length cap1] 40))
      have hB2 := bnext hb1 hb2
      refine (Hbt.out _ w1.heap.size _ (ho1.ri.below hb2) a0 a1 hB2).mono ?_
      rw [Hk.out]
      rintro e w2 ⟨v2, rfl, ho, hb3⟩
      have hsz := hB2.size
      go_wp2
      go_ret2
      exact ⟨_, ret2 rfl (vb (by rw [HOk.out, Hk.out])), by rw [HZ.out]; exact ho.mono hsz, bnext hB2 hb3⟩
    · have hk : rbOk 16 (ones m) zs = false := by simpa using hk
      have Hk := Lib.hid hk
      rw [Hk.out, if_neg (by decide)] at HZ
      clear hk
      go_enter Try.func16, Try.ntmps16
      go_wp2_with fail
      refine (l05Text_any _ zs _ _ ht).mono ?_
      rw [hx]
      rintro e w' ⟨rfl, rfl⟩
      go_wp2_with fail
      refine (l05Even_any m (by omega) _).mono ?_
      rintro e w1 ⟨v1, rfl, ho1, hb1⟩
      obtain ⟨ao1, cap1, rfl⟩ := ho1.shape
      go_wp2_with fail
      have hb2 : Below w1.heap.size w1 (w1.alloc (.cells #[.int .i64 m, .slice ao1 (ones m).length cap1] 40)) := by go_grown
      obtain ⟨a0, a1, -, -⟩ := blk2 (heap_alloc_new w1 (.cells #[.int .i64 m, .slice ao1 (ones m).length cap1] 40))
      have hB2 := bnext hb1 hb2
      refine (Hbt.out _ w1.heap.size _ (ho1.ri.below hb2) a0 a1 hB2).mono ?_
      rw [Hk.out]
      rintro e w2 ⟨v2, rfl, ho, hb3⟩
      have hsz := hB2.size
      go_wp2
      go_ret2
      exact ⟨_, ret2 rfl (vb (by rw [HOk.out, Hk.out])), by rw [HZ.out]; exact ogb_nil _ _, bnext hB2 hb3⟩
  · have hx : txt zs n = false := by simpa using hx
    have HOk := Lib.hid (show gwOk n zs = false by rw [gwOk, hx, Bool.false_and])
    have HZ := Lib.hid (show gwZ n zs = [] by rw [gwZ, if_neg (by rw [HOk.out]; decide)])
    go_enter Try.func16, Try.ntmps16
    go_wp2_with fail
    refine (l05Text_any _ zs _ _ ht).mono ?_
    rw [hx]
    rintro e w' ⟨rfl, rfl⟩
    go_wp2
    go_ret2
    exact ⟨_, ret2 rfl (vb HOk.out.symm), by rw [HZ.out]; exact ogb_nil _ _, Below.refl _ _⟩
set_option maxHeartbeats 2000000 in
theorem implGwb_any (n : Int) (vt : Value) (zs : List Int) (w : World) (ht : RI w vt zs) :
    Calls Try.prog 20 #[.int .i64 n, vt] w fun e w' => ∃ v', e = .returned (.tuple #[v', .bool (gwOk n zs)]) ∧ Og Value.bool w.heap.size w' v' (gwZ n zs) ∧ Below w.heap.size w w' := by
  obtain ⟨aot, capt, rfl⟩ := ht.shape
  by_cases hx : txt zs n = true
  · obtain ⟨t1, t2, t3, t4⟩ := txt_parts hx
    obtain ⟨m, rfl⟩ := Int.eq_ofNat_of_zero_le (show 0 ≤ n by omega)
    have Hol := Lib.hid (show (ones m).length = m by simp [ones])
    have hbt : ∀ (v : Value) (w1 : World), RI w1 v (ones m) → Below w.heap.size w w1 → Calls Try.prog 25 #[.agg #[.int .i64 m, v], .slice aot zs.length capt, .int .i64 16] w1 fun e w' => ∃ v', e = .returned (.tuple #[v', .bool (rbOk 16 (ones m) zs)]) ∧ Og Value.bool w1.heap.size w' v' (rbZ 16 (ones m) zs) ∧ Below w1.heap.size w1 w' := fun v w1 hr hb1 =>
      rangeBits_any m _ (ones m) _ zs 16 _ hr (ht.below hb1) (ones_pos m) (by rw [Hol.out]; omega) (by rw [Hol.out]; omega) (by rw [ones_sum]; omega) (by omega) (by omega) t3 (fun z hz => by have := t4 z hz; rw [Hol.out]; exact this)
    have Hbt := Lib.hid hbt
    have Ht4 := Lib.hid t4
    have HOk := Lib.hid (show rbOk 16 (ones m) zs = gwOk (m : Int) zs by rw [gwOk, hx, Int.toNat_natCast]; rfl)
    have HZ := Lib.hid (show rbZ 16 (ones m) zs = gwZ (m : Int) zs by rw [gwZ, rbZ, HOk.out, Int.toNat_natCast])
    clear hbt t4
    go_enter Try.func20, Try.ntmps20
    go_wp2_with fail
    refine (isText_any _ zs _ _ ht).mono ?_
    rw [hx]
    rintro e w' ⟨rfl, rfl⟩
    go_wp2_with fail
    refine (even_any m (by omega) (by omega) _).mono ?_
    rintro e w1 ⟨v1, rfl, ho1, hb1⟩
    obtain ⟨ao1, cap1, rfl⟩ := ho1.shape
    go_wp2_with fail
    refine (Hbt.out _ w1 ho1.ri hb1).mono ?_
    rw [HOk.out, HZ.out]
    rintro e w2 ⟨v2, rfl, ho, hb3⟩
    have hsz := hb1.size
    go_wp2
    go_ret2
    exact ⟨_, rfl, ho.mono hsz, bnext hb1 hb3⟩
  · have hx : txt zs n = false := by simpa using hx
    have HOk := Lib.hid (show gwOk n zs = false by rw [gwOk, hx, Bool.false_and])
    have HZ := Lib.hid (show gwZ n zs = [] by rw [gwZ, if_neg (by rw [HOk.out]; decide)])
    go_enter Try.func20, Try.ntmps20
    go_wp2_with fail
    refine (isText_any _ zs _ _ ht).mono ?_
    rw [hx]
    rintro e w' ⟨rfl, rfl⟩
    go_wp2
    go_ret2
    exact ⟨_, ret2 rfl (vb HOk.out.symm), by rw [HZ.out]; exact ogb_nil _ _, Below.refl _ _⟩
end Go.Proofs.Ytnhgloplobphnaa
