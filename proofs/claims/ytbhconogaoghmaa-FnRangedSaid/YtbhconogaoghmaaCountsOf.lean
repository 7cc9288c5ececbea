/- CountsOf: what both packages return. No conditions but that the slices read. -/
import Derived.Test.YtbhconogaoghmaaEven
import Derived.Handy
import Derived.BigRegion
namespace Go.Proofs.Ytbhconogaoghmaa
open Go.RowKit
set_option maxRecDepth 100000
set_option linter.unusedVariables false
set_option linter.unusedSimpArgs false

def bump (cs : List Int) (k : Nat) (b : Int) : List Int := cs.set k (cs[k]?.getD 0 + b)
def coF : List Int → List Int → List Int
  | [], cs => cs
  | z :: zs, cs => coF zs (bump cs z.toNat 1)
def coN (zs : List Int) (n : Int) : Int := if txt zs n = true then n else 0
def coZ (zs : List Int) (n : Int) : List Int := if txt zs n = true then coF zs (ones n.toNat) else []
theorem bump_len (cs : List Int) (k : Nat) (b : Int) : (bump cs k b).length = cs.length := by simp [bump]
theorem coF_len (zs cs : List Int) : (coF zs cs).length = cs.length := by
  induction zs generalizing cs with
  | nil => rfl
  | cons z zs ih => rw [coF, ih, bump_len]
theorem txt_parts {zs : List Int} {n : Int} (h : txt zs n = true) : sgn n = true ∧ zs.length ≤ 64 ∧ ∀ z ∈ zs, 0 ≤ z ∧ z ≤ n - 1 := by
  simp only [txt, Bool.and_eq_true, decide_eq_true_eq] at h
  exact ⟨h.1.1, h.1.2, (allIn_iff _ _ _).1 h.2⟩
theorem coZ_len (zs : List Int) (n : Int) : (coZ zs n).length ≤ 16777216 := by
  unfold coZ; split
  · have := sgn_bd (txt_parts ‹_›).1
    rw [coF_len]; simp [ones]; omega
  · simp
theorem bump_small {M : Int} {cs : List Int} {k : Nat} (h : Small M cs) : Small (M + 1) (bump cs k 1) := by
  intro z hz
  rcases List.mem_or_eq_of_mem_set hz with hz | rfl
  · have := h z hz; omega
  · by_cases hk : k < cs.length
    · have := h cs[k] (List.getElem_mem hk)
      simp [hk]; omega
    · simp [hk] at hz ⊢
      unfold bump at hz
      rw [List.set_eq_of_length_le (by omega)] at hz
      have := h _ hz; omega
theorem small_i64 {M : Int} {cs : List Int} (h : Small M cs) (hM : M ≤ 9223372036854775807) : AllI64 cs := fun z hz => by have := h z hz; constructor <;> omega

set_option maxHeartbeats 1000000 in
theorem implCountsOf_any (t : Value) (zs : List Int) (n : Int) (w : World) (ht : RI w t zs) :
    Calls Try.prog 20 #[t, .int .i64 n] w fun e w' => ∃ v', e = .returned (.tuple #[.agg #[.int .i64 (coN zs n), v'], .bool (txt zs n)]) ∧ OI w.heap.size w' v' (coZ zs n) ∧ Below w.heap.size w w' := by
  have hb : ∀ o, Below w.heap.size w (w.alloc o) := fun o => by go_grown
  have g := ht.below (hb (.cells #[.int .i64 0, .slice none 0 0] 27))
  have hlen := ht.len
  obtain ⟨hz, ao, cap, rfl, h1, h2, h3⟩ := ht
  by_cases h : txt zs n = true
  · have hN := Lib.hid (show coN zs n = n by simp [coN, h])
    have hZ := Lib.hid (show coZ zs n = coF zs (ones n.toNat) by simp [coZ, h])
    obtain ⟨hs, hl64, hin⟩ := txt_parts h
    rw [hN.out, hZ.out]
    have Hh := Lib.hid h
    obtain ⟨hs1, hs2⟩ := sgn_bd hs
    obtain ⟨m, rfl⟩ := Int.eq_ofNat_of_zero_le (show 0 ≤ n by omega)
    rw [Int.toNat_natCast]
    clear hN hZ h hs
    go_enter Try.func20, Try.ntmps20
    go_wp2_with (go_at_call 12; refine (isText_any _ zs _ _ g).mono ?_; rw [Hh.out]; rintro e w' ⟨rfl, rfl⟩)
    refine (even_any m (by omega) (by omega) _).mono ?_
    rintro e w1 ⟨v', rfl, ho, hb1⟩
    obtain ⟨ao1, cap1, rfl⟩ := ho.shape
    have hr := blk_next hb1 (heap_alloc_new w (.cells #[.int .i64 0, .slice none 0 0] 27))
    have hB : Below w.heap.size w w1 := bnext (by go_grown) hb1
    have hlt := blk_lt hr
    simp only [World.size_alloc] at ho
    have hblk := ho.2.blk
    clear hb1
    have hol : (ones m).length = m := by simp [ones]
    have Hol := Lib.hid hol
    clear hol
    go_wp2
    go_loopw [18] (fun i wr => ∃ (k : Nat) (cs : List Int), k ≤ zs.length ∧ i = .int .i64 k ∧ wr.heap[w.heap.size]? = some (.cells #[.int .i64 0, .slice none 0 0] 27 (0, 0)) ∧
        wr.heap[w1.heap.size]? = some (.cells #[.int .i64 m, .slice ao1 (ones m).length cap1] 27 (0, 0)) ∧ OI (w.heap.size + 1) wr (.slice ao1 (ones m).length cap1) cs ∧ Small (k + 1) cs ∧ coF (zs.drop k) cs = coF zs (ones m) ∧ Below w.heap.size w wr)
      (fun i _ => zs.length - (intOf i).toNat)
    case atStart =>
      refine ⟨0, ones m, Nat.zero_le _, rfl, blk_alloc hr, heap_alloc_new _ _, ho.below ((Below.refl _ _).alloc (Nat.le_refl _) _), ?_, rfl, hB.alloc (by omega) _⟩
      intro z hz'; rw [List.eq_of_mem_replicate hz']; omega
    case round =>
      clear hr ho hB
      obtain ⟨k, cs, hk, rfl, hr, hc, ho, hsm, hq, hB⟩ := hrel
      have Hq := Lib.hid hq
      have Hsm := Lib.hid hsm
      clear hq hsm
      obtain ⟨r0, r1, q0, q1⟩ := blk2 hr
      obtain ⟨c0, c1, d0, d1⟩ := blk2 hc
      have hlt1 := blk_lt hc
      by_cases hkl : k < zs.length
      · obtain ⟨b, off, rfl, hcell⟩ := h3 k hkl
        have hcell' : wr.cell? ⟨b, off + k, none⟩ = some (.int .i64 zs[k]) := (hB.cell (p := ⟨b, off + k, none⟩) (World.block_lt_of_cell? w _ hcell)).trans hcell
        have Hd := Lib.hid (List.drop_eq_getElem_cons hkl)
        have hzk := hin zs[k] (List.getElem_mem hkl)
        clear hcell h3 hin
        generalize zs[k] = z at hcell' Hd hzk
        obtain ⟨hz0, hz1⟩ := hzk
        obtain ⟨j, rfl⟩ := Int.eq_ofNat_of_zero_le hz0
        have hcl : cs.length = (ones m).length := by
          obtain ⟨_, a_, c_, e_, _⟩ := ho; simp only [Value.slice.injEq] at e_; exact e_.2.1.symm
        have hjm : j < m := by omega
        have hj : j < cs.length := by rw [hcl, Hol.out]; exact hjm
        obtain ⟨hoz, a_, c_, e_, _, _, _, h3c⟩ := id ho
        obtain ⟨g1, off1, e2, hcj, hfj⟩ := h3c j hj
        simp only [Value.slice.injEq] at e_
        obtain ⟨e1, -, rfl⟩ := e_
        subst e1
        subst e2
        have hg1 := hblk g1 rfl
        have hst := ho.2.stored j hj g1 off1 cap1 _ rfl (cs[j] + 1)
        have hbump : cs.set j (cs[j] + 1) = bump cs j 1 := by simp [bump, hj]
        have hs' := bump_small (k := j) Hsm.out
        have hsj := Hsm.out cs[j] (List.getElem_mem hj)
        have hr' := blk_other (p := ⟨g1, off1 + j, none⟩) (u := .int .i64 (cs[j] + 1)) (by simp; omega) hr
        have hc' := blk_other (p := ⟨g1, off1 + j, none⟩) (u := .int .i64 (cs[j] + 1)) (by simp; omega) hc
        have hB' := hB.setCell (p := ⟨g1, off1 + j, none⟩) (by simp; omega) (.int .i64 (cs[j] + 1))
        rw [hbump] at hst
        have Hst := Lib.hid hst
        have Hs := Lib.hid hs'
        have Hl := Lib.hid Hol.out
        clear hst hs' hbump h3c hoz hr hc ho hB hcl
        obtain ⟨hs0, hs1'⟩ := hsj
        have hkb : (k : Int) ≤ 64 := by omega
        have hjl : (j : Int) < ((ones m).length : Int) := by rw [Hol.out]; omega
        have hjl' : j < (ones m).length := by omega
        generalize hcs : cs[j] = x at *
        go_wp2_with fail
        skip
        go_wp2
        go_roundw
        case rel =>
          have e : (((k + 1 : Nat) : Int) + 1) = (k : Int) + 1 + 1 := by omega
          exact ⟨k + 1, bump cs j 1, by omega, by go_num, hr', hc', ⟨small_i64 Hs.out (by omega), Hst.out.1⟩, by rw [e]; exact Hs.out, by rw [← Hq.out, Hd.out, coF, Int.toNat_natCast], by first | exact hB' | exact hB'.drew⟩
        case measure => simp [intOf]; omega
      · have hq := Hq.out
        rw [List.drop_of_length_le (by omega), coF] at hq
        have hcl : cs.length = (ones m).length := by
          obtain ⟨_, a_, c_, e_, _⟩ := ho; simp only [Value.slice.injEq] at e_; exact e_.2.1.symm
        have hfin := OI.box ho w.heap.size (by omega) (.int .i64 m) (.slice ao1 (ones m).length cap1)
        have hfB := below_box hB w.heap.size (Nat.le_refl _) (.int .i64 m) (.slice ao1 (ones m).length cap1)
        rw [hq] at hfin
        have Hf := Lib.hid hfin
        have Hcl := Lib.hid hcl
        clear hq hcl hfin h3 hin ho
        go_wp2
        refine bodyPost_ret (v := .tuple #[.agg #[.int .i64 m, .slice ao1 (ones m).length cap1], .bool true]) (by simp [results, Try.results20, go_sem, r0, r1]) rfl ⟨_, by rw [Hh.out], OI.mono (by omega) Hf.out, hfB⟩
  · have h : txt zs n = false := by simpa using h
    have hN := Lib.hid (show coN zs n = 0 by simp [coN, h])
    have hZ := Lib.hid (show coZ zs n = [] by simp [coZ, h])
    rw [hN.out, hZ.out, h]
    clear hN hZ h3
    go_enter Try.func20, Try.ntmps20
    go_wp2_with (go_at_call 12; refine (isText_any _ zs _ _ g).mono ?_; rw [h]; rintro e w' ⟨rfl, rfl⟩)
    exact bodyPost_ret (v := .tuple #[.agg #[.int .i64 0, .slice none 0 0], .bool false]) (by simp [results, Try.results20, go_sem]) rfl ⟨_, rfl, OI.nil _ _, by go_grown⟩
end Go.Proofs.Ytbhconogaoghmaa
