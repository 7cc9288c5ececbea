/- MendWord: what both packages return. No conditions but that the slices read. -/
import Derived.Test.YtejabnjhnbminaaLdO
import Derived.Deep.RegionWith
namespace Go.Proofs.Ytejabnjhnbminaa
open Go.RowKit
set_option maxRecDepth 100000
set_option linter.unusedVariables false
set_option linter.unusedSimpArgs false

def mwOk (n : Int) (zs : List Int) (x : Int) : Bool := duOk n zs && inOk n zs x
def mwY (n : Int) (zs : List Int) (x : Int) : Nat := ((ld n.toNat (toN (duZ n zs)))[syn (toN (duZ n zs)) x.toNat]?.getD 0).toNat
def mwV (n : Int) (zs : List Int) (x : Int) : Int := if mwOk n zs x = true then ((x.toNat ^^^ mwY n zs x : Nat) : Int) else 0
def mwC (n : Int) (zs : List Int) (x : Int) : Int := if mwOk n zs x = true then (wt (mwY n zs x) : Int) else 0
theorem mw_at (m : Nat) (hm : m ≤ 16) (zs : List Int) (x : Nat) (hx : x < 2 ^ m) : ∃ h : syn (toN (duZ m zs)) x < (ld m (toN (duZ m zs))).length, (ld m (toN (duZ m zs)))[syn (toN (duZ m zs)) x] = ((mwY m zs x : Nat) : Int) ∧ mwY m zs x < 65536 := by
  have h : syn (toN (duZ m zs)) x < (ld m (toN (duZ m zs))).length := by rw [ld_len]; exact syn_lt _ _
  have h0 := ld_own (n := m) (ds := toN (duZ m zs)) hx
  have hb := ld_bd m (toN (duZ m zs)) _ (List.getElem_mem h)
  have hk65 : 2 ^ m ≤ 65536 := Nat.le_trans (Nat.pow_le_pow_right (by decide) hm) (by decide)
  have e : (ld m (toN (duZ m zs)))[syn (toN (duZ m zs)) x]?.getD 0 = (ld m (toN (duZ m zs)))[syn (toN (duZ m zs)) x] := by simp [h]
  rw [e] at h0
  refine ⟨h, ?_, ?_⟩
  · unfold mwY; rw [Int.toNat_natCast, Int.toNat_natCast, e]; omega
  · unfold mwY; rw [Int.toNat_natCast, Int.toNat_natCast, e]; omega
theorem in_word {m : Nat} {zs : List Int} {x : Int} (hm : m ≤ 16) (h : inOk m zs x = true) : ∃ y : Nat, x = y ∧ y < 2 ^ m ∧ y < 65536 := by
  simp only [inOk, Bool.and_eq_true] at h
  obtain ⟨y, rfl, h1, h2⟩ := isW_nat (by omega) h.2
  exact ⟨y, rfl, by simpa using h1, h2⟩
theorem OI.obk {B : Nat} {w : World} {v : Value} {zs : List Int} (h : OI B w v zs) (h0 : 0 < zs.length) : ∃ g off cap, v = .slice (some ⟨g, off, none⟩) zs.length cap ∧ OB (Value.int .i64) B w g off zs.length cap zs := Og.ob h.2 h0
set_option maxHeartbeats 4000000 in
theorem implMend_any (n : Int) (v : Value) (zs : List Int) (x : Int) (w : World) (h : RI w v zs) :
    Calls Try.prog 18 #[.agg #[.int .i64 n, v], .int .i64 x] w fun e w' => e = .returned (.tuple #[.int .i64 (mwV n zs x), .int .i64 (mwC n zs x), .bool (mwOk n zs x)]) ∧ Below w.heap.size w w' := by
  obtain ⟨ao, cap, rfl⟩ := h.shape
  have hb : ∀ o, Below w.heap.size w (w.alloc o) := fun o => by go_grown
  have g := h.below (hb (.cells #[.int .i64 n, .slice ao zs.length cap] 28))
  by_cases hd : duOk n zs = true
  · by_cases hi : inOk n zs x = true
    · have HO := Lib.hid (show mwOk n zs x = true by simp [mwOk, hd, hi])
      obtain ⟨m, rfl, hm1, hm2, hl8, hnn, hlt⟩ := duOk_bits hd
      obtain ⟨y, rfl, hy2, hy⟩ := in_word hm2 hi
      have HV := Lib.hid (show mwV m zs y = ((y ^^^ mwY m zs y : Nat) : Int) by simp [mwV, HO.out])
      have HC := Lib.hid (show mwC m zs y = (wt (mwY m zs y) : Int) by simp [mwC, HO.out])
      obtain ⟨hs, hq, hq65⟩ := mw_at m hm2 zs y hy2
      have Hl8 := Lib.hid hl8
      have Hnn := Lib.hid hnn
      have Hlt := Lib.hid hlt
      have hsy := fun (v : Value) (w : World) h1 => syndrome_any v (toN (duZ m zs)) y hy w h1 (by rw [toN_len]; exact hl8) hlt
      have hle := fun (v : Value) (w : World) h1 => leaders_any v (toN (duZ m zs)) m hm2 w h1 (by rw [toN_len]; exact hl8) hlt
      have hll := ld_len m (toN (duZ m zs))
      have hl256 : 2 ^ (toN (duZ m zs)).length ≤ 256 := Nat.le_trans (Nat.pow_le_pow_right (by decide) (show (toN (duZ m zs)).length ≤ 8 by rw [toN_len]; exact hl8)) (by decide)
      have hL : (ld m (toN (duZ m zs))).length ≤ 256 := by omega
      clear hl8 hnn hlt hy2 hll hl256
      generalize syn (toN (duZ m zs)) y = s at *
      generalize hLd : ld m (toN (duZ m zs)) = Ld at *
      have HLd := Lib.hid hLd
      clear hLd hle
      generalize mwY m zs y = q at *
      have exo := xor_i64_nat y q (by omega) (by omega)
      go_enter Try.func18, Try.ntmps18
      go_wp2_with fail
      refine (implDual_any m _ zs _ g).mono ?_
      rw [hd, apN_t]
      rintro e w1 ⟨v1, rfl, ho, hb1⟩
      have ho : OI _ w1 v1 (duZ m zs) := ho
      obtain ⟨ao1, cap1, rfl⟩ := ho.shape
      have hp := blk_next hb1 (heap_alloc_new w _)
      have hlt0 := blk_lt hp
      have hB := bnext (hb _) hb1
      have hB1 : ∀ o, Below w.heap.size w (w1.alloc o) := fun o => hB.alloc hB.size o
      have g1 := h.below (hB1 (.cells #[.int .i64 m, .slice ao1 (duZ m zs).length cap1] 28))
      have hpp := blk_alloc hp (o' := .cells #[.int .i64 m, .slice ao1 (duZ m zs).length cap1] 28)
      obtain ⟨c0, c1, -, -⟩ := blk2 hpp
      have gD := ho.ri.below (show Below w1.heap.size w1 (w1.alloc (.cells #[.int .i64 m, .slice ao1 (duZ m zs).length cap1] 28)) by go_grown)
      clear ho g hb1
      go_wp2_with fail
      refine (has_any m _ zs y _ g1).mono ?_
      rw [hi]
      rintro e w2 ⟨rfl, hb2⟩
      obtain ⟨r0, r1, -, -⟩ := blk2 (blk_next hb2 (heap_alloc_new w1 _))
      have hB2 := bnext (hB1 _) hb2
      have gE := (gD.below hb2).2.toN Hnn.out
      clear gD g1 hb2 c0 c1 hpp
      have gE' : Rg eN w2.drew _ _ := gE.below (below_drewN w2 1)
      have hB2' : Below w.heap.size w w2.drew := hB2.drew
      have r1d : w2.drew.cell? ⟨w1.heap.size, 1, none⟩ = some (.slice ao1 (duZ m zs).length cap1) := r1
      go_wp2_with fail
      go_region_with (first
        | (go_at_call 64; go_loud (with_reducible refine Calls.mono (leaders_any _ (toN (duZ m zs)) m hm2 _ gE' (by rw [toN_len]; exact Hl8.out) Hlt.out) ?_; rintro e w3 ⟨v3, rfl, ho3, hb3⟩; rw [HLd.out] at ho3; have hob0 := OI.obk ho3 (show 0 < Ld.length by omega); obtain ⟨g3, off3, cap3, rfl, hob3⟩ := hob0; have hB3 := bnext hB2' hb3; have r3 := cnext hb3 r1d; have c3 := hob3.cell s hs; rw [hq] at c3; have hca := hob3.capn; have hcb := hob3.capm))
        | (go_at_call 65; with_reducible refine Calls.mono (hsy _ _ (by first | exact gE' | exact gE'.below hb3)) ?_; rintro e w4 ⟨rfl, rfl⟩))
      all_goals go_wp2_with (go_at_call 66; refine (weightOf_any q hq65 _).mono ?_; rintro e w5 ⟨rfl, rfl⟩)
      all_goals exact bodyPost_ret (v := .tuple #[.int .i64 ((y ^^^ q : Nat) : Int), .int .i64 (wt q), .bool true]) (by simp [results, Try.results18, go_sem]) rfl ⟨by rw [HV.out, HC.out, HO.out], hB3⟩
    · have hi : inOk n zs x = false := by simpa using hi
      have HO := Lib.hid (show mwOk n zs x = false by simp [mwOk, hi])
      have HV := Lib.hid (show mwV n zs x = 0 by simp [mwV, HO.out])
      have HC := Lib.hid (show mwC n zs x = 0 by simp [mwC, HO.out])
      go_enter Try.func18, Try.ntmps18
      go_wp2_with fail
      refine (implDual_any n _ zs _ g).mono ?_
      rw [hd, apN_t]
      rintro e w1 ⟨v1, rfl, ho, hb1⟩
      have ho : OI _ w1 v1 (duZ n zs) := ho
      obtain ⟨ao1, cap1, rfl⟩ := ho.shape
      have hp := blk_next hb1 (heap_alloc_new w _)
      have hlt0 := blk_lt hp
      have hB := bnext (hb _) hb1
      have hB1 : ∀ o, Below w.heap.size w (w1.alloc o) := fun o => hB.alloc hB.size o
      have g1 := h.below (hB1 (.cells #[.int .i64 n, .slice ao1 (duZ n zs).length cap1] 28))
      have hpp := blk_alloc hp (o' := .cells #[.int .i64 n, .slice ao1 (duZ n zs).length cap1] 28)
      obtain ⟨c0, c1, -, -⟩ := blk2 hpp
      clear ho g hb1
      go_wp2_with fail
      refine (has_any n _ zs x _ g1).mono ?_
      rw [hi]
      rintro e w2 ⟨rfl, hb2⟩
      have hB2 := bnext (hB1 _) hb2
      go_wp2
      exact bodyPost_ret (v := .tuple #[.int .i64 0, .int .i64 0, .bool false]) (by simp [results, Try.results18, go_sem]) rfl ⟨by rw [HV.out, HC.out, HO.out], hB2⟩
  · have hd : duOk n zs = false := by simpa using hd
    have HO := Lib.hid (show mwOk n zs x = false by simp [mwOk, hd])
    have HV := Lib.hid (show mwV n zs x = 0 by simp [mwV, HO.out])
    have HC := Lib.hid (show mwC n zs x = 0 by simp [mwC, HO.out])
    go_enter Try.func18, Try.ntmps18
    go_wp2_with fail
    refine (implDual_any n _ zs _ g).mono ?_
    rw [hd, apN_f]
    rintro e w1 ⟨v1, rfl, ho, hb1⟩
    obtain ⟨ao1, cap1, rfl⟩ := ho.shape
    have hp := blk_next hb1 (heap_alloc_new w _)
    have hlt0 := blk_lt hp
    have hB := bnext (hb _) hb1
    have hB1 : ∀ o, Below w.heap.size w (w1.alloc o) := fun o => hB.alloc hB.size o
    go_wp2
    exact bodyPost_ret (v := .tuple #[.int .i64 0, .int .i64 0, .bool false]) (by simp [results, Try.results18, go_sem]) rfl ⟨by rw [HV.out, HC.out, HO.out], hB1 _⟩
end Go.Proofs.Ytejabnjhnbminaa
