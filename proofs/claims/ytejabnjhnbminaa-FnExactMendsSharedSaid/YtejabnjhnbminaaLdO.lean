/- LeadersOf: what both packages return. No conditions but that the slices read. -/
import Derived.Test.YtejabnjhnbminaaLdS
import Derived.Test.YtejabnjhnbminaaEncB
namespace Go.Proofs.Ytejabnjhnbminaa
open Go.RowKit
set_option maxRecDepth 100000
set_option linter.unusedVariables false
set_option linter.unusedSimpArgs false

def leZ (n : Int) (zs : List Int) : List Int := if duOk n zs = true then ld n.toNat (toN (duZ n zs)) else []
theorem duOk_bits {n : Int} {zs : List Int} (h : duOk n zs = true) : ∃ m : Nat, n = m ∧ 1 ≤ m ∧ m ≤ 16 ∧ (duZ n zs).length ≤ 8 ∧ (∀ z ∈ duZ n zs, 0 ≤ z) ∧ Lt 65536 (toN (duZ n zs)) := by
  simp only [duOk, Bool.and_eq_true] at h
  obtain ⟨m, rfl, h1, h2, h3, h4, h5, h6, h7⟩ := prv_parts h.2
  refine ⟨m, rfl, h1, h2, h4, nn_of3 h5, fun y hy => ?_⟩
  have := h6 y hy
  have hk65 : 2 ^ m ≤ 65536 := Nat.le_trans (Nat.pow_le_pow_right (by decide) h2) (by decide)
  omega
theorem leZ_len (n : Int) (zs : List Int) : (leZ n zs).length ≤ 16777216 := by
  unfold leZ; split
  · obtain ⟨m, rfl, _, _, h8, _, _⟩ := duOk_bits ‹_›
    rw [ld_len, toN_len]
    exact Nat.le_trans (Nat.pow_le_pow_right (by decide) h8) (by decide)
  · simp
set_option maxHeartbeats 1000000 in
theorem implLead_any (n : Int) (v : Value) (zs : List Int) (w : World) (h : RI w v zs) :
    Calls Try.prog 21 #[.agg #[.int .i64 n, v]] w fun e w' => ∃ v', e = .returned (.tuple #[v', .bool (duOk n zs)]) ∧ OI w.heap.size w' v' (leZ n zs) ∧ Below w.heap.size w w' := by
  obtain ⟨ao, cap, rfl⟩ := h.shape
  have hb : ∀ o, Below w.heap.size w (w.alloc o) := fun o => by go_grown
  have g := h.below (hb (.cells #[.int .i64 n, .slice ao zs.length cap] 28))
  by_cases hd : duOk n zs = true
  · have HL := Lib.hid (show leZ n zs = ld n.toNat (toN (duZ n zs)) by simp [leZ, hd])
    obtain ⟨m, rfl, hm1, hm2, hl8, hnn, hlt⟩ := duOk_bits hd
    have Hl8 := Lib.hid hl8
    have Hnn := Lib.hid hnn
    have Hlt := Lib.hid hlt
    rw [HL.out, Int.toNat_natCast, hd]
    clear hl8 hnn hlt HL
    go_enter Try.func21, Try.ntmps21
    go_wp2_with fail
    refine (implDual_any m _ zs _ g).mono ?_
    rw [hd, apN_t]
    rintro e w1 ⟨v1, rfl, ho, hb1⟩
    have ho : OI _ w1 v1 (duZ m zs) := ho
    obtain ⟨ao1, cap1, rfl⟩ := ho.shape
    have hp := blk_next hb1 (heap_alloc_new w _)
    have hlt0 := blk_lt hp
    obtain ⟨k0, k1, -, -⟩ := blk2 hp
    have hB := bnext (hb _) hb1
    have hB1 : ∀ o, Below w.heap.size w (w1.alloc o) := fun o => hB.alloc hB.size o
    have hpp := blk_alloc hp (o' := .cells #[.int .i64 m, .slice ao1 (duZ m zs).length cap1] 28)
    obtain ⟨c0, c1, -, -⟩ := blk2 hpp
    have gD := ho.ri.below (show Below w1.heap.size w1 (w1.alloc (.cells #[.int .i64 m, .slice ao1 (duZ m zs).length cap1] 28)) by go_grown)
    have gE := gD.2.toN Hnn.out
    clear ho g hb1 gD
    go_wp2_with fail
    refine (leaders_any _ (toN (duZ m zs)) m hm2 _ gE (by rw [toN_len]; exact Hl8.out) Hlt.out).mono ?_
    rintro e w2 ⟨v2, rfl, ho2, hb2⟩
    have hB2 := bnext (hB1 _) hb2
    have Ho := Lib.hid (OI.mono (show w.heap.size ≤ _ by simp; omega) ho2)
    clear ho2 hb2
    go_wp2
    go_ret2
    exact ⟨_, rfl, Ho.out, hB2⟩
  · have hd : duOk n zs = false := by simpa using hd
    have HL := Lib.hid (show leZ n zs = [] by simp [leZ, hd])
    rw [HL.out, hd]
    go_enter Try.func21, Try.ntmps21
    go_wp2_with fail
    refine (implDual_any n _ zs _ g).mono ?_
    rw [hd, apN_f]
    rintro e w1 ⟨v1, rfl, ho, hb1⟩
    obtain ⟨ao1, cap1, rfl⟩ := ho.shape
    have hp := blk_next hb1 (heap_alloc_new w _)
    have hlt0 := blk_lt hp
    have hB := bnext (hb _) hb1
    have hB1 : ∀ o, Below w.heap.size w (w1.alloc o) := fun o => hB.alloc hB.size o
    go_wp2
    go_ret2
    exact ⟨.slice none 0 0, rfl, OI.nil _ _, hB1 _⟩
set_option maxHeartbeats 1000000 in
theorem specLead_any (n : Int) (v : Value) (zs : List Int) (w : World) (h : RI w v zs) :
    Calls Try.prog 20 #[.agg #[.int .i64 n, v]] w fun e w' => ∃ v', e = .returned (.tuple #[v', .bool (duOk n zs)]) ∧ OI w.heap.size w' v' (leZ n zs) ∧ Below w.heap.size w w' := by
  obtain ⟨ao, cap, rfl⟩ := h.shape
  have hb : ∀ o, Below w.heap.size w (w.alloc o) := fun o => by go_grown
  have g := h.below (hb (.cells #[.int .i64 n, .slice ao zs.length cap] 28))
  by_cases hd : duOk n zs = true
  · have HL := Lib.hid (show leZ n zs = ld n.toNat (toN (duZ n zs)) by simp [leZ, hd])
    obtain ⟨m, rfl, hm1, hm2, hl8, hnn, hlt⟩ := duOk_bits hd
    have Hl8 := Lib.hid hl8
    have Hnn := Lib.hid hnn
    have Hlt := Lib.hid hlt
    rw [HL.out, Int.toNat_natCast, hd]
    clear hl8 hnn hlt HL
    go_enter Try.func20, Try.ntmps20
    go_wp2_with fail
    refine (specDual_any m _ zs _ g).mono ?_
    rw [hd, apN_t]
    rintro e w1 ⟨v1, rfl, ho, hb1⟩
    have ho : OI _ w1 v1 (duZ m zs) := ho
    obtain ⟨ao1, cap1, rfl⟩ := ho.shape
    have hp := blk_next hb1 (heap_alloc_new w _)
    have hlt0 := blk_lt hp
    obtain ⟨k0, k1, -, -⟩ := blk2 hp
    have hB := bnext (hb _) hb1
    have hB1 : ∀ o, Below w.heap.size w (w1.alloc o) := fun o => hB.alloc hB.size o
    have hpp := blk_alloc hp (o' := .cells #[.int .i64 m, .slice ao1 (duZ m zs).length cap1] 28)
    obtain ⟨c0, c1, -, -⟩ := blk2 hpp
    have gD := ho.ri.below (show Below w1.heap.size w1 (w1.alloc (.cells #[.int .i64 m, .slice ao1 (duZ m zs).length cap1] 28)) by go_grown)
    have gE := gD.2.toN Hnn.out
    clear ho g hb1 gD
    go_wp2_with fail
    refine (l06Leaders_any _ (toN (duZ m zs)) m hm2 _ gE (by rw [toN_len]; exact Hl8.out) Hlt.out).mono ?_
    rintro e w2 ⟨v2, rfl, ho2, hb2⟩
    have hB2 := bnext (hB1 _) hb2
    have Ho := Lib.hid (OI.mono (show w.heap.size ≤ _ by simp; omega) ho2)
    clear ho2 hb2
    go_wp2
    go_ret2
    exact ⟨_, rfl, Ho.out, hB2⟩
  · have hd : duOk n zs = false := by simpa using hd
    have HL := Lib.hid (show leZ n zs = [] by simp [leZ, hd])
    rw [HL.out, hd]
    go_enter Try.func20, Try.ntmps20
    go_wp2_with fail
    refine (specDual_any n _ zs _ g).mono ?_
    rw [hd, apN_f]
    rintro e w1 ⟨v1, rfl, ho, hb1⟩
    obtain ⟨ao1, cap1, rfl⟩ := ho.shape
    have hp := blk_next hb1 (heap_alloc_new w _)
    have hlt0 := blk_lt hp
    have hB := bnext (hb _) hb1
    have hB1 : ∀ o, Below w.heap.size w (w1.alloc o) := fun o => hB.alloc hB.size o
    go_wp2
    go_ret2
    exact ⟨.slice none 0 0, rfl, OI.nil _ _, hB1 _⟩
end Go.Proofs.Ytejabnjhnbminaa
