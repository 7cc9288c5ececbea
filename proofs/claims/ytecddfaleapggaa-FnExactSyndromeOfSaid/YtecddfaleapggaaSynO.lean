/- SyndromeOf: what both packages return. No conditions but that the slices read. -/
import Derived.Test.YtecddfaleapggaaSyn
namespace Go.Proofs.Ytecddfaleapggaa
open Go.RowKit
set_option maxRecDepth 100000
set_option linter.unusedVariables false
set_option linter.unusedSimpArgs false

theorem duOk_parts {n : Int} {zs : List Int} (h : duOk n zs = true) : ∃ m : Nat, n = m ∧ 1 ≤ m ∧ m ≤ 16 ∧ (duZ n zs).length ≤ 8 ∧ (∀ z ∈ duZ n zs, 0 ≤ z) ∧ Lt 65536 (toN (duZ n zs)) := by
  simp only [duOk, Bool.and_eq_true] at h
  obtain ⟨m, rfl, h1, h2, h3, h4, h5, h6, h7⟩ := prv_parts h.2
  refine ⟨m, rfl, h1, h2, h4, nn_of3 h5, fun y hy => ?_⟩
  have := h6 y hy
  have hk65 : 2 ^ m ≤ 65536 := Nat.le_trans (Nat.pow_le_pow_right (by decide) h2) (by decide)
  omega
theorem inOk_parts {m : Nat} {zs : List Int} {x : Int} (hm : m ≤ 16) (h : inOk m zs x = true) : ∃ y : Nat, x = y ∧ y < 65536 := by
  simp only [inOk, Bool.and_eq_true] at h
  obtain ⟨y, rfl, _, h2⟩ := isW_nat (by omega) h.2
  exact ⟨y, rfl, h2⟩
set_option maxHeartbeats 1000000 in
theorem implSyn_any (n : Int) (v : Value) (zs : List Int) (x : Int) (w : World) (h : RI w v zs) :
    Calls Try.prog 43 #[.agg #[.int .i64 n, v], .int .i64 x] w fun e w' => e = .returned (.tuple #[.int .i64 (syV n zs x), .bool (syOk n zs x)]) ∧ Below w.heap.size w w' := by
  obtain ⟨ao, cap, rfl⟩ := h.shape
  have hb : ∀ o, Below w.heap.size w (w.alloc o) := fun o => by go_grown
  have g := h.below (hb (.cells #[.int .i64 n, .slice ao zs.length cap] 27))
  by_cases hd : duOk n zs = true
  · by_cases hi : inOk n zs x = true
    · have HO := Lib.hid (show syOk n zs x = true by simp [syOk, hd, hi])
      have HV := Lib.hid (show syV n zs x = (syn (toN (duZ n zs)) x.toNat : Nat) by simp [syV, HO.out])
      obtain ⟨m, rfl, hm1, hm2, hl8, hnn, hlt⟩ := duOk_parts hd
      obtain ⟨y, rfl, hy⟩ := inOk_parts hm2 hi
      have Hl8 := Lib.hid hl8
      have Hnn := Lib.hid hnn
      have Hlt := Lib.hid hlt
      clear hl8 hnn hlt
      go_enter Try.func43, Try.ntmps43
      go_wp2_with fail
      refine (implDual_any m _ zs _ g).mono ?_
      rw [hd, apN_t]
      rintro e w1 ⟨v1, rfl, ho, hb1⟩
      have ho : OI _ w1 v1 (duZ m zs) := ho
      obtain ⟨ao1, cap1, rfl⟩ := ho.shape
      have hp := blk_next hb1 (heap_alloc_new w _)
      have hlt0 := blk_lt hp
      obtain ⟨k0, k1, -, -⟩ := blk2 hp
      have hB := bnext (hb _) hb1
      have hB1 : ∀ o, Below w.heap.size w (w1.alloc o) := fun o => hB.alloc hB.size o
      have g1 := h.below (hB1 (.cells #[.int .i64 m, .slice ao1 (duZ m zs).length cap1] 27))
      have hpp := blk_alloc hp (o' := .cells #[.int .i64 m, .slice ao1 (duZ m zs).length cap1] 27)
      obtain ⟨c0, c1, -, -⟩ := blk2 hpp
      have gD := ho.ri.below (show Below w1.heap.size w1 (w1.alloc (.cells #[.int .i64 m, .slice ao1 (duZ m zs).length cap1] 27)) by go_grown)
      clear ho g hb1
      go_wp2_with fail
      refine (has_any m _ zs y _ g1).mono ?_
      rw [hi]
      rintro e w2 ⟨rfl, hb2⟩
      obtain ⟨r0, r1, -, -⟩ := blk2 (blk_next hb2 (heap_alloc_new w1 _))
      have hB2 := bnext (hB1 _) hb2
      have gE := (gD.below hb2).2.toN Hnn.out
      clear gD g1 hb2
      go_wp2_with (go_at_call 74; refine (syndrome_any _ (toN (duZ m zs)) y hy _ gE (by rw [toN_len]; exact Hl8.out) Hlt.out).mono ?_; rintro e w' ⟨rfl, rfl⟩)
      go_ret2
      exact ⟨ret2 (vi (by rw [HV.out, Int.toNat_natCast])) (vb HO.out.symm), hB2⟩
    · have hi : inOk n zs x = false := by simpa using hi
      have HO := Lib.hid (show syOk n zs x = false by simp [syOk, hi])
      have HV := Lib.hid (show syV n zs x = 0 by simp [syV, HO.out])
      go_enter Try.func43, Try.ntmps43
      go_wp2_with fail
      refine (implDual_any n _ zs _ g).mono ?_
      rw [hd, apN_t]
      rintro e w1 ⟨v1, rfl, ho, hb1⟩
      have ho : OI _ w1 v1 (duZ n zs) := ho
      obtain ⟨ao1, cap1, rfl⟩ := ho.shape
      have hp := blk_next hb1 (heap_alloc_new w _)
      have hlt0 := blk_lt hp
      obtain ⟨k0, k1, -, -⟩ := blk2 hp
      have hB := bnext (hb _) hb1
      have hB1 : ∀ o, Below w.heap.size w (w1.alloc o) := fun o => hB.alloc hB.size o
      have g1 := h.below (hB1 (.cells #[.int .i64 n, .slice ao1 (duZ n zs).length cap1] 27))
      have hpp := blk_alloc hp (o' := .cells #[.int .i64 n, .slice ao1 (duZ n zs).length cap1] 27)
      obtain ⟨c0, c1, -, -⟩ := blk2 hpp
      clear ho g hb1
      go_wp2_with fail
      refine (has_any n _ zs x _ g1).mono ?_
      rw [hi]
      rintro e w2 ⟨rfl, hb2⟩
      have hB2 := bnext (hB1 _) hb2
      go_wp2
      go_ret2
      exact ⟨ret2 (vi HV.out.symm) (vb HO.out.symm), hB2⟩
  · have hd : duOk n zs = false := by simpa using hd
    have HO := Lib.hid (show syOk n zs x = false by simp [syOk, hd])
    have HV := Lib.hid (show syV n zs x = 0 by simp [syV, HO.out])
    go_enter Try.func43, Try.ntmps43
    go_wp2_with fail
    refine (implDual_any n _ zs _ g).mono ?_
    rw [hd, apN_f]
    rintro e w1 ⟨v1, rfl, ho, hb1⟩
    obtain ⟨ao1, cap1, rfl⟩ := ho.shape
    have hp := blk_next hb1 (heap_alloc_new w _)
    have hlt0 := blk_lt hp
    have hB := bnext (hb _) hb1
    have hB1 : ∀ o, Below w.heap.size w (w1.alloc o) := fun o => hB.alloc hB.size o
    go_wp2
    go_ret2
    exact ⟨ret2 (vi HV.out.symm) (vb HO.out.symm), hB1 _⟩
set_option maxHeartbeats 1000000 in
theorem specSyn_any (n : Int) (v : Value) (zs : List Int) (x : Int) (w : World) (h : RI w v zs) :
    Calls Try.prog 42 #[.agg #[.int .i64 n, v], .int .i64 x] w fun e w' => e = .returned (.tuple #[.int .i64 (syV n zs x), .bool (syOk n zs x)]) ∧ Below w.heap.size w w' := by
  obtain ⟨ao, cap, rfl⟩ := h.shape
  have hb : ∀ o, Below w.heap.size w (w.alloc o) := fun o => by go_grown
  have g := h.below (hb (.cells #[.int .i64 n, .slice ao zs.length cap] 27))
  by_cases hd : duOk n zs = true
  · by_cases hi : inOk n zs x = true
    · have HO := Lib.hid (show syOk n zs x = true by simp [syOk, hd, hi])
      have HV := Lib.hid (show syV n zs x = (syn (toN (duZ n zs)) x.toNat : Nat) by simp [syV, HO.out])
      obtain ⟨m, rfl, hm1, hm2, hl8, hnn, hlt⟩ := duOk_parts hd
      obtain ⟨y, rfl, hy⟩ := inOk_parts hm2 hi
      have Hl8 := Lib.hid hl8
      have Hnn := Lib.hid hnn
      have Hlt := Lib.hid hlt
      clear hl8 hnn hlt
      go_enter Try.func42, Try.ntmps42
      go_wp2_with fail
      refine (specDual_any m _ zs _ g).mono ?_
      rw [hd, apN_t]
      rintro e w1 ⟨v1, rfl, ho, hb1⟩
      have ho : OI _ w1 v1 (duZ m zs) := ho
      obtain ⟨ao1, cap1, rfl⟩ := ho.shape
      have hp := blk_next hb1 (heap_alloc_new w _)
      have hlt0 := blk_lt hp
      obtain ⟨k0, k1, -, -⟩ := blk2 hp
      have hB := bnext (hb _) hb1
      have hB1 : ∀ o, Below w.heap.size w (w1.alloc o) := fun o => hB.alloc hB.size o
      have g1 := h.below (hB1 (.cells #[.int .i64 m, .slice ao1 (duZ m zs).length cap1] 27))
      have hpp := blk_alloc hp (o' := .cells #[.int .i64 m, .slice ao1 (duZ m zs).length cap1] 27)
      obtain ⟨c0, c1, -, -⟩ := blk2 hpp
      have gD := ho.ri.below (show Below w1.heap.size w1 (w1.alloc (.cells #[.int .i64 m, .slice ao1 (duZ m zs).length cap1] 27)) by go_grown)
      clear ho g hb1
      go_wp2_with fail
      refine (l06Can_any m _ zs y w.heap.size _ g1 c0 c1).mono ?_
      rw [hi]
      rintro e w2 ⟨rfl, hb2⟩
      obtain ⟨r0, r1, -, -⟩ := blk2 (blk_next hb2 (heap_alloc_new w1 _))
      have hB2 := bnext (hB1 _) hb2
      have gE := (gD.below hb2).2.toN Hnn.out
      clear gD g1 hb2
      go_wp2_with (go_at_call 73; refine (l06Syndrome_any _ (toN (duZ m zs)) y hy _ gE (by rw [toN_len]; exact Hl8.out) Hlt.out).mono ?_; rintro e w' ⟨rfl, rfl⟩)
      go_ret2
      exact ⟨ret2 (vi (by rw [HV.out, Int.toNat_natCast])) (vb HO.out.symm), hB2⟩
    · have hi : inOk n zs x = false := by simpa using hi
      have HO := Lib.hid (show syOk n zs x = false by simp [syOk, hi])
      have HV := Lib.hid (show syV n zs x = 0 by simp [syV, HO.out])
      go_enter Try.func42, Try.ntmps42
      go_wp2_with fail
      refine (specDual_any n _ zs _ g).mono ?_
      rw [hd, apN_t]
      rintro e w1 ⟨v1, rfl, ho, hb1⟩
      have ho : OI _ w1 v1 (duZ n zs) := ho
      obtain ⟨ao1, cap1, rfl⟩ := ho.shape
      have hp := blk_next hb1 (heap_alloc_new w _)
      have hlt0 := blk_lt hp
      obtain ⟨k0, k1, -, -⟩ := blk2 hp
      have hB := bnext (hb _) hb1
      have hB1 : ∀ o, Below w.heap.size w (w1.alloc o) := fun o => hB.alloc hB.size o
      have g1 := h.below (hB1 (.cells #[.int .i64 n, .slice ao1 (duZ n zs).length cap1] 27))
      have hpp := blk_alloc hp (o' := .cells #[.int .i64 n, .slice ao1 (duZ n zs).length cap1] 27)
      obtain ⟨c0, c1, -, -⟩ := blk2 hpp
      clear ho g hb1
      go_wp2_with fail
      refine (l06Can_any n _ zs x w.heap.size _ g1 c0 c1).mono ?_
      rw [hi]
      rintro e w2 ⟨rfl, hb2⟩
      have hB2 := bnext (hB1 _) hb2
      go_wp2
      go_ret2
      exact ⟨ret2 (vi HV.out.symm) (vb HO.out.symm), hB2⟩
  · have hd : duOk n zs = false := by simpa using hd
    have HO := Lib.hid (show syOk n zs x = false by simp [syOk, hd])
    have HV := Lib.hid (show syV n zs x = 0 by simp [syV, HO.out])
    go_enter Try.func42, Try.ntmps42
    go_wp2_with fail
    refine (specDual_any n _ zs _ g).mono ?_
    rw [hd, apN_f]
    rintro e w1 ⟨v1, rfl, ho, hb1⟩
    obtain ⟨ao1, cap1, rfl⟩ := ho.shape
    have hp := blk_next hb1 (heap_alloc_new w _)
    have hlt0 := blk_lt hp
    have hB := bnext (hb _) hb1
    have hB1 : ∀ o, Below w.heap.size w (w1.alloc o) := fun o => hB.alloc hB.size o
    go_wp2
    go_ret2
    exact ⟨ret2 (vi HV.out.symm) (vb HO.out.symm), hB1 _⟩
end Go.Proofs.Ytecddfaleapggaa
