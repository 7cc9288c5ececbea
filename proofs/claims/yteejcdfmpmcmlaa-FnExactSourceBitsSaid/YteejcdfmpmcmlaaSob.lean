/- SourceBits: both packages. No conditions but that the slices read. -/
import Derived.Test.YteejcdfmpmcmlaaSobP
import Derived.Test.YteejcdfmpmcmlaaRsI
import Derived.Test.YteejcdfmpmcmlaaChnI
namespace Go.Proofs.Yteejcdfmpmcmlaa
open Go.RowKit
set_option maxRecDepth 100000
set_option linter.unusedVariables false
set_option linter.unusedSimpArgs false

set_option maxHeartbeats 400000 in
theorem bitsOf_any (x : Nat) (a : Rat) (h : Num .f32 x a) (h0 : 0 < a) (w : World) : Calls Try.prog 58 #[.float .f32 x] w fun e w' => e = .returned (.float .f32 (bitW x)) ∧ ∃ n, w' = w.drewN n := by
  have o1 := run_op (P := Try.prog) (bit_num h h0).1
  go_enter Try.func58, Try.ntmps58
  go_wp2_with (first | simp only [o1] | (go_at_call 63; refine (log_any x a h h0 _).mono ?_; rintro e w' ⟨rfl, n, rfl⟩))
  go_ret
  exact ⟨rfl, _, rfl⟩
set_option maxHeartbeats 400000 in
theorem l02Bits_any (x : Nat) (a : Rat) (h : Num .f32 x a) (h0 : 0 < a) (w : World) : Calls Try.prog 56 #[.float .f32 x] w fun e w' => e = .returned (.float .f32 (bitW x)) ∧ w = w' := by
  have o1 := run_op (P := Try.prog) (bit_num h h0).1
  go_enter Try.func56, Try.ntmps56
  go_wp2_with (first | simp only [o1] | (go_at_call 62; refine (l01Log_any x a h h0 _).mono ?_; rintro e w' ⟨rfl, rfl⟩))
  go_ret
  exact ⟨rfl, rfl⟩
theorem en_skip {xs : List Nat} {k : Nat} (h : zeroW (xs.getD k 0) = true) : enS xs (k + 1) = enS xs k := by rw [enS, h]; rfl
theorem en_take {xs : List Nat} {k : Nat} (h : zeroW (xs.getD k 0) = false) : enS xs (k + 1) = fadd .f32 (enS xs k) (xbW xs k) := by rw [enS, h]; rfl
theorem gt_zeroW {x : Nat} (h : Ch x) : (FloatKind.f32.format.order x 0 == some .gt) = !zeroW x := by
  obtain ⟨a, ha, a0, -⟩ := h
  rw [zero_numW ha, order_num ha (num_zero .f32)]
  rcases (show a = 0 ∨ 0 < a by grind) with h | h
  · rw [cmp_eq.2 h, decide_eq_true h]; rfl
  · rw [cmp_gt.2 h, decide_eq_false (by grind)]; rfl
set_option maxHeartbeats 1000000 in
theorem entropy_any (v : Value) (xs : List Nat) (n : Nat) (w : World) (h : Rg eF w v xs) (hl : xs.length = n) (hx : ∀ i, i < n → Ch (xs.getD i 0)) (hn : n ≤ 32) :
    Calls Try.prog 48 #[v] w fun e w' => e = .returned (.float .f32 (entW xs)) ∧ ∃ n, w' = w.drewN n := by
  have hlen := h.len
  have hR := Lib.hid h
  have Hl := Lib.hid hl
  have Hx := Lib.hid hx
  obtain ⟨ao, cap, rfl⟩ := h.shape
  have o9 := run_op (P := Try.prog) (ent_num hl hx hn).1
  clear h hl hx
  go_enter Try.func48, Try.ntmps48
  go_wp2
  go_loopw [3, 8] (fun s i wr => ∃ k : Nat, k ≤ xs.length ∧ i = .int .i64 k ∧ s = .float .f32 (enS xs k) ∧ ∃ q, wr = w.drewN q) (fun _ i _ => xs.length - (intOf i).toNat)
  case atStart => exact ⟨0, Nat.zero_le _, rfl, rfl, 0, rfl⟩
  case round =>
    obtain ⟨k, hk, rfl, rfl, q, rfl⟩ := hrel
    by_cases hlt : k < xs.length
    · obtain ⟨b, off, rfl, hc⟩ := getD_cell hR.out k hlt
      have hkn : k < n := by rw [← Hl.out]; exact hlt
      have hne : (FloatKind.f32.format.order (xs.getD k 0) 0 != some .eq) = !zeroW (xs.getD k 0) := rfl
      cases hz : zeroW (xs.getD k 0)
      · obtain ⟨a, ha, ap, g1, g2, -⟩ := xb_num (Hx.out k hkn) hz
        have g3 := en_add Hx.out k hkn hn hz
        have hst := en_take hz
        rw [hz] at hne
        have hb := bitsOf_any (xs.getD k 0) a ha ap
        have o1 := run_op (P := Try.prog) g2
        have o2 := run_op (P := Try.prog) g3
        have Hst := Lib.hid hst
        clear hst g1 g2 g3 hz ha ap
        generalize xs.getD k 0 = x at *
        generalize enS xs k = s at *
        go_wp2_with (first | simp only [o1, o2] | (go_at_call 58; refine (hb _).mono ?_; rintro e w' ⟨rfl, n', rfl⟩))
        go_roundw
        case rel => exact ⟨k + 1, by omega, by go_num, fl_eq Hst.out.symm, q + n', by simp⟩
        case measure => simp [intOf]; omega
      · have hst := en_skip hz
        rw [hz] at hne
        have Hst := Lib.hid hst
        clear hst hz
        generalize xs.getD k 0 = x at *
        go_wp2
        go_roundw
        case rel => exact ⟨k + 1, by omega, by go_num, fl_eq Hst.out.symm, q, rfl⟩
        case measure => simp [intOf]; omega
    · obtain rfl : k = xs.length := by omega
      go_wp2_with (simp only [o9])
      go_ret
      exact ⟨rfl, q, rfl⟩
set_option maxHeartbeats 1000000 in
theorem l02Entropy_any (v : Value) (xs : List Nat) (n : Nat) (w : World) (h : Rg eF w v xs) (hl : xs.length = n) (hx : ∀ i, i < n → Ch (xs.getD i 0)) (hn : n ≤ 32) :
    Calls Try.prog 46 #[v] w fun e w' => e = .returned (.float .f32 (entW xs)) ∧ ∃ n, w' = w.drewN n := by
  have hlen := h.len
  have hR := Lib.hid h
  have Hl := Lib.hid hl
  have Hx := Lib.hid hx
  obtain ⟨ao, cap, rfl⟩ := h.shape
  have o9 := run_op (P := Try.prog) (ent_num hl hx hn).1
  clear h hl hx
  go_enter Try.func46, Try.ntmps46
  go_wp2
  go_loopw [3, 4] (fun s i wr => ∃ k : Nat, k ≤ xs.length ∧ i = .int .i64 k ∧ s = .float .f32 (enS xs k) ∧ ∃ q, wr = w.drewN q) (fun _ i _ => xs.length - (intOf i).toNat)
  case atStart => exact ⟨0, Nat.zero_le _, rfl, rfl, 0, rfl⟩
  case round =>
    obtain ⟨k, hk, rfl, rfl, hq⟩ := hrel
    have hBq : Below w.heap.size w wr := by obtain ⟨q, rfl⟩ := hq; exact below_drewN _ _
    have Hq := Lib.hid hq
    clear hq
    by_cases hlt : k < xs.length
    · obtain ⟨b, off, rfl, hc⟩ := getD_cell (hR.out.below hBq) k hlt
      have hkn : k < n := by rw [← Hl.out]; exact hlt
      have hgt := gt_zeroW (Hx.out k hkn)
      cases hz : zeroW (xs.getD k 0)
      · obtain ⟨a, ha, ap, g1, g2, -⟩ := xb_num (Hx.out k hkn) hz
        have g3 := en_add Hx.out k hkn hn hz
        have hst := en_take hz
        rw [hz] at hgt
        have hb := l02Bits_any (xs.getD k 0) a ha ap
        have o1 := run_op (P := Try.prog) g2
        have o2 := run_op (P := Try.prog) g3
        have Hst := Lib.hid hst
        clear hst g1 hz ha ap
        generalize xs.getD k 0 = x at *
        generalize enS xs k = s at *
        go_wp2
        go_quiet ((go_at_call 56; exact Calls.quiet_of (qi (hb _))))
        go_wp2
        go_roundw
        case rel => exact ⟨k + 1, by omega, by go_num, fl_eq Hst.out.symm, by obtain ⟨q, e⟩ := Hq.out; exact ⟨q + nq, by rw [e]; simp⟩⟩
        case measure => simp [intOf]; omega
      · have hst := en_skip hz
        rw [hz] at hgt
        have Hst := Lib.hid hst
        clear hst hz
        generalize xs.getD k 0 = x at *
        go_wp2
        go_roundw
        case rel => exact ⟨k + 1, by omega, by go_num, fl_eq Hst.out.symm, Hq.out⟩
        case measure => simp [intOf]; omega
    · obtain rfl : k = xs.length := by omega
      go_wp2_with (simp only [o9])
      go_ret
      exact ⟨rfl, Hq.out⟩
set_option maxHeartbeats 1000000 in
theorem implSb_any (n m : Int) (v : Value) (xs : List Nat) (near : Nat) (most : Int) (w : World) (h : Rg eF w v xs) :
    Calls Try.prog 23 #[.agg #[.int .i64 n, .int .i64 m, v], .float .f32 near, .int .i64 most] w fun e w' => e = .returned (.tuple #[.float .f32 (sbV n m xs near most), .bool (rsOk n m xs near most)]) ∧ Below w.heap.size w w' := by
  have hb : ∀ o, Below w.heap.size w (w.alloc o) := fun o => by go_grown
  obtain ⟨ao, cap, rfl⟩ := h.shape
  have G := Lib.hid h
  have hrs := implRs_any n m _ xs near most (w.alloc (.cells #[.int .i64 n, .int .i64 m, .slice ao xs.length cap] 28)) (h.below (hb _))
  have hsb : sbV n m xs near most = match rsR n m xs near most with | some q => seS q.1 xs n.toNat n.toNat | none => 0 := rfl
  have hP : ChP (w.alloc (.cells #[.int .i64 n, .int .i64 m, .slice ao xs.length cap] 28)) w.heap.size n m (.slice ao xs.length cap) := ⟨by simp [go_sem], by simp [go_sem], by simp [go_sem]⟩
  have HP := Lib.hid hP
  clear h hP
  cases hr : rsR n m xs near most with
  | none =>
    rw [hr] at hsb
    obtain ⟨e1, e2, e3⟩ := rs_no hr
    rw [e1, e2, e3] at hrs
    have Hf := Lib.hid (And.intro hsb e1)
    clear hsb e1 e2 e3
    go_enter Try.func23, Try.ntmps23
    go_wp2_with fail
    refine hrs.mono ?_
    rintro e w1 ⟨v1, rfl, ho1, hb1⟩
    have hB1 := bnext (hb _) hb1
    go_wp2
    go_ret2
    exact ⟨ret2 (fl_eq Hf.out.1.symm) (vb Hf.out.2.symm), hB1⟩
  | some o =>
    obtain ⟨out, cnt⟩ := o
    rw [hr] at hsb
    obtain ⟨e1, e2, e3⟩ := rs_yes hr
    rw [e1, e2, e3] at hrs
    obtain ⟨a, rfl, rfl, hc, hrw, hl⟩ := rs_parts hr
    have Hf := Lib.hid (And.intro (show sbV a a xs near most = seS out xs a a from hsb) e1)
    have Hch := Lib.hid (row_ch hrw hl)
    have HC := Lib.hid hc
    have Hl := Lib.hid hl
    have a8 := hc.n8
    have a1' := hc.n1
    obtain ⟨bb, ob, rfl, -, cp1, cp2, -⟩ := G.out.sub 0 1 (by decide) (by rw [hc.len]; have := Nat.mul_pos hc.n1 hc.m1; omega)
    clear hsb e1 e2 e3 hc hrw hl
    go_enter Try.func23, Try.ntmps23
    go_wp2_with fail
    refine hrs.mono ?_
    rintro e w1 ⟨v1, rfl, ho1, hb1⟩
    have hB1 := bnext (hb _) hb1
    have hP1 := HP.out.below hb1
    have hO1 := ho1.rg
    obtain ⟨ao1, cap1, rfl⟩ := hO1.shape
    have hlo : out.length ≤ 9223372036854775807 := by rw [Hl.out]; omega
    clear ho1
    go_wp2
    go_loopw [11, 26] (fun s iv wr => ∃ i : Nat, iv = .int .i64 i ∧ i ≤ a ∧ s = .float .f32 (seS out xs a i) ∧ Rg eF wr (.slice ao1 out.length cap1) out ∧ ChP wr w.heap.size a a (.slice (some ⟨bb, ob, none⟩) xs.length cap) ∧ Below w.heap.size w wr) (fun _ iv _ => a - (intOf iv).toNat)
    case atStart => exact ⟨0, rfl, Nat.zero_le _, rfl, hO1, hP1, hB1⟩
    case round =>
      clear hO1 hP1 hB1
      obtain ⟨i, rfl, hi, rfl, hO, hP, hB⟩ := hrel
      obtain ⟨p0, p1, p2⟩ := hP
      have HP9 := Lib.hid (show ChP wr w.heap.size a a (.slice (some ⟨bb, ob, none⟩) xs.length cap) from ⟨p0, p1, p2⟩)
      have HO := Lib.hid hO
      have HB := Lib.hid hB
      by_cases hia : i < a
      · obtain ⟨b1, of1, rfl, c1⟩ := getD_cell hO i (by rw [Hl.out]; exact hia)
        have hio : i < out.length := by rw [Hl.out]; exact hia
        have hcall := implRow_at a a i bb ob xs.length cap wr a8 a8 a1' HC.out.len hia cp1 cp2
        obtain ⟨g1, -⟩ := se_num Hch.out HC.out i hia
        have g2 := se_add Hch.out HC.out i hia
        have o1 := run_op (P := Try.prog) g1
        have o2 := run_op (P := Try.prog) g2
        have hRr := Lib.hid (Rg.rowm (G.out.below HB.out) HC.out.len a8 a8 a1' hia)
        have hrl := Lib.hid (rowL_len HC.out.len hia)
        have hrx := Lib.hid (row_getD HC.out hia)
        have hst : seS out xs a (i + 1) = seS out xs a (i + 1) := rfl
        clear g1 g2 hO hB
        generalize hs1 : seS out xs a (i + 1) = s1 at *
        generalize seW out xs a i = t at *
        generalize out.getD i 0 = x at *
        generalize seS out xs a i = s at *
        go_wp2_with fail
        refine hcall.mono ?_
        rintro e w4 ⟨rfl, hb4⟩
        go_wp2_with fail
        refine (entropy_any _ (rowL xs a i) a _ (hRr.out.below hb4) hrl.out hrx.out (by omega)).mono ?_
        rintro e w5 ⟨rfl, k5, hw5⟩
        have hb5 := bnext hb4 (drew_below hw5)
        have HF := Lib.hid (And.intro (HO.out.below hb5) (And.intro (HP9.out.below hb5) (bnext HB.out hb5)))
        clear hw5
        go_wp2_with (simp only [o1, o2])
        go_roundw
        case rel => exact ⟨i + 1, by go_num, by omega, fl_eq hs1.symm, HF.out.1, HF.out.2.1, HF.out.2.2⟩
        case measure => simp [intOf]; omega
      · have hi0 : i = a := by omega
        have hio : ¬ i < out.length := by rw [Hl.out]; exact hia
        obtain ⟨q, hq, -⟩ := (se_acc Hch.out HC.out a (Nat.le_refl _)).bd 3 a8
        have hf := fin_num hq
        have hnb : nbV (seS out xs a a) = seS out xs a a := by unfold nbV; rw [hf]; rfl
        rw [hi0] at *
        clear hi0
        generalize hS : seS out xs a a = S at *
        go_wp2_with (go_at_call 49; refine (asNumber_any _ _).mono ?_; rw [hf, hnb]; rintro e w' ⟨rfl, n', rfl⟩)
        go_ret2
        exact ⟨ret2 (fl_eq Hf.out.1.symm) (vb Hf.out.2.symm), bnext HB.out (below_drewN _ _)⟩
set_option maxHeartbeats 1000000 in
theorem specSb_any (n m : Int) (v : Value) (xs : List Nat) (near : Nat) (most : Int) (w : World) (h : Rg eF w v xs) :
    Calls Try.prog 22 #[.agg #[.int .i64 n, .int .i64 m, v], .float .f32 near, .int .i64 most] w fun e w' => e = .returned (.tuple #[.float .f32 (sbV n m xs near most), .bool (rsOk n m xs near most)]) ∧ Below w.heap.size w w' := by
  have hb : ∀ o, Below w.heap.size w (w.alloc o) := fun o => by go_grown
  obtain ⟨ao, cap, rfl⟩ := h.shape
  have G := Lib.hid h
  have hrs := specRs_any n m _ xs near most (w.alloc (.cells #[.int .i64 n, .int .i64 m, .slice ao xs.length cap] 28)) (h.below (hb _))
  have hsb : sbV n m xs near most = match rsR n m xs near most with | some q => seS q.1 xs n.toNat n.toNat | none => 0 := rfl
  have hP : ChP (w.alloc (.cells #[.int .i64 n, .int .i64 m, .slice ao xs.length cap] 28)) w.heap.size n m (.slice ao xs.length cap) := ⟨by simp [go_sem], by simp [go_sem], by simp [go_sem]⟩
  have HP := Lib.hid hP
  clear h hP
  cases hr : rsR n m xs near most with
  | none =>
    rw [hr] at hsb
    obtain ⟨e1, e2, e3⟩ := rs_no hr
    rw [e1, e2, e3] at hrs
    have Hf := Lib.hid (And.intro hsb e1)
    clear hsb e1 e2 e3
    go_enter Try.func22, Try.ntmps22
    go_wp2_with fail
    refine hrs.mono ?_
    rintro e w1 ⟨v1, rfl, ho1, hb1⟩
    have hB1 := bnext (hb _) hb1
    go_wp2
    go_ret2
    exact ⟨ret2 (fl_eq Hf.out.1.symm) (vb Hf.out.2.symm), hB1⟩
  | some o =>
    obtain ⟨out, cnt⟩ := o
    rw [hr] at hsb
    obtain ⟨e1, e2, e3⟩ := rs_yes hr
    rw [e1, e2, e3] at hrs
    obtain ⟨a, rfl, rfl, hc, hrw, hl⟩ := rs_parts hr
    have Hf := Lib.hid (And.intro (show sbV a a xs near most = seS out xs a a from hsb) e1)
    have Hch := Lib.hid (row_ch hrw hl)
    have HC := Lib.hid hc
    have Hl := Lib.hid hl
    have a8 := hc.n8
    have a1' := hc.n1
    obtain ⟨bb, ob, rfl, -, cp1, cp2, -⟩ := G.out.sub 0 1 (by decide) (by rw [hc.len]; have := Nat.mul_pos hc.n1 hc.m1; omega)
    clear hsb e1 e2 e3 hc hrw hl
    go_enter Try.func22, Try.ntmps22
    go_wp2_with fail
    refine hrs.mono ?_
    rintro e w1 ⟨v1, rfl, ho1, hb1⟩
    have hB1 := bnext (hb _) hb1
    have hP1 := HP.out.below hb1
    have hO1 := ho1.rg
    obtain ⟨ao1, cap1, rfl⟩ := hO1.shape
    have hlo : out.length ≤ 9223372036854775807 := by rw [Hl.out]; omega
    clear ho1
    go_wp2
    go_loopw [11, 25] (fun s iv wr => ∃ i : Nat, iv = .int .i64 i ∧ i ≤ a ∧ s = .float .f32 (seS out xs a i) ∧ Rg eF wr (.slice ao1 out.length cap1) out ∧ ChP wr w.heap.size a a (.slice (some ⟨bb, ob, none⟩) xs.length cap) ∧ Below w.heap.size w wr) (fun _ iv _ => a - (intOf iv).toNat)
    case atStart => exact ⟨0, rfl, Nat.zero_le _, rfl, hO1, hP1, hB1⟩
    case round =>
      clear hO1 hP1 hB1
      obtain ⟨i, rfl, hi, rfl, hO, hP, hB⟩ := hrel
      have HP9 := Lib.hid hP
      have HO := Lib.hid hO
      have HB := Lib.hid hB
      by_cases hia : i < a
      · obtain ⟨b1, of1, rfl, c1⟩ := getD_cell hO i (by rw [Hl.out]; exact hia)
        have hio : i < out.length := by rw [Hl.out]; exact hia
        have hcall := Lib.hid (fun q => l03Row_at w.heap.size a a i bb ob xs.length cap (wr.drewN q) (HP9.out.below (below_drewN wr q)) a8 a8 a1' HC.out.len hia cp1 cp2)
        obtain ⟨g1, -⟩ := se_num Hch.out HC.out i hia
        have g2 := se_add Hch.out HC.out i hia
        have o1 := run_op (P := Try.prog) g1
        have o2 := run_op (P := Try.prog) g2
        have hRr := Lib.hid (Rg.row (G.out.below HB.out) HC.out.len a8 a8 a1' hia)
        have hrl := Lib.hid (rowL_len HC.out.len hia)
        have hrx := Lib.hid (row_getD HC.out hia)
        have hen := Lib.hid (fun q => l02Entropy_any _ (rowL xs a i) a (wr.drewN q) (hRr.out.below (below_drewN wr q)) hrl.out hrx.out (by omega))
        clear g1 hO hB hP
        generalize hs1 : seS out xs a (i + 1) = s1 at *
        generalize seW out xs a i = t at *
        generalize entW (rowL xs a i) = en at *
        generalize out.getD i 0 = x at *
        generalize seS out xs a i = s at *
        go_wp2
        go_quiet ((first | (go_at_call 33; exact Calls.quiet_of (hcall.out _)) | (go_at_call 46; exact Calls.quiet_of (hen.out _))))
        have HF := Lib.hid (And.intro (HO.out.below (below_drewN wr nq)) (And.intro (HP9.out.below (below_drewN wr nq)) (bnext HB.out (below_drewN wr nq))))
        go_wp2
        go_roundw
        case rel => exact ⟨i + 1, by go_num, by omega, fl_eq hs1.symm, HF.out.1, HF.out.2.1, HF.out.2.2⟩
        case measure => simp [intOf]; omega
      · have hi0 : i = a := by omega
        have hio : ¬ i < out.length := by rw [Hl.out]; exact hia
        obtain ⟨q, hq, -⟩ := (se_acc Hch.out HC.out a (Nat.le_refl _)).bd 3 a8
        have hf := fin_num hq
        have hnb : nbV (seS out xs a a) = seS out xs a a := by unfold nbV; rw [hf]; rfl
        rw [hi0] at *
        clear hi0
        generalize hS : seS out xs a a = S at *
        go_wp2_with (go_at_call 47; refine (number_any _ _).mono ?_; rw [hf, hnb]; rintro e w' ⟨rfl, n', rfl⟩)
        go_ret2
        exact ⟨ret2 (fl_eq Hf.out.1.symm) (vb Hf.out.2.symm), bnext HB.out (below_drewN _ _)⟩
end Go.Proofs.Yteejcdfmpmcmlaa
