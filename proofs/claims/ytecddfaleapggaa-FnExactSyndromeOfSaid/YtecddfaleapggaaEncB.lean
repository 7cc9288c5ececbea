/- EncodeBits, InCode, DecodeBits: what both packages return. No conditions but that the slices read. -/
import Derived.Test.YtecddfaleapggaaEnc
namespace Go.Proofs.Ytecddfaleapggaa
open Go.RowKit
set_option maxRecDepth 100000
set_option linter.unusedVariables false
set_option linter.unusedSimpArgs false

def enOk (n : Int) (zs : List Int) (m : Int) : Bool := prv n zs && isW m zs.length
def enV (n : Int) (zs : List Int) (m : Int) : Int := if enOk n zs m = true then ((enc (toN zs) m.toNat : Nat) : Int) else 0
theorem nn_of {zs : List Int} (h : zs = ofN (toN zs)) : ∀ z ∈ zs, 0 ≤ z := by rw [h]; intro z hz; obtain ⟨y, _, rfl⟩ := List.mem_map.1 hz; omega
def inOk (n : Int) (zs : List Int) (x : Int) : Bool := prv n zs && isW x n
def inV (n : Int) (zs : List Int) (x : Int) : Bool := if inOk n zs x = true then (dec (toN zs) x.toNat).isSome else false
def deOk (n : Int) (zs : List Int) (x : Int) : Bool := inOk n zs x && (dec (toN zs) x.toNat).isSome
def deV (n : Int) (zs : List Int) (x : Int) : Int := if inOk n zs x = true then (((dec (toN zs) x.toNat).getD 0 : Nat) : Int) else 0
set_option maxHeartbeats 1000000 in
theorem implEnc_any (n : Int) (v : Value) (zs : List Int) (m : Int) (w : World) (h : RI w v zs) :
    Calls Try.prog 25 #[.agg #[.int .i64 n, v], .int .i64 m] w fun e w' => e = .returned (.tuple #[.int .i64 (enV n zs m), .bool (enOk n zs m)]) ∧ Below w.heap.size w w' := by
  obtain ⟨ao, cap, rfl⟩ := h.shape
  have hb : ∀ o, Below w.heap.size w (w.alloc o) := fun o => by go_grown
  have g := h.below (hb (.cells #[.int .i64 n, .slice ao zs.length cap] 27))
  by_cases hc : prv n zs = true
  · obtain ⟨k, rfl, hk1, hk16, hl1, hl8, hzs, hlt, -⟩ := prv_parts hc
    have Ht := Lib.hid (toN_len zs)
    obtain ⟨hp1, hp2⟩ := pow8' zs.length hl8
    by_cases hm : inB m 0 (2 ^ zs.length - 1) = true
    · have hw : isW m zs.length = true := by simpa [isW] using hm
      have HO := Lib.hid (show enOk k zs m = true by simp [enOk, hc, hw])
      have HV := Lib.hid (show enV k zs m = (enc (toN zs) m.toNat : Nat) by simp [enV, HO.out])
      obtain ⟨x, rfl, hx1, hx2⟩ := isW_nat (by omega) hw
      have gN := h.2.toN (nn_of hzs)
      have Hlt := Lib.hid hlt
      clear hzs hlt hx1
      go_enter Try.func25, Try.ntmps25
      go_wp2_with fail
      refine (implParity_any _ _ zs _ g).mono ?_
      rw [hc]
      rintro e w1 ⟨rfl, hb1⟩
      obtain ⟨r0, r1, q0, q1⟩ := blk2 (blk_next hb1 (heap_alloc_new w _))
      have hB := bnext (hb _) hb1
      go_wp2_with fail
      refine (messages_any _ _ _ _ (by omega) _).mono ?_
      rintro e w2 ⟨rfl, hb2⟩
      have r0 := cnext hb2 r0
      have r1 := cnext hb2 r1
      have hB2 := bnext hB hb2
      go_wp2_with (first | (go_at_call 47; refine (within_any _ _ _ _).mono ?_; rw [hm]; rintro e w' ⟨rfl, rfl⟩) | (go_at_call 59; refine (encode_any _ _ (toN zs) k hk16 x hx2 _ (gN.below hB2) (by rw [Ht.out]; omega) Hlt.out).mono ?_; rintro e w3 ⟨rfl, hb3⟩))
      go_ret2
      exact ⟨ret2 (vi (by rw [HV.out, Int.toNat_natCast])) (vb HO.out.symm), bnext hB2 hb3⟩
    · have hm : inB m 0 (2 ^ zs.length - 1) = false := by simpa using hm
      have hw : isW m zs.length = false := by simpa [isW] using hm
      have HO := Lib.hid (show enOk k zs m = false by simp [enOk, hw])
      have HV := Lib.hid (show enV k zs m = 0 by simp [enV, HO.out])
      clear hzs hlt
      go_enter Try.func25, Try.ntmps25
      go_wp2_with fail
      refine (implParity_any _ _ zs _ g).mono ?_
      rw [hc]
      rintro e w1 ⟨rfl, hb1⟩
      obtain ⟨r0, r1, q0, q1⟩ := blk2 (blk_next hb1 (heap_alloc_new w _))
      have hB := bnext (hb _) hb1
      go_wp2_with fail
      refine (messages_any _ _ _ _ (by omega) _).mono ?_
      rintro e w2 ⟨rfl, hb2⟩
      have hB2 := bnext hB hb2
      go_wp2_with (go_at_call 47; refine (within_any _ _ _ _).mono ?_; rw [hm]; rintro e w' ⟨rfl, rfl⟩)
      go_ret2
      exact ⟨ret2 (vi HV.out.symm) (vb HO.out.symm), hB2⟩
  · have hc : prv n zs = false := by simpa using hc
    have HO := Lib.hid (show enOk n zs m = false by simp [enOk, hc])
    have HV := Lib.hid (show enV n zs m = 0 by simp [enV, HO.out])
    go_enter Try.func25, Try.ntmps25
    go_wp2_with fail
    refine (implParity_any _ _ zs _ g).mono ?_
    rw [hc]
    rintro e w1 ⟨rfl, hb1⟩
    go_wp2
    go_ret2
    exact ⟨ret2 (vi HV.out.symm) (vb HO.out.symm), bnext (hb _) hb1⟩
set_option maxHeartbeats 1000000 in
theorem specEnc_any (n : Int) (v : Value) (zs : List Int) (m : Int) (w : World) (h : RI w v zs) :
    Calls Try.prog 24 #[.agg #[.int .i64 n, v], .int .i64 m] w fun e w' => e = .returned (.tuple #[.int .i64 (enV n zs m), .bool (enOk n zs m)]) ∧ Below w.heap.size w w' := by
  obtain ⟨ao, cap, rfl⟩ := h.shape
  have hb : ∀ o, Below w.heap.size w (w.alloc o) := fun o => by go_grown
  have g := h.below (hb (.cells #[.int .i64 n, .slice ao zs.length cap] 27))
  by_cases hc : prv n zs = true
  · obtain ⟨k, rfl, hk1, hk16, hl1, hl8, hzs, hlt, -⟩ := prv_parts hc
    have Ht := Lib.hid (toN_len zs)
    by_cases hw : isW m zs.length = true
    · have HO := Lib.hid (show enOk k zs m = true by simp [enOk, hc, hw])
      have HV := Lib.hid (show enV k zs m = (enc (toN zs) m.toNat : Nat) by simp [enV, HO.out])
      obtain ⟨x, rfl, hx1, hx2⟩ := isW_nat (by omega) hw
      have gN := h.2.toN (nn_of hzs)
      have Hlt := Lib.hid hlt
      clear hzs hlt hx1
      go_enter Try.func24, Try.ntmps24
      go_wp2_with fail
      refine (l06Is_any k _ zs w.heap.size _ g (by simp [go_sem]) (by simp [go_sem])).mono ?_
      rw [hc]
      rintro e w1 ⟨rfl, hb1⟩
      obtain ⟨r0, r1, q0, q1⟩ := blk2 (blk_next hb1 (heap_alloc_new w _))
      have hB := bnext (hb _) hb1
      go_wp2_with (first | (go_at_call 56; refine (l06Word_any _ _ (by omega) (by omega) _).mono ?_; rw [hw]; rintro e w' ⟨rfl, rfl⟩) | (go_at_call 57; refine (l06Encode_any _ (toN zs) k hk16 x w.heap.size hx2 _ (gN.below hB) (by rw [Ht.out]; omega) Hlt.out r1).mono ?_; rintro e w' ⟨rfl, rfl⟩))
      go_ret2
      exact ⟨ret2 (vi (by rw [HV.out, Int.toNat_natCast])) (vb HO.out.symm), hB⟩
    · have hw : isW m zs.length = false := by simpa using hw
      have HO := Lib.hid (show enOk k zs m = false by simp [enOk, hw])
      have HV := Lib.hid (show enV k zs m = 0 by simp [enV, HO.out])
      clear hzs hlt
      go_enter Try.func24, Try.ntmps24
      go_wp2_with fail
      refine (l06Is_any k _ zs w.heap.size _ g (by simp [go_sem]) (by simp [go_sem])).mono ?_
      rw [hc]
      rintro e w1 ⟨rfl, hb1⟩
      obtain ⟨r0, r1, q0, q1⟩ := blk2 (blk_next hb1 (heap_alloc_new w _))
      have hB := bnext (hb _) hb1
      go_wp2_with (go_at_call 56; refine (l06Word_any _ _ (by omega) (by omega) _).mono ?_; rw [hw]; rintro e w' ⟨rfl, rfl⟩)
      go_ret2
      exact ⟨ret2 (vi HV.out.symm) (vb HO.out.symm), hB⟩
  · have hc : prv n zs = false := by simpa using hc
    have HO := Lib.hid (show enOk n zs m = false by simp [enOk, hc])
    have HV := Lib.hid (show enV n zs m = 0 by simp [enV, HO.out])
    go_enter Try.func24, Try.ntmps24
    go_wp2_with fail
    refine (l06Is_any n _ zs w.heap.size _ g (by simp [go_sem]) (by simp [go_sem])).mono ?_
    rw [hc]
    rintro e w1 ⟨rfl, hb1⟩
    go_wp2
    go_ret2
    exact ⟨ret2 (vi HV.out.symm) (vb HO.out.symm), bnext (hb _) hb1⟩
set_option maxHeartbeats 1000000 in
theorem has_any (n : Int) (v : Value) (zs : List Int) (x : Int) (w : World) (h : RI w v zs) :
    Calls Try.prog 64 #[.agg #[.int .i64 n, v], .int .i64 x] w fun e w' => e = .returned (.bool (inOk n zs x)) ∧ Below w.heap.size w w' := by
  obtain ⟨ao, cap, rfl⟩ := h.shape
  have hb : ∀ o, Below w.heap.size w (w.alloc o) := fun o => by go_grown
  have g := h.below (hb (.cells #[.int .i64 n, .slice ao zs.length cap] 27))
  by_cases hc : prv n zs = true
  · have HO := Lib.hid (show inOk n zs x = isW x n by simp [inOk, hc])
    have hn : 0 ≤ n ∧ n ≤ 16 := by obtain ⟨k, rfl, hk1, hk16, _⟩ := prv_parts hc; omega
    obtain ⟨hn0, hn16⟩ := hn
    go_enter Try.func64, Try.ntmps64
    go_wp2_with fail
    refine (implParity_any _ _ zs _ g).mono ?_
    rw [hc]
    rintro e w1 ⟨rfl, hb1⟩
    obtain ⟨r0, r1, q0, q1⟩ := blk2 (blk_next hb1 (heap_alloc_new w _))
    have hB := bnext (hb _) hb1
    go_wp2_with (go_at_call 60; refine (isWordOf_any _ _ hn0 hn16 _).mono ?_; rintro e w' ⟨rfl, rfl⟩)
    go_ret
    exact ⟨ret_bool HO.out.symm, hB⟩
  · have hc : prv n zs = false := by simpa using hc
    have HO := Lib.hid (show inOk n zs x = false by simp [inOk, hc])
    go_enter Try.func64, Try.ntmps64
    go_wp2_with fail
    refine (implParity_any _ _ zs _ g).mono ?_
    rw [hc]
    rintro e w1 ⟨rfl, hb1⟩
    go_wp2
    go_ret
    exact ⟨ret_bool HO.out.symm, bnext (hb _) hb1⟩
set_option maxHeartbeats 1000000 in
theorem l06Can_any (n : Int) (v : Value) (zs : List Int) (x : Int) (B : Nat) (w : World) (h : RI w v zs)
    (c0 : w.cell? ⟨B, 0, none⟩ = some (.int .i64 n)) (c1 : w.cell? ⟨B, 1, none⟩ = some v) :
    Calls Try.prog 62 #[.pointer (some ⟨B, 0, none⟩), .int .i64 x] w fun e w' => e = .returned (.bool (inOk n zs x)) ∧ Below w.heap.size w w' := by
  by_cases hc : prv n zs = true
  · have HO := Lib.hid (show inOk n zs x = isW x n by simp [inOk, hc])
    have hn : 0 ≤ n ∧ n ≤ 16 := by obtain ⟨k, rfl, hk1, hk16, _⟩ := prv_parts hc; omega
    obtain ⟨hn0, hn16⟩ := hn
    go_enter Try.func62, Try.ntmps62
    go_wp2_with fail
    refine (l06Is_any n _ zs B _ h c0 c1).mono ?_
    rw [hc]
    rintro e w1 ⟨rfl, hb1⟩
    have r0 := cnext hb1 c0
    go_wp2_with (go_at_call 56; refine (l06Word_any _ _ hn0 hn16 _).mono ?_; rintro e w' ⟨rfl, rfl⟩)
    go_ret
    exact ⟨ret_bool HO.out.symm, hb1⟩
  · have hc : prv n zs = false := by simpa using hc
    have HO := Lib.hid (show inOk n zs x = false by simp [inOk, hc])
    go_enter Try.func62, Try.ntmps62
    go_wp2_with fail
    refine (l06Is_any n _ zs B _ h c0 c1).mono ?_
    rw [hc]
    rintro e w1 ⟨rfl, hb1⟩
    go_wp2
    go_ret
    exact ⟨ret_bool HO.out.symm, hb1⟩
set_option maxHeartbeats 1000000 in
theorem implIn_any (n : Int) (v : Value) (zs : List Int) (x : Int) (w : World) (h : RI w v zs) :
    Calls Try.prog 31 #[.agg #[.int .i64 n, v], .int .i64 x] w fun e w' => e = .returned (.tuple #[.bool (inV n zs x), .bool (inOk n zs x)]) ∧ Below w.heap.size w w' := by
  obtain ⟨ao, cap, rfl⟩ := h.shape
  have hb : ∀ o, Below w.heap.size w (w.alloc o) := fun o => by go_grown
  have g := h.below (hb (.cells #[.int .i64 n, .slice ao zs.length cap] 27))
  by_cases hc : inOk n zs x = true
  · have hc' := hc
    simp only [inOk, Bool.and_eq_true] at hc'
    obtain ⟨hp, hw⟩ := hc'
    obtain ⟨k, rfl, hk1, hk16, hl1, hl8, hzs, hlt, -⟩ := prv_parts hp
    have Ht := Lib.hid (toN_len zs)
    have HV := Lib.hid (show inV k zs x = (dec (toN zs) x.toNat).isSome by simp [inV, hc])
    have HO := Lib.hid hc
    obtain ⟨y, rfl, hx1, hx2⟩ := isW_nat (by omega) hw
    have gN := h.2.toN (nn_of hzs)
    have Hlt := Lib.hid hlt
    clear hzs hlt hx1 hp hw
    go_enter Try.func31, Try.ntmps31
    go_wp2_with fail
    refine (has_any _ _ zs _ _ g).mono ?_
    rw [hc]
    rintro e w1 ⟨rfl, hb1⟩
    obtain ⟨r0, r1, q0, q1⟩ := blk2 (blk_next hb1 (heap_alloc_new w _))
    have hB := bnext (hb _) hb1
    clear hc
    go_wp2_with (go_at_call 65; refine (decode_any _ _ (toN zs) k hk16 y _ (gN.below hB) (by rw [Ht.out]; omega) Hlt.out).mono ?_; rintro e w3 ⟨rfl, hb3⟩)
    go_ret2
    exact ⟨ret2 (vb (by rw [HV.out, Int.toNat_natCast])) (vb HO.out.symm), bnext hB hb3⟩
  · have hc : inOk n zs x = false := by simpa using hc
    have HV := Lib.hid (show inV n zs x = false by simp [inV, hc])
    have HO := Lib.hid hc
    go_enter Try.func31, Try.ntmps31
    go_wp2_with fail
    refine (has_any _ _ zs _ _ g).mono ?_
    rw [hc]
    rintro e w1 ⟨rfl, hb1⟩
    clear hc
    go_wp2
    go_ret2
    exact ⟨ret2 (vb HV.out.symm) (vb HO.out.symm), bnext (hb _) hb1⟩
set_option maxHeartbeats 1000000 in
theorem specIn_any (n : Int) (v : Value) (zs : List Int) (x : Int) (w : World) (h : RI w v zs) :
    Calls Try.prog 30 #[.agg #[.int .i64 n, v], .int .i64 x] w fun e w' => e = .returned (.tuple #[.bool (inV n zs x), .bool (inOk n zs x)]) ∧ Below w.heap.size w w' := by
  obtain ⟨ao, cap, rfl⟩ := h.shape
  have hb : ∀ o, Below w.heap.size w (w.alloc o) := fun o => by go_grown
  have g := h.below (hb (.cells #[.int .i64 n, .slice ao zs.length cap] 27))
  by_cases hc : inOk n zs x = true
  · have hc' := hc
    simp only [inOk, Bool.and_eq_true] at hc'
    obtain ⟨hp, hw⟩ := hc'
    obtain ⟨k, rfl, hk1, hk16, hl1, hl8, hzs, hlt, -⟩ := prv_parts hp
    have Ht := Lib.hid (toN_len zs)
    have HV := Lib.hid (show inV k zs x = (dec (toN zs) x.toNat).isSome by simp [inV, hc])
    have HO := Lib.hid hc
    obtain ⟨y, rfl, hx1, hx2⟩ := isW_nat (by omega) hw
    have gN := h.2.toN (nn_of hzs)
    have Hlt := Lib.hid hlt
    clear hzs hlt hx1 hp hw
    go_enter Try.func30, Try.ntmps30
    go_wp2_with fail
    refine (l06Can_any k _ zs _ w.heap.size _ g (by simp [go_sem]) (by simp [go_sem])).mono ?_
    rw [hc]
    rintro e w1 ⟨rfl, hb1⟩
    obtain ⟨r0, r1, q0, q1⟩ := blk2 (blk_next hb1 (heap_alloc_new w _))
    have hB := bnext (hb _) hb1
    clear hc
    rw [Int.toNat_natCast] at HV
    cases hd : dec (toN zs) y with
    | none =>
      have Hd := Lib.hid hd
      clear hd
      go_wp2_with (go_at_call 63; refine (l06Message_any _ (toN zs) k hk16 y w.heap.size _ (gN.below hB) (by rw [Ht.out]; omega) Hlt.out r1).mono ?_; rw [Hd.out]; rintro e w3 ⟨rfl, rfl⟩; simp only [decI])
      go_ret2
      exact ⟨ret2 (vb (by rw [HV.out, Hd.out]; rfl)) (vb HO.out.symm), hB⟩
    | some q =>
      have Hd := Lib.hid hd
      clear hd
      go_wp2_with (go_at_call 63; refine (l06Message_any _ (toN zs) k hk16 y w.heap.size _ (gN.below hB) (by rw [Ht.out]; omega) Hlt.out r1).mono ?_; rw [Hd.out]; rintro e w3 ⟨rfl, rfl⟩; simp only [decI])
      go_ret2
      exact ⟨ret2 (vb (by rw [HV.out, Hd.out]; simp)) (vb HO.out.symm), hB⟩
  · have hc : inOk n zs x = false := by simpa using hc
    have HV := Lib.hid (show inV n zs x = false by simp [inV, hc])
    have HO := Lib.hid hc
    go_enter Try.func30, Try.ntmps30
    go_wp2_with fail
    refine (l06Can_any n _ zs _ w.heap.size _ g (by simp [go_sem]) (by simp [go_sem])).mono ?_
    rw [hc]
    rintro e w1 ⟨rfl, hb1⟩
    clear hc
    go_wp2
    go_ret2
    exact ⟨ret2 (vb HV.out.symm) (vb HO.out.symm), bnext (hb _) hb1⟩
set_option maxHeartbeats 1000000 in
theorem implDec_any (n : Int) (v : Value) (zs : List Int) (x : Int) (w : World) (h : RI w v zs) :
    Calls Try.prog 33 #[.agg #[.int .i64 n, v], .int .i64 x] w fun e w' => e = .returned (.tuple #[.int .i64 (deV n zs x), .bool (deOk n zs x)]) ∧ Below w.heap.size w w' := by
  obtain ⟨ao, cap, rfl⟩ := h.shape
  have hb : ∀ o, Below w.heap.size w (w.alloc o) := fun o => by go_grown
  have g := h.below (hb (.cells #[.int .i64 n, .slice ao zs.length cap] 27))
  by_cases hc : inOk n zs x = true
  · have hc' := hc
    simp only [inOk, Bool.and_eq_true] at hc'
    obtain ⟨hp, hw⟩ := hc'
    obtain ⟨k, rfl, hk1, hk16, hl1, hl8, hzs, hlt, -⟩ := prv_parts hp
    have Ht := Lib.hid (toN_len zs)
    have HV := Lib.hid (show deV k zs x = ((dec (toN zs) x.toNat).getD 0 : Nat) by simp [deV, hc])
    have HO := Lib.hid (show deOk k zs x = (dec (toN zs) x.toNat).isSome by simp [deOk, hc])
    obtain ⟨y, rfl, hx1, hx2⟩ := isW_nat (by omega) hw
    have gN := h.2.toN (nn_of hzs)
    have Hlt := Lib.hid hlt
    clear hzs hlt hx1 hp hw
    go_enter Try.func33, Try.ntmps33
    go_wp2_with fail
    refine (has_any _ _ zs _ _ g).mono ?_
    rw [hc]
    rintro e w1 ⟨rfl, hb1⟩
    obtain ⟨r0, r1, q0, q1⟩ := blk2 (blk_next hb1 (heap_alloc_new w _))
    have hB := bnext (hb _) hb1
    clear hc
    go_wp2_with (go_at_call 65; refine (decode_any _ _ (toN zs) k hk16 y _ (gN.below hB) (by rw [Ht.out]; omega) Hlt.out).mono ?_; rintro e w3 ⟨rfl, hb3⟩)
    go_ret2
    exact ⟨ret2 (vi (by rw [HV.out, Int.toNat_natCast])) (vb (by rw [HO.out, Int.toNat_natCast])), bnext hB hb3⟩
  · have hc : inOk n zs x = false := by simpa using hc
    have HV := Lib.hid (show deV n zs x = 0 by simp [deV, hc])
    have HO := Lib.hid (show deOk n zs x = false by simp [deOk, hc])
    go_enter Try.func33, Try.ntmps33
    go_wp2_with fail
    refine (has_any _ _ zs _ _ g).mono ?_
    rw [hc]
    rintro e w1 ⟨rfl, hb1⟩
    clear hc
    go_wp2
    go_ret2
    exact ⟨ret2 (vi HV.out.symm) (vb HO.out.symm), bnext (hb _) hb1⟩
set_option maxHeartbeats 1000000 in
theorem specDec_any (n : Int) (v : Value) (zs : List Int) (x : Int) (w : World) (h : RI w v zs) :
    Calls Try.prog 32 #[.agg #[.int .i64 n, v], .int .i64 x] w fun e w' => e = .returned (.tuple #[.int .i64 (deV n zs x), .bool (deOk n zs x)]) ∧ Below w.heap.size w w' := by
  obtain ⟨ao, cap, rfl⟩ := h.shape
  have hb : ∀ o, Below w.heap.size w (w.alloc o) := fun o => by go_grown
  have g := h.below (hb (.cells #[.int .i64 n, .slice ao zs.length cap] 27))
  by_cases hc : inOk n zs x = true
  · have hc' := hc
    simp only [inOk, Bool.and_eq_true] at hc'
    obtain ⟨hp, hw⟩ := hc'
    obtain ⟨k, rfl, hk1, hk16, hl1, hl8, hzs, hlt, -⟩ := prv_parts hp
    have Ht := Lib.hid (toN_len zs)
    have HV := Lib.hid (show deV k zs x = ((dec (toN zs) x.toNat).getD 0 : Nat) by simp [deV, hc])
    have HO := Lib.hid (show deOk k zs x = (dec (toN zs) x.toNat).isSome by simp [deOk, hc])
    obtain ⟨y, rfl, hx1, hx2⟩ := isW_nat (by omega) hw
    have gN := h.2.toN (nn_of hzs)
    have Hlt := Lib.hid hlt
    clear hzs hlt hx1 hp hw
    go_enter Try.func32, Try.ntmps32
    go_wp2_with fail
    refine (l06Can_any k _ zs _ w.heap.size _ g (by simp [go_sem]) (by simp [go_sem])).mono ?_
    rw [hc]
    rintro e w1 ⟨rfl, hb1⟩
    obtain ⟨r0, r1, q0, q1⟩ := blk2 (blk_next hb1 (heap_alloc_new w _))
    have hB := bnext (hb _) hb1
    clear hc
    rw [Int.toNat_natCast] at HV HO
    cases hd : dec (toN zs) y with
    | none =>
      have Hd := Lib.hid hd
      clear hd
      go_wp2_with (go_at_call 63; refine (l06Message_any _ (toN zs) k hk16 y w.heap.size _ (gN.below hB) (by rw [Ht.out]; omega) Hlt.out r1).mono ?_; rw [Hd.out]; rintro e w3 ⟨rfl, rfl⟩; simp only [decI])
      go_ret2
      exact ⟨ret2 (vi (by rw [HV.out, Hd.out]; rfl)) (vb (by rw [HO.out, Hd.out]; rfl)), hB⟩
    | some q =>
      have Hd := Lib.hid hd
      clear hd
      go_wp2_with (go_at_call 63; refine (l06Message_any _ (toN zs) k hk16 y w.heap.size _ (gN.below hB) (by rw [Ht.out]; omega) Hlt.out r1).mono ?_; rw [Hd.out]; rintro e w3 ⟨rfl, rfl⟩; simp only [decI])
      go_ret2
      exact ⟨ret2 (vi (by rw [HV.out, Hd.out]; rfl)) (vb (by rw [HO.out, Hd.out]; rfl)), hB⟩
  · have hc : inOk n zs x = false := by simpa using hc
    have HV := Lib.hid (show deV n zs x = 0 by simp [deV, hc])
    have HO := Lib.hid (show deOk n zs x = false by simp [deOk, hc])
    go_enter Try.func32, Try.ntmps32
    go_wp2_with fail
    refine (l06Can_any n _ zs _ w.heap.size _ g (by simp [go_sem]) (by simp [go_sem])).mono ?_
    rw [hc]
    rintro e w1 ⟨rfl, hb1⟩
    clear hc
    go_wp2
    go_ret2
    exact ⟨ret2 (vi HV.out.symm) (vb HO.out.symm), bnext (hb _) hb1⟩
end Go.Proofs.Ytecddfaleapggaa
