/- Words and messages of parities: what both packages return. No conditions but that the slices read. -/
import Derived.Test.YtecddfaleapggaaParA
namespace Go.Proofs.Ytecddfaleapggaa
open Go.RowKit
set_option maxRecDepth 100000
set_option linter.unusedVariables false
set_option linter.unusedSimpArgs false

set_option maxHeartbeats 1000000 in
theorem l06Encode_any (v : Value) (ns : List Nat) (k : Nat) (hk : k ≤ 16) (m B : Nat) (hm : m < 65536) (w : World) (h : Rg eN w v ns) (hl8 : ns.length ≤ 8) (hl : Lt (2 ^ k) ns) (c1 : w.cell? ⟨B, 1, none⟩ = some v) :
    Calls Try.prog 57 #[.pointer (some ⟨B, 0, none⟩), .int .i64 m] w fun e w' => e = .returned (.int .i64 (enc ns m)) ∧ w = w' := by
  have hl65 : 2 ^ k ≤ 65536 := Nat.le_trans (Nat.pow_le_pow_right (by decide) hk) (by decide)
  obtain ⟨ao, cap, rfl, h1, h2, h3⟩ := h
  go_enter Try.func57, Try.ntmps57
  go_wp2
  go_loop [5, 6] (fun wv iv => ∃ i x : Nat, iv = .int .i64 i ∧ wv = .int .i64 x ∧ i ≤ ns.length ∧ x < 2 ^ k ∧ encF ns m (ns.length - i) i x = enc ns m) (fun _ iv => ns.length - (intOf iv).toNat)
  case atStart => exact ⟨0, 0, rfl, rfl, Nat.zero_le _, Nat.two_pow_pos k, rfl⟩
  case round =>
    obtain ⟨i, x, rfl, rfl, hi, hx, hq⟩ := hrel
    by_cases hil : i < ns.length
    · obtain ⟨b, off, rfl, hc⟩ := h3 i hil
      rw [show ns.length - i = (ns.length - (i + 1)) + 1 by omega, encF, gt_eq hil] at hq
      have hn := hl.at i hil
      have hxl := Nat.xor_lt_two_pow hx hn
      have e := xor_i64_nat x ns[i] (by omega) (by omega)
      have Hxl := Lib.hid hxl
      generalize ns[i] = y at *
      by_cases hd : hasD m i = true
      · rw [if_pos hd] at hq
        have Hq := Lib.hid hq
        clear hq h3 hxl
        go_wp2_with (go_at_call 66; refine (l06Has_any m i hm (by omega) _).mono ?_; rw [hd]; rintro e w' ⟨rfl, rfl⟩)
        go_round
        case rel => exact ⟨i + 1, x ^^^ y, by go_num, rfl, by omega, Hxl.out, Hq.out⟩
        case measure => simp [intOf] <;> omega
      · have hd : hasD m i = false := by simpa using hd
        rw [if_neg (by rw [hd]; decide)] at hq
        have Hq := Lib.hid hq
        clear hq h3 hxl
        go_wp2_with (go_at_call 66; refine (l06Has_any m i hm (by omega) _).mono ?_; rw [hd]; rintro e w' ⟨rfl, rfl⟩)
        go_round
        case rel => exact ⟨i + 1, x, by go_num, rfl, by omega, hx, Hq.out⟩
        case measure => simp [intOf] <;> omega
    · rw [show ns.length - i = 0 by omega, encF] at hq
      have Hq := Lib.hid hq
      clear hq
      go_wp2
      go_ret
      exact ⟨ret_i64 (by rw [Hq.out]), rfl⟩
set_option maxHeartbeats 1000000 in
theorem encode_any (n : Int) (v : Value) (ns : List Nat) (k : Nat) (hk : k ≤ 16) (m : Nat) (hm : m < 65536) (w : World) (h : Rg eN w v ns) (hl8 : ns.length ≤ 8) (hl : Lt (2 ^ k) ns) :
    Calls Try.prog 59 #[.agg #[.int .i64 n, v], .int .i64 m] w fun e w' => e = .returned (.int .i64 (enc ns m)) ∧ Below w.heap.size w w' := by
  have hl65 : 2 ^ k ≤ 65536 := Nat.le_trans (Nat.pow_le_pow_right (by decide) hk) (by decide)
  have hb : ∀ o, Below w.heap.size w (w.alloc o) := fun o => by go_grown
  have h' := h.below (hb (.cells #[.int .i64 n, v] 27))
  obtain ⟨ao, cap, rfl, h1, h2, h3⟩ := h'
  clear h
  go_enter Try.func59, Try.ntmps59
  go_wp2
  go_loop [5, 11] (fun wv iv => ∃ i x : Nat, iv = .int .i64 i ∧ wv = .int .i64 x ∧ i ≤ ns.length ∧ x < 2 ^ k ∧ encF ns m (ns.length - i) i x = enc ns m) (fun _ iv => ns.length - (intOf iv).toNat)
  case atStart => exact ⟨0, 0, rfl, rfl, Nat.zero_le _, Nat.two_pow_pos k, rfl⟩
  case round =>
    obtain ⟨i, x, rfl, rfl, hi, hx, hq⟩ := hrel
    by_cases hil : i < ns.length
    · obtain ⟨b, off, rfl, hc⟩ := h3 i hil
      rw [show ns.length - i = (ns.length - (i + 1)) + 1 by omega, encF, gt_eq hil] at hq
      have hn := hl.at i hil
      have hxl := Nat.xor_lt_two_pow hx hn
      have e := xor_i64_nat x ns[i] (by omega) (by omega)
      have Hxl := Lib.hid hxl
      generalize ns[i] = y at *
      by_cases hd : hasD m i = true
      · rw [if_pos hd] at hq
        have Hq := Lib.hid hq
        clear hq h3 hxl
        go_wp2_with (go_at_call 67; refine (hasDigit_any m i hm (by omega) _).mono ?_; rw [hd]; rintro e w' ⟨rfl, rfl⟩)
        go_round
        case rel => exact ⟨i + 1, x ^^^ y, by go_num, rfl, by omega, Hxl.out, Hq.out⟩
        case measure => simp [intOf] <;> omega
      · have hd : hasD m i = false := by simpa using hd
        rw [if_neg (by rw [hd]; decide)] at hq
        have Hq := Lib.hid hq
        clear hq h3 hxl
        go_wp2_with (go_at_call 67; refine (hasDigit_any m i hm (by omega) _).mono ?_; rw [hd]; rintro e w' ⟨rfl, rfl⟩)
        go_round
        case rel => exact ⟨i + 1, x, by go_num, rfl, by omega, hx, Hq.out⟩
        case measure => simp [intOf] <;> omega
    · rw [show ns.length - i = 0 by omega, encF] at hq
      have Hq := Lib.hid hq
      clear hq
      go_wp2
      go_ret
      exact ⟨ret_i64 (by rw [Hq.out]), hb _⟩
theorem pow8' (n : Nat) (hn : n ≤ 8) : (1 : Int) ≤ 2 ^ n ∧ (2 : Int) ^ n ≤ 256 := by
  have h1 : 2 ^ n ≤ 2 ^ 8 := Nat.pow_le_pow_right (by decide) hn
  have h2 : 1 ≤ 2 ^ n := Nat.one_le_two_pow
  have e : (2 : Int) ^ n = ((2 ^ n : Nat) : Int) := by simp
  rw [e]; omega
set_option maxHeartbeats 1000000 in
theorem messages_any (n : Int) (ao : Option Addr) (l cap : Nat) (hl8 : l ≤ 16) (w : World) :
    Calls Try.prog 58 #[.agg #[.int .i64 n, .slice ao l cap]] w fun e w' => e = .returned (.int .i64 (2 ^ l)) ∧ Below w.heap.size w w' := by
  obtain ⟨h1, h2⟩ := pow16 l hl8
  go_enter Try.func58, Try.ntmps58
  go_wp2
  go_ret
  exact ⟨rfl, by go_grown⟩
def decI (o : Option Nat) : Int := match o with | some m => m | none => -1
set_option maxHeartbeats 1000000 in
theorem l06Message_any (v : Value) (ns : List Nat) (k : Nat) (hk : k ≤ 16) (x B : Nat) (w : World) (h : Rg eN w v ns) (hl8 : ns.length ≤ 8) (hl : Lt (2 ^ k) ns) (c1 : w.cell? ⟨B, 1, none⟩ = some v) :
    Calls Try.prog 63 #[.pointer (some ⟨B, 0, none⟩), .int .i64 x] w fun e w' => e = .returned (.int .i64 (decI (dec ns x))) ∧ w = w' := by
  have h0 := h
  have c1' := c1
  obtain ⟨ao, cap, rfl⟩ := h.shape
  obtain ⟨hp1, hp2⟩ := pow8' ns.length hl8
  have e : (2 : Int) ^ ns.length = ((2 ^ ns.length : Nat) : Int) := by simp
  have hp3 : 2 ^ ns.length ≤ 256 := by rw [e] at hp2; omega
  have E := Lib.hid e
  clear e
  go_enter Try.func63, Try.ntmps63
  go_wp2
  go_loop [5] (fun mv => ∃ m : Nat, mv = .int .i64 m ∧ m ≤ 2 ^ ns.length ∧ decF ns x (2 ^ ns.length - m) m = dec ns x) (fun mv => 2 ^ ns.length - (intOf mv).toNat)
  case atStart => exact ⟨0, rfl, Nat.zero_le _, rfl⟩
  case round =>
    obtain ⟨m, rfl, hm, hq⟩ := hrel
    by_cases hml : m < 2 ^ ns.length
    · rw [show 2 ^ ns.length - m = (2 ^ ns.length - (m + 1)) + 1 by omega, decF] at hq
      have hml' : (m : Int) < 2 ^ ns.length := by rw [E.out]; omega
      by_cases he : enc ns m = x
      · rw [if_pos he] at hq
        have Hq := Lib.hid hq
        have he' : ((enc ns m : Nat) : Int) == (x : Int) := by simp [he]
        clear hq he
        go_wp2_with (go_at_call 57; refine (l06Encode_any _ ns k hk m B (by omega) _ h0 hl8 hl c1').mono ?_; rintro e w' ⟨rfl, rfl⟩)
        go_ret
        exact ⟨ret_i64 (by rw [← Hq.out]; rfl), rfl⟩
      · rw [if_neg he] at hq
        have Hq := Lib.hid hq
        have he' : (((enc ns m : Nat) : Int) == (x : Int)) = false := by simp; omega
        clear hq he
        go_wp2_with (go_at_call 57; refine (l06Encode_any _ ns k hk m B (by omega) _ h0 hl8 hl c1').mono ?_; rintro e w' ⟨rfl, rfl⟩)
        go_round
        case rel => exact ⟨m + 1, by go_num, by omega, Hq.out⟩
        case measure => simp [intOf] <;> omega
    · rw [show 2 ^ ns.length - m = 0 by omega, decF] at hq
      have Hq := Lib.hid hq
      have hml' : ¬ ((m : Int) < 2 ^ ns.length) := by rw [E.out]; omega
      clear hq
      go_wp2
      go_ret
      exact ⟨ret_i64 (by rw [← Hq.out]; rfl), rfl⟩
set_option maxHeartbeats 1000000 in
theorem decode_any (n : Int) (v : Value) (ns : List Nat) (k : Nat) (hk : k ≤ 16) (x : Nat) (w : World) (h : Rg eN w v ns) (hl8 : ns.length ≤ 8) (hl : Lt (2 ^ k) ns) :
    Calls Try.prog 65 #[.agg #[.int .i64 n, v], .int .i64 x] w fun e w' => e = .returned (.tuple #[.int .i64 ((dec ns x).getD 0 : Nat), .bool (dec ns x).isSome]) ∧ Below w.heap.size w w' := by
  obtain ⟨ao, cap, rfl⟩ := h.shape
  have hb : ∀ o, Below w.heap.size w (w.alloc o) := fun o => by go_grown
  obtain ⟨hp1, hp2⟩ := pow8' ns.length hl8
  have e : (2 : Int) ^ ns.length = ((2 ^ ns.length : Nat) : Int) := by simp
  have hp3 : 2 ^ ns.length ≤ 256 := by rw [e] at hp2; omega
  have E := Lib.hid e
  clear e
  go_enter Try.func65, Try.ntmps65
  go_wp2_with (go_at_call 58; refine (messages_any _ _ _ _ (by omega) _).mono ?_; rintro e w1 ⟨rfl, hb1⟩)
  have hr := blk_next hb1 (heap_alloc_new w _)
  have hB := bnext (hb _) hb1
  clear hb1
  go_loopw [9] (fun mv wr => ∃ m : Nat, mv = .int .i64 m ∧ m ≤ 2 ^ ns.length ∧ decF ns x (2 ^ ns.length - m) m = dec ns x ∧ wr.heap[w.heap.size]? = some (.cells #[.int .i64 n, .slice ao ns.length cap] 27 (0, 0)) ∧ Below w.heap.size w wr) (fun mv _ => 2 ^ ns.length - (intOf mv).toNat)
  case atStart => exact ⟨0, rfl, Nat.zero_le _, rfl, hr, hB⟩
  case round =>
    clear hr hB
    obtain ⟨m, rfl, hm, hq, hr, hB⟩ := hrel
    obtain ⟨r0, r1, q0, q1⟩ := blk2 hr
    by_cases hml : m < 2 ^ ns.length
    · rw [show 2 ^ ns.length - m = (2 ^ ns.length - (m + 1)) + 1 by omega, decF] at hq
      have hml' : (m : Int) < 2 ^ ns.length := by rw [E.out]; omega
      by_cases he : enc ns m = x
      · rw [if_pos he] at hq
        have Hq := Lib.hid hq
        have he' : ((enc ns m : Nat) : Int) == (x : Int) := by simp [he]
        clear hq he
        go_wp2_with (go_at_call 59; refine (encode_any _ _ ns k hk m (by omega) _ (h.below hB) hl8 hl).mono ?_; rintro e w1 ⟨rfl, hb1⟩)
        go_ret2
        exact ⟨ret2 (vi (by rw [← Hq.out]; rfl)) (vb (by rw [← Hq.out]; rfl)), bnext hB hb1⟩
      · rw [if_neg he] at hq
        have Hq := Lib.hid hq
        have he' : (((enc ns m : Nat) : Int) == (x : Int)) = false := by simp; omega
        clear hq he
        go_wp2_with (go_at_call 59; refine (encode_any _ _ ns k hk m (by omega) _ (h.below hB) hl8 hl).mono ?_; rintro e w1 ⟨rfl, hb1⟩)
        go_roundw
        case rel => exact ⟨m + 1, by go_num, by omega, Hq.out, blk_next hb1 hr, bnext hB hb1⟩
        case measure => simp [intOf] <;> omega
    · rw [show 2 ^ ns.length - m = 0 by omega, decF] at hq
      have Hq := Lib.hid hq
      have hml' : ¬ ((m : Int) < 2 ^ ns.length) := by rw [E.out]; omega
      clear hq
      go_wp2
      go_ret2
      exact ⟨ret2 (vi (by rw [← Hq.out]; rfl)) (vb (by rw [← Hq.out]; rfl)), hB⟩
end Go.Proofs.Ytecddfaleapggaa
