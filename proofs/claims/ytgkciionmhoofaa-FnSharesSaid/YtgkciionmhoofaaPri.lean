/- Primes, and lists of numbers over a prime: what both packages say of them. No conditions but that the slices read. -/
import Derived.Test.YtgkciionmhoofaaPriP
import Derived.Test.YtgkciionmhoofaaText
namespace Go.Proofs.Ytgkciionmhoofaa
open Go.RowKit
set_option maxRecDepth 100000
set_option linter.unusedVariables false
set_option linter.unusedSimpArgs false

theorem ri_new (w : World) (zs : List Int) (T : TypeId) (hz : AllI64 zs) (hl : zs.length ≤ 1099511627776) : RI (w.alloc (.cells (zs.map (Value.int .i64)).toArray T)) (.slice (some ⟨w.heap.size, 0, none⟩) zs.length zs.length) zs := by
  refine ⟨hz, _, zs.length, rfl, Nat.le_refl _, by unfold maxLen; omega, fun i hi => ⟨w.heap.size, 0, rfl, ?_⟩⟩
  rw [cell_of_row _ _ _ _ _ _ (heap_alloc_new w _)]
  simp [hi]
theorem primes_i64 : AllI64 primes := by
  intro z hz
  have : z = 7 ∨ z = 11 ∨ z = 13 ∨ z = 17 ∨ z = 31 ∨ z = 127 ∨ z = 257 := by simpa [primes] using hz
  constructor <;> omega
def IdxR (zs : List Int) (x : Int) (w : World) (e : Ending) (w' : World) : Prop := ∃ r : Int, e = .returned (.int .i64 r) ∧ decide (0 ≤ r) = memB zs x ∧ w = w'
set_option maxHeartbeats 400000 in
theorem index_any (v : Value) (zs : List Int) (x : Int) (w : World) (h : RI w v zs) :
    Calls Try.prog 48 #[v, .int .i64 x] w (IdxR zs x w) := by
  have hlen := h.len
  obtain ⟨_, ao, cap, rfl, h1, h2, h3⟩ := h
  go_enter Try.func48, Try.ntmps48
  go_wp2
  go_loop [8] (fun i => ∃ k : Nat, k ≤ zs.length ∧ i = .int .i64 k ∧ memB (zs.drop k) x = memB zs x) (fun i => zs.length - (intOf i).toNat)
  case atStart => exact ⟨0, Nat.zero_le _, rfl, rfl⟩
  case round =>
    obtain ⟨k, hk, rfl, hall⟩ := hrel
    have Hall := Lib.hid hall; clear hall
    by_cases hlt : k < zs.length
    · obtain ⟨b, off, rfl, hc⟩ := h3 k hlt
      have Hd := Lib.hid (List.drop_eq_getElem_cons hlt)
      clear h3
      generalize zs[k] = z at hc Hd
      by_cases hx : x = z
      · have hb : (x == z) = true := by simpa using hx
        have Hx := Lib.hid hx
        clear hx
        go_wp2
        go_ret
        exact ⟨k, rfl, by rw [← Hall.out, Hd.out, Hx.out]; simp [memB], rfl⟩
      · have hb : (x == z) = false := by simpa using hx
        have Hx := Lib.hid hx
        clear hx
        go_wp2
        go_round
        case rel => exact ⟨k + 1, by omega, by go_num, by rw [← Hall.out, Hd.out]; simp [memB, Ne.symm Hx.out]⟩
        case measure => simp [intOf]; omega
    · go_wp2
      go_ret
      exact ⟨-1, rfl, by rw [← Hall.out, List.drop_of_length_le (by omega)]; rfl, rfl⟩
set_option maxHeartbeats 400000 in
theorem contains_any (v : Value) (zs : List Int) (x : Int) (w : World) (h : RI w v zs) :
    Calls Try.prog 41 #[v, .int .i64 x] w fun e w' => e = .returned (.bool (memB zs x)) ∧ w = w' := by
  have hi := index_any v zs x w h
  obtain ⟨ao, cap, rfl⟩ := h.shape
  go_enter Try.func41, Try.ntmps41
  go_wp2_with fail
  refine hi.mono ?_
  rintro e w' ⟨r, rfl, hr, rfl⟩
  have Hr := Lib.hid hr
  clear hr
  go_wp2
  go_ret
  exact ⟨ret_bool Hr.out, rfl⟩
set_option maxHeartbeats 400000 in
theorem isPrime_any (p : Int) (w : World) :
    Calls Try.prog 38 #[.int .i64 p] w fun e w' => e = .returned (.bool (prm p)) ∧ Below w.heap.size w w' := by
  have hn := ri_new w primes 2 primes_i64 (by decide)
  have hb : ∀ o, Below w.heap.size w (w.alloc o) := fun o => by go_grown
  go_enter Try.func38, Try.ntmps38
  go_wp2_with fail
  refine (contains_any _ primes p _ hn).mono ?_
  rintro e w' ⟨rfl, rfl⟩
  go_wp2
  go_ret
  exact ⟨rfl, hb _⟩
set_option maxHeartbeats 1000000 in
theorem l06Prime_any (p : Int) (w : World) :
    Calls Try.prog 29 #[.int .i64 p] w fun e w' => e = .returned (.bool (prm p)) ∧ Below w.heap.size w w' := by
  have hn := ri_new w primes 2 primes_i64 (by decide)
  have hb : ∀ o, Below w.heap.size w (w.alloc o) := fun o => by go_grown
  go_enter Try.func29, Try.ntmps29
  go_wp2_with fail
  have hb := hb (.cells (primes.map (Value.int .i64)).toArray 2)
  change Below w.heap.size w (w.alloc (.cells #[.int .i64 7, .int .i64 11, .int .i64 13, .int .i64 17, .int .i64 31, .int .i64 127, .int .i64 257] 2)) at hb
  change RI (w.alloc (.cells #[.int .i64 7, .int .i64 11, .int .i64 13, .int .i64 17, .int .i64 31, .int .i64 127, .int .i64 257] 2)) (.slice (some ⟨w.heap.size, 0, none⟩) primes.length primes.length) primes at hn
  generalize w.alloc (.cells #[.int .i64 7, .int .i64 11, .int .i64 13, .int .i64 17, .int .i64 31, .int .i64 127, .int .i64 257] 2) = wo at *
  go_loop [4] (fun i => ∃ k : Nat, k ≤ 7 ∧ i = .int .i64 k ∧ memB (primes.drop k) p = memB primes p) (fun i => 7 - (intOf i).toNat)
  case atStart => exact ⟨0, Nat.zero_le _, rfl, rfl⟩
  case round =>
    obtain ⟨k, hk, rfl, hall⟩ := hrel
    have Hall := Lib.hid hall; clear hall
    by_cases hlt : k < 7
    · obtain ⟨b, off, e, -, hc⟩ := hn.2.cells (show 0 < primes.length by decide)
      simp only [Option.some.injEq, Addr.mk.injEq, and_true] at e
      obtain ⟨rfl, rfl⟩ := e
      have hc := hc k hlt
      have Hd := Lib.hid (List.drop_eq_getElem_cons (show k < primes.length from hlt))
      clear hn
      rw [Nat.zero_add] at hc
      generalize primes[k] = z at hc Hd
      by_cases hx : z = p
      · have hb' : (z == p) = true := by simpa using hx
        have Hx := Lib.hid hx
        clear hx
        have hf := Lib.hid (show prm p = true by rw [prm, ← Hall.out, Hd.out, Hx.out]; simp [memB])
        go_wp2
        go_ret
        exact ⟨ret_bool hf.out.symm, hb⟩
      · have hb' : (z == p) = false := by simpa using hx
        have Hx := Lib.hid hx
        clear hx
        go_wp2
        go_round
        case rel => exact ⟨k + 1, by omega, by go_num, by rw [← Hall.out, Hd.out]; simp [memB, Hx.out]⟩
        case measure => simp [intOf]; omega
    · have hf := Lib.hid (show prm p = false by rw [prm, ← Hall.out, List.drop_of_length_le (show primes.length ≤ k by show 7 ≤ k; omega)]; rfl)
      go_wp2
      go_ret
      exact ⟨ret_bool hf.out.symm, hb⟩
set_option maxHeartbeats 1000000 in
theorem areNumbers_any (p : Int) (v : Value) (zs : List Int) (lo hi : Int) (w : World) (h : RI w v zs) :
    Calls Try.prog 21 #[.int .i64 p, v, .int .i64 lo, .int .i64 hi] w fun e w' => e = .returned (.bool (nums p zs lo hi)) ∧ Below w.heap.size w w' := by
  have hlen := h.len
  obtain ⟨ao, cap, rfl⟩ := h.shape
  by_cases hp : prm p = true
  · obtain ⟨hp1, hp2⟩ := prm_bd hp
    by_cases h1 : lo ≤ (zs.length : Int)
    · by_cases h2 : (zs.length : Int) ≤ hi
      · have HN := Lib.hid (show nums p zs lo hi = allIn zs 0 (p - 1) by simp [nums, hp, h1, h2])
        go_enter Try.func21, Try.ntmps21
        go_wp2_with fail
        refine (isPrime_any p _).mono ?_
        rw [hp]
        rintro e w1 ⟨rfl, hb1⟩
        go_wp2_with fail
        refine (areWithin_any _ zs _ _ _ (h.below hb1)).mono ?_
        rintro e w2 ⟨rfl, rfl⟩
        go_wp2
        go_ret
        exact ⟨ret_bool HN.out.symm, hb1⟩
      · have HN := Lib.hid (show nums p zs lo hi = false by simp [nums, h2])
        have d2 : decide ((zs.length : Int) ≤ hi) = false := decide_eq_false h2
        go_enter Try.func21, Try.ntmps21
        go_wp2_with fail
        refine (isPrime_any p _).mono ?_
        rw [hp]
        rintro e w1 ⟨rfl, hb1⟩
        go_wp2
        go_ret
        exact ⟨ret_bool HN.out.symm, hb1⟩
    · have HN := Lib.hid (show nums p zs lo hi = false by simp [nums, h1])
      have d1 : decide (lo ≤ (zs.length : Int)) = false := decide_eq_false h1
      go_enter Try.func21, Try.ntmps21
      go_wp2_with fail
      refine (isPrime_any p _).mono ?_
      rw [hp]
      rintro e w1 ⟨rfl, hb1⟩
      go_wp2
      go_ret
      exact ⟨ret_bool HN.out.symm, hb1⟩
  · have hp : prm p = false := by simpa using hp
    have HN := Lib.hid (show nums p zs lo hi = false by simp [nums, hp])
    go_enter Try.func21, Try.ntmps21
    go_wp2_with fail
    refine (isPrime_any p _).mono ?_
    rw [hp]
    rintro e w1 ⟨rfl, hb1⟩
    go_wp2
    go_ret
    exact ⟨ret_bool HN.out.symm, hb1⟩
set_option maxHeartbeats 1000000 in
theorem l06Numbers_any (p : Int) (hp1 : 7 ≤ p) (hp2 : p ≤ 257) (v : Value) (zs : List Int) (lo hi : Int) (w : World) (h : RI w v zs) :
    Calls Try.prog 31 #[v, .int .i64 lo, .int .i64 hi, .int .i64 p] w fun e w' => e = .returned (.bool (decide (lo ≤ (zs.length : Int)) && decide ((zs.length : Int) ≤ hi) && allIn zs 0 (p - 1))) ∧ w = w' := by
  have hlen := h.len
  obtain ⟨hz, ao, cap, rfl, h1, h2, h3⟩ := h
  go_enter Try.func31, Try.ntmps31
  go_wp2_with fail
  go_loop [9] (fun i => ∃ k : Nat, k ≤ zs.length ∧ i = .int .i64 k ∧ allIn (zs.drop k) 0 (p - 1) = allIn zs 0 (p - 1)) (fun i => zs.length - (intOf i).toNat)
  case atStart => exact ⟨0, Nat.zero_le _, rfl, rfl⟩
  case round =>
    obtain ⟨k, hk, rfl, hall⟩ := hrel
    have Hall := Lib.hid hall; clear hall
    by_cases hlt : k < zs.length
    · obtain ⟨b, off, rfl, hc⟩ := h3 k hlt
      have Hd := Lib.hid (List.drop_eq_getElem_cons hlt)
      clear h3
      generalize zs[k] = z at hc Hd
      by_cases hx0 : z < 0
      · have HF := Lib.hid (show allIn zs 0 (p - 1) = false by rw [← Hall.out, Hd.out, allIn]; simp [inB]; intro; omega)
        go_wp2
        go_ret
        exact ⟨ret_bool (by rw [HF.out]; simp), rfl⟩
      · have d0 : decide (z < 0) = false := decide_eq_false hx0
        by_cases hxp : p ≤ z
        · have HF := Lib.hid (show allIn zs 0 (p - 1) = false by rw [← Hall.out, Hd.out, allIn]; simp [inB]; omega)
          go_wp2
          go_ret
          exact ⟨ret_bool (by rw [HF.out]; simp), rfl⟩
        · have HT := Lib.hid (show inB z 0 (p - 1) = true by simp [inB]; omega)
          go_wp2
          go_round
          case rel => exact ⟨k + 1, by omega, by go_num, by rw [← Hall.out, Hd.out, allIn, HT.out]; rfl⟩
          case measure => simp [intOf]; omega
    · have HT := Lib.hid (show allIn zs 0 (p - 1) = true by rw [← Hall.out, List.drop_of_length_le (by omega)]; rfl)
      by_cases l1 : lo ≤ (zs.length : Int)
      · by_cases l2 : (zs.length : Int) ≤ hi
        · go_wp2
          go_ret
          exact ⟨ret_bool (by simp [HT.out] <;> omega), rfl⟩
        · go_wp2
          go_ret
          exact ⟨ret_bool (by rw [decide_eq_false (show ¬ (zs.length : Int) ≤ hi by omega)]; simp), rfl⟩
      · go_wp2
        go_ret
        exact ⟨ret_bool (by rw [decide_eq_false (show ¬ lo ≤ (zs.length : Int) by omega)]; simp), rfl⟩
set_option maxHeartbeats 1000000 in
theorem l06Value_any (p x : Int) (hp1 : 7 ≤ p) (hp2 : p ≤ 257) (hx0 : 0 ≤ x) (hx1 : x ≤ 257) (v : Value) (zs : List Int) (hz : ∀ z ∈ zs, 0 ≤ z ∧ z < p) (hl : zs.length ≤ 1048576) (w : World) (h : RI w v zs) :
    Calls Try.prog 46 #[.int .i64 p, v, .int .i64 x] w fun e w' => e = .returned (.int .i64 (valF p x zs)) ∧ w = w' := by
  obtain ⟨_, ao, cap, rfl, h1, h2, h3⟩ := h
  go_enter Try.func46, Try.ntmps46
  go_wp2_with fail
  go_loop [7, 8] (fun v i => ∃ k : Nat, k ≤ zs.length ∧ i = .int .i64 ((k : Int) - 1) ∧ v = .int .i64 (valF p x (zs.drop k))) (fun _ i => (intOf i + 1).toNat)
  case atStart => exact ⟨zs.length, Nat.le_refl _, rfl, by rw [List.drop_length]; rfl⟩
  case round =>
    obtain ⟨k, hk, rfl, rfl⟩ := hrel
    cases k with
    | zero =>
      rw [List.drop_zero]
      go_wp2
      go_ret
      exact ⟨rfl, rfl⟩
    | succ k =>
      rw [show (((k + 1 : Nat) : Int) - 1) = (k : Int) by omega]
      obtain ⟨b, off, rfl, hc⟩ := h3 k (by omega)
      have Hd := Lib.hid (List.drop_eq_getElem_cons (show k < zs.length by omega))
      have hzk := hz zs[k] (List.getElem_mem _)
      clear h3 hz
      have hv := valF_bd (show 0 < p by omega) x (zs.drop (k + 1))
      have Hv := Lib.hid (show valF p x (zs.drop k) = (valF p x (zs.drop (k + 1)) * x + zs[k]) % p by rw [Hd.out]; rfl)
      generalize zs[k] = z at *
      generalize valF p x (zs.drop (k + 1)) = u at *
      have hm0 : 0 ≤ u * x := Int.mul_nonneg hv.1 hx0
      have hm1 : u * x ≤ 257 * 257 := Int.mul_le_mul (by omega) hx1 hx0 (by decide)
      go_wp2
      go_round
      case rel => exact ⟨k, by omega, rfl, by rw [Hv.out]⟩
      case measure => simp [intOf] <;> omega
end Go.Proofs.Ytgkciionmhoofaa
