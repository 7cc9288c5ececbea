/- Parities of one row, and of a polynomial. No conditions. -/
import Derived.Test.YtecddfaleapggaaParA
namespace Go.Proofs.Ytecddfaleapggaa
open Go.RowKit
set_option maxRecDepth 100000
set_option linter.unusedVariables false
set_option linter.unusedSimpArgs false

theorem apN_t (n : Int) : apN true n = n := rfl
theorem apN_f (n : Int) : apN false n = 0 := rfl
theorem apV_t (v : Value) : apV true v = v := rfl
theorem apV_f (v : Value) : apV false v = .slice none 0 0 := rfl
def apZ (b : Bool) (zs : List Int) : List Int := if b = true then zs else []
theorem apZ_len {b : Bool} {zs : List Int} (h : b = true → zs.length ≤ 16777216) : (apZ b zs).length ≤ 16777216 := by
  unfold apZ; split
  · exact h ‹_›
  · simp
theorem prv_len {n : Int} {zs : List Int} (h : prv n zs = true) : zs.length ≤ 16777216 := by
  obtain ⟨_, _, _, _, _, h8, _⟩ := prv_parts h; omega
def rpZ (n : Int) : List Int := [2 ^ n.toNat - 1]
def rpOk (n : Int) : Bool := inB n 1 16 && prv n (rpZ n)
theorem rpZ_len (n : Int) : (apZ (rpOk n) (rpZ n)).length ≤ 16777216 := apZ_len fun _ => by simp [rpZ]
theorem own_one (w : World) (x : Int) (hx : I64 x) : OI w.heap.size (w.alloc (.cells #[.int .i64 x] 2)) (.slice (some ⟨w.heap.size, 0, none⟩) 1 1) [x] :=
  OI.own (e := 2) (by intro z hz; simp only [List.mem_singleton] at hz; subst hz; exact hx) ⟨by simp, .inr ⟨w.heap.size, 1, #[.int .i64 x], rfl, Nat.le_refl _, heap_alloc_new w _, Nat.le_refl _, by unfold maxLen; omega, by simp, by simp⟩⟩
set_option maxHeartbeats 1000000 in
theorem implRepeat_any (n : Int) (w : World) :
    Calls Try.prog 21 #[.int .i64 n] w fun e w' => ∃ v', e = .returned (.tuple #[.agg #[.int .i64 (apN (rpOk n) n), v'], .bool (rpOk n)]) ∧ OI w.heap.size w' v' (apZ (rpOk n) (rpZ n)) ∧ Below w.heap.size w w' := by
  by_cases h1 : inB n 1 16 = true
  · have HOK := Lib.hid (show rpOk n = prv n (rpZ n) by simp [rpOk, h1])
    have hp := inB_eq h1
    simp only [if_true] at hp
    obtain ⟨hp1, hp2⟩ := hp
    obtain ⟨hq1, hq2⟩ := pow16 n.toNat (by omega)
    have ho := own_one (w.alloc (.cells #[.int .i64 0, .slice none 0 0] 27)) (2 ^ n.toNat - 1) (by constructor <;> omega)
    simp only [World.size_alloc] at ho
    go_enter Try.func21, Try.ntmps21
    go_wp2_with (go_at_call 47; refine (within_any _ _ _ _).mono ?_; rw [h1]; rintro e w' ⟨rfl, rfl⟩)
    by_cases hpv : prv n (rpZ n) = true
    · refine (asParity_any n _ (rpZ n) _ ho.ri).mono ?_
      rw [hpv, apN_t, apV_t]
      rintro e w3 ⟨rfl, hb3⟩
      obtain ⟨r0, r1, q0, q1⟩ := blk2 (blk_next hb3 (blk_alloc (heap_alloc_new w _)))
      have hBf := bnext (show Below w.heap.size w ((w.alloc _).alloc _) by go_grown) hb3
      have hok3 := OI.below hb3 ho
      have hfin := OI.box hok3 (w.heap.size) (by omega) (.int .i64 n) (.slice (some ⟨w.heap.size + 1, 0, none⟩) 1 1)
      have hfB := below_box hBf (w.heap.size) (by omega) (.int .i64 n) (.slice (some ⟨w.heap.size + 1, 0, none⟩) 1 1)
      have Hf := Lib.hid hfin
      have HP := Lib.hid hpv
      clear hok3 hfin hpv
      go_wp2
      exact bodyPost_ret (v := .tuple #[.agg #[.int .i64 n, (.slice (some ⟨w.heap.size + 1, 0, none⟩) 1 1)], .bool true]) (by simp [results, Try.results21, go_sem, r0, r1]) rfl ⟨(.slice (some ⟨w.heap.size + 1, 0, none⟩) 1 1), by rw [HOK.out, HP.out]; rfl, by rw [HOK.out, HP.out]; exact OI.mono (by omega) Hf.out, hfB⟩
    · have hpv : prv n (rpZ n) = false := by simpa using hpv
      refine (asParity_any n _ (rpZ n) _ ho.ri).mono ?_
      rw [hpv, apN_f, apV_f]
      rintro e w3 ⟨rfl, hb3⟩
      obtain ⟨r0, r1, q0, q1⟩ := blk2 (blk_next hb3 (blk_alloc (heap_alloc_new w _)))
      have hBf := bnext (show Below w.heap.size w ((w.alloc _).alloc _) by go_grown) hb3
      have hfB := below_box hBf (w.heap.size) (by omega) (.int .i64 0) (.slice none 0 0)
      have HP := Lib.hid hpv
      clear hpv
      go_wp2
      exact bodyPost_ret (v := .tuple #[.agg #[.int .i64 0, .slice none 0 0], .bool false]) (by simp [results, Try.results21, go_sem, r0, r1]) rfl ⟨.slice none 0 0, by rw [HOK.out, HP.out]; rfl, by rw [HOK.out, HP.out]; exact OI.nil _ _, hfB⟩
  · have h1 : inB n 1 16 = false := by simpa using h1
    have HOK := Lib.hid (show rpOk n = false by simp [rpOk, h1])
    go_enter Try.func21, Try.ntmps21
    go_wp2_with (go_at_call 47; refine (within_any _ _ _ _).mono ?_; rw [h1]; rintro e w' ⟨rfl, rfl⟩)
    exact bodyPost_ret (v := .tuple #[.agg #[.int .i64 0, .slice none 0 0], .bool false]) (by simp [results, Try.results21, go_sem]) rfl ⟨.slice none 0 0, by rw [HOK.out]; rfl, by rw [HOK.out]; exact OI.nil _ _, by go_grown⟩
set_option maxHeartbeats 1000000 in
theorem specRepeat_any (n : Int) (w : World) :
    Calls Try.prog 20 #[.int .i64 n] w fun e w' => ∃ v', e = .returned (.tuple #[.agg #[.int .i64 (apN (rpOk n) n), v'], .bool (rpOk n)]) ∧ OI w.heap.size w' v' (apZ (rpOk n) (rpZ n)) ∧ Below w.heap.size w w' := by
  by_cases h1 : inB n 1 16 = true
  · have HOK := Lib.hid (show rpOk n = prv n (rpZ n) by simp [rpOk, h1])
    have hp := inB_eq h1
    simp only [if_true] at hp
    obtain ⟨hp1, hp2⟩ := hp
    obtain ⟨hq1, hq2⟩ := pow16 n.toNat (by omega)
    have ho := own_one (w.alloc (.cells #[.int .i64 0, .slice none 0 0] 27)) (2 ^ n.toNat - 1) (by constructor <;> omega)
    simp only [World.size_alloc] at ho
    go_enter Try.func20, Try.ntmps20
    go_wp2_with (go_at_call 51; refine (l00In_any _ _ _ _).mono ?_; rw [h1]; rintro e w' ⟨rfl, rfl⟩)
    by_cases hpv : prv n (rpZ n) = true
    · refine (l06Give_any n _ (rpZ n) _ ho.ri).mono ?_
      rw [hpv, apN_t, apV_t]
      rintro e w3 ⟨rfl, hb3⟩
      obtain ⟨r0, r1, q0, q1⟩ := blk2 (blk_next hb3 (blk_alloc (heap_alloc_new w _)))
      have hBf := bnext (show Below w.heap.size w ((w.alloc _).alloc _) by go_grown) hb3
      have hok3 := OI.below hb3 ho
      have hfin := OI.box hok3 (w.heap.size) (by omega) (.int .i64 n) (.slice (some ⟨w.heap.size + 1, 0, none⟩) 1 1)
      have hfB := below_box hBf (w.heap.size) (by omega) (.int .i64 n) (.slice (some ⟨w.heap.size + 1, 0, none⟩) 1 1)
      have Hf := Lib.hid hfin
      have HP := Lib.hid hpv
      clear hok3 hfin hpv
      go_wp2
      exact bodyPost_ret (v := .tuple #[.agg #[.int .i64 n, (.slice (some ⟨w.heap.size + 1, 0, none⟩) 1 1)], .bool true]) (by simp [results, Try.results20, go_sem, r0, r1]) rfl ⟨(.slice (some ⟨w.heap.size + 1, 0, none⟩) 1 1), by rw [HOK.out, HP.out]; rfl, by rw [HOK.out, HP.out]; exact OI.mono (by omega) Hf.out, hfB⟩
    · have hpv : prv n (rpZ n) = false := by simpa using hpv
      refine (l06Give_any n _ (rpZ n) _ ho.ri).mono ?_
      rw [hpv, apN_f, apV_f]
      rintro e w3 ⟨rfl, hb3⟩
      obtain ⟨r0, r1, q0, q1⟩ := blk2 (blk_next hb3 (blk_alloc (heap_alloc_new w _)))
      have hBf := bnext (show Below w.heap.size w ((w.alloc _).alloc _) by go_grown) hb3
      have hfB := below_box hBf (w.heap.size) (by omega) (.int .i64 0) (.slice none 0 0)
      have HP := Lib.hid hpv
      clear hpv
      go_wp2
      exact bodyPost_ret (v := .tuple #[.agg #[.int .i64 0, .slice none 0 0], .bool false]) (by simp [results, Try.results20, go_sem, r0, r1]) rfl ⟨.slice none 0 0, by rw [HOK.out, HP.out]; rfl, by rw [HOK.out, HP.out]; exact OI.nil _ _, hfB⟩
  · have h1 : inB n 1 16 = false := by simpa using h1
    have HOK := Lib.hid (show rpOk n = false by simp [rpOk, h1])
    go_enter Try.func20, Try.ntmps20
    go_wp2_with (go_at_call 51; refine (l00In_any _ _ _ _).mono ?_; rw [h1]; rintro e w' ⟨rfl, rfl⟩)
    exact bodyPost_ret (v := .tuple #[.agg #[.int .i64 0, .slice none 0 0], .bool false]) (by simp [results, Try.results20, go_sem]) rfl ⟨.slice none 0 0, by rw [HOK.out]; rfl, by rw [HOK.out]; exact OI.nil _ _, by go_grown⟩
/-- The rows of a polynomial. -/
def cyF (n : Int) : Nat → Nat → List Nat → List Nat
  | 0, _, out => out
  | r + 1, x, out => if isW x n = true then cyF n r (2 * x) (out ++ [x]) else out
def cyB (n p : Int) : Bool := inB n 1 16 && (isW p n && decide (p % 2 ≠ 0))
def cyZ (n p : Int) : List Int := ofN (cyF n 17 p.toNat [])
def cyOk (n p : Int) : Bool := cyB n p && prv n (cyZ n p)
theorem cyF_len (n : Int) (r x : Nat) (out : List Nat) : (cyF n r x out).length ≤ out.length + r := by
  induction r generalizing x out with
  | zero => simp [cyF]
  | succ r ih => rw [cyF]; split
                 · have := ih (2 * x) (out ++ [x]); simp only [List.length_append, List.length_singleton] at this; omega
                 · omega
theorem cyZ_len (n p : Int) : (apZ (cyOk n p) (cyZ n p)).length ≤ 16777216 := apZ_len fun _ => by
  have := cyF_len n 17 p.toNat []
  rw [cyZ, ofN_len]; simp at this; omega
theorem ofN_snoc (xs : List Nat) (x : Nat) : ofN xs ++ [(x : Int)] = ofN (xs ++ [x]) := by simp [ofN]
theorem isW_iff (x m : Nat) (hm : m ≤ 16) : isW x m = decide (x < 2 ^ m) := by
  have h := pow16 m hm
  have e : (2 : Int) ^ m = ((2 ^ m : Nat) : Int) := by simp
  rw [e] at h
  rw [Bool.eq_iff_iff]
  simp only [isW, inB, Int.toNat_natCast, Bool.and_eq_true, decide_eq_true_eq]
  rw [e]; omega
theorem cyF_stop {n : Int} {x : Nat} (h : isW x n = false) (r : Nat) (out : List Nat) : cyF n r x out = out := by
  cases r with
  | zero => rfl
  | succ r => rw [cyF, h]; simp
theorem snoc_lt {M : Nat} {out : List Nat} {x : Nat} (h : Lt M out) (hx : x < M) : Lt M (out ++ [x]) := by
  intro y hy; rcases List.mem_append.1 hy with hy | hy
  · exact h y hy
  · simp only [List.mem_singleton] at hy; omega
set_option maxHeartbeats 1000000 in
theorem implCyc_any (n p : Int) (w : World) :
    Calls Try.prog 27 #[.int .i64 n, .int .i64 p] w fun e w' => ∃ v', e = .returned (.tuple #[.agg #[.int .i64 (apN (cyOk n p) n), v'], .bool (cyOk n p)]) ∧ OI w.heap.size w' v' (apZ (cyOk n p) (cyZ n p)) ∧ Below w.heap.size w w' := by
  by_cases h1 : inB n 1 16 = true
  · have hp := inB_eq h1
    simp only [if_true] at hp
    obtain ⟨hp1, hp2⟩ := hp
    obtain ⟨m, rfl⟩ := Int.eq_ofNat_of_zero_le (show 0 ≤ n by omega)
    have hm16 : m ≤ 16 := by omega
    obtain ⟨hq1, hq2⟩ := pow16 m hm16
    by_cases h2 : inB p 1 (2 ^ m - 1) = true
    · have hx := inB_eq h2
      simp only [if_true] at hx
      obtain ⟨hx1, hx2⟩ := hx
      have h2w : isW p m = true := by simp [isW, inB]; omega
      obtain ⟨x, rfl⟩ := Int.eq_ofNat_of_zero_le (show 0 ≤ p by omega)
      have hx65 : x < 65536 := by omega
      have hxm : x < 2 ^ m := by
        have e : (2 : Int) ^ m = ((2 ^ m : Nat) : Int) := by simp
        rw [e] at hx2; omega
      by_cases h3 : (x : Int) % 2 = 0
      · have HOK := Lib.hid (show cyOk m x = false by simp [cyOk, cyB, h3])
        go_enter Try.func27, Try.ntmps27
        go_wp2_with (go_at_call 47; refine (within_any _ _ _ _).mono ?_; (first | rw [h1] | rw [h2]); rintro e w' ⟨rfl, rfl⟩)
        exact bodyPost_ret (v := .tuple #[.agg #[.int .i64 0, .slice none 0 0], .bool false]) (by simp [results, Try.results27, go_sem]) rfl ⟨.slice none 0 0, by rw [HOK.out]; rfl, by rw [HOK.out]; exact OI.nil _ _, by go_grown⟩
      · have HOK := Lib.hid (show cyOk m x = prv m (cyZ m x) by simp [cyOk, cyB, h1, h2w, h3])
        have h3b : (((x : Int) % 2) == 0) = false := by simpa using h3
        have Hx := Lib.hid h3
        clear h3
        go_enter Try.func27, Try.ntmps27
        go_wp2_with (go_at_call 47; refine (within_any _ _ _ _).mono ?_; (first | rw [h1] | rw [h2]); rintro e w' ⟨rfl, rfl⟩)
        have hm65 : 2 ^ m ≤ 65536 := Nat.le_trans (Nat.pow_le_pow_right (by decide) hm16) (by decide)
        have Hm := Lib.hid hm65
        have Hxm := Lib.hid hxm
        clear hq1 hq2 hm65 hxm hx2
        go_loopw [6, 7] (fun o xv wr => ∃ (r y : Nat) (out : List Nat), xv = .int .i64 y ∧ 1 ≤ y ∧ y < 131072 ∧ 2 ^ m ≤ y * 2 ^ r ∧ out.length + r ≤ 17 ∧ Lt 65536 out ∧ cyF m r y out = cyF m 17 x [] ∧ OwnI (w.heap.size + 1) wr o (ofN out) ∧ wr.heap[w.heap.size]? = some (.cells #[.int .i64 0, .slice none 0 0] 27 (0, 0)) ∧ Below w.heap.size w wr) (fun _ xv _ => 200000 - (intOf xv).toNat)
        case atStart =>
          refine ⟨17, x, [], rfl, by omega, by omega, ?_, by simp, (fun y hy => by cases hy), rfl, ?_, blk_alloc (heap_alloc_new w _), by go_grown⟩
          · have := Hm.out; omega
          · have h := own_empty (w.alloc (.cells #[.int .i64 0, .slice none 0 0] 27)) (w.heap.size + 1) (by simp)
            rw [World.size_alloc] at h; exact h
        case round =>
          obtain ⟨r, y, out, rfl, hy1, hy2, hyr, hol, hlo, hq, hown, hr, hB⟩ := hrel
          have Hq := Lib.hid hq
          have Hyr := Lib.hid hyr
          have hlt := blk_lt hr
          obtain ⟨ao, cap, rfl⟩ := hown.shape
          have Hol := Lib.hid (ofN_len out)
          clear hq hyr
          by_cases hc : y < 2 ^ m
          · have hw1 : isW y m = true := by rw [isW_iff _ _ hm16]; exact decide_eq_true hc
            have hy65 : y < 65536 := Nat.lt_of_lt_of_le hc Hm.out
            obtain ⟨r, rfl⟩ : ∃ r', r = r' + 1 := ⟨r - 1, by
              rcases Nat.eq_zero_or_pos r with h | h
              · have := Hyr.out; rw [h] at this; simp at this; omega
              · omega⟩
            have hq := Hq.out
            rw [cyF, hw1] at hq
            have Hq2 := Lib.hid hq
            have hyr := Hyr.out
            have hyr2 : 2 ^ m ≤ 2 * y * 2 ^ r := by rw [Nat.pow_succ, Nat.mul_comm (2 ^ r) 2, ← Nat.mul_assoc, Nat.mul_comm y 2] at hyr; exact hyr
            have Hyr2 := Lib.hid hyr2
            clear hq hyr hyr2 hc
            go_wp2_with (first | (go_at_call 60; refine (isWordOf_any _ _ (by omega) (by omega) _).mono ?_; rw [hw1]; rintro e w' ⟨rfl, rfl⟩) | (at_builtin; go_must (refine app_ints rfl _ _ rfl (w.heap.size + 1) w.heap.size (by omega) (.slice ao (ofN out).length cap) (ofN out) rfl hown hB _ _ [(y : Int)] rfl rfl (by rw [Hol.out]; simp; omega) (by omega) ?_)))
            intro v1 w1 hown1 hB1 hg1
            rw [ofN_snoc] at hown1
            obtain ⟨ao1, cap1, rfl⟩ := hown1.shape
            have hr1 := blk_grown hg1 (fun e => by have := (hown.lt _ e.symm).1; omega) (blk_alloc hr)
            clear hg1 hown hB hr
            go_wp2
            go_roundw
            case rel => exact ⟨r, 2 * y, out ++ [y], by rw [Int.natCast_mul, Int.mul_comm]; rfl, by omega, by omega, Hyr2.out, by simp; omega, snoc_lt hlo hy65, Hq2.out, hown1, hr1, hB1⟩
            case measure => simp [intOf] <;> omega
          · have hw1 : isW y m = false := by rw [isW_iff _ _ hm16]; exact decide_eq_false hc
            have hq := Hq.out
            rw [cyF_stop hw1] at hq
            have hz : cyZ m x = ofN out := by rw [cyZ, Int.toNat_natCast, hq]
            have ho : OI (w.heap.size + 1) wr (.slice ao (ofN out).length cap) (cyZ m x) := by rw [hz]; exact hown.oi (ofN_i64 hlo (by decide))
            clear hq hz hown hc
            go_wp2_with (go_at_call 60; refine (isWordOf_any _ _ (by omega) (by omega) _).mono ?_; rw [hw1]; rintro e w' ⟨rfl, rfl⟩)
            by_cases hpv : prv m (cyZ m x) = true
            · refine (asParity_any m _ (cyZ m x) _ ho.ri).mono ?_
              rw [hpv, apN_t, apV_t]
              rintro e w3 ⟨rfl, hb3⟩
              obtain ⟨r0, r1, q0, q1⟩ := blk2 (blk_next hb3 hr)
              have hBf := bnext hB hb3
              have hok3 := OI.below hb3 ho
              have hfin := OI.box hok3 (w.heap.size) (by omega) (.int .i64 m) (.slice ao (ofN out).length cap)
              have hfB := below_box hBf (w.heap.size) (by omega) (.int .i64 m) (.slice ao (ofN out).length cap)
              have Hf := Lib.hid hfin
              have HP := Lib.hid hpv
              clear hok3 hfin hpv
              go_wp2
              exact bodyPost_ret (v := .tuple #[.agg #[.int .i64 m, (.slice ao (ofN out).length cap)], .bool true]) (by simp [results, Try.results27, go_sem, r0, r1]) rfl ⟨(.slice ao (ofN out).length cap), by rw [HOK.out, HP.out]; rfl, by rw [HOK.out, HP.out]; exact OI.mono (by omega) Hf.out, hfB⟩
            · have hpv : prv m (cyZ m x) = false := by simpa using hpv
              refine (asParity_any m _ (cyZ m x) _ ho.ri).mono ?_
              rw [hpv, apN_f, apV_f]
              rintro e w3 ⟨rfl, hb3⟩
              obtain ⟨r0, r1, q0, q1⟩ := blk2 (blk_next hb3 hr)
              have hBf := bnext hB hb3
              have hfB := below_box hBf (w.heap.size) (by omega) (.int .i64 0) (.slice none 0 0)
              have HP := Lib.hid hpv
              clear hpv
              go_wp2
              exact bodyPost_ret (v := .tuple #[.agg #[.int .i64 0, .slice none 0 0], .bool false]) (by simp [results, Try.results27, go_sem, r0, r1]) rfl ⟨.slice none 0 0, by rw [HOK.out, HP.out]; rfl, by rw [HOK.out, HP.out]; exact OI.nil _ _, hfB⟩
    · have h2 : inB p 1 (2 ^ m - 1) = false := by simpa using h2
      have HOK := Lib.hid (show cyOk m p = false by
        have : cyB m p = false := by
          rw [Bool.eq_false_iff]; intro h
          simp only [cyB, isW, inB, Int.toNat_natCast, Bool.and_eq_true, decide_eq_true_eq] at h
          have h3 := inB_eq h2
          simp only [Bool.false_eq_true, if_false] at h3
          omega
        simp [cyOk, this])
      go_enter Try.func27, Try.ntmps27
      go_wp2_with (go_at_call 47; refine (within_any _ _ _ _).mono ?_; (first | rw [h1] | rw [h2]); rintro e w' ⟨rfl, rfl⟩)
      exact bodyPost_ret (v := .tuple #[.agg #[.int .i64 0, .slice none 0 0], .bool false]) (by simp [results, Try.results27, go_sem]) rfl ⟨.slice none 0 0, by rw [HOK.out]; rfl, by rw [HOK.out]; exact OI.nil _ _, by go_grown⟩
  · have h1 : inB n 1 16 = false := by simpa using h1
    have HOK := Lib.hid (show cyOk n p = false by simp [cyOk, cyB, h1])
    go_enter Try.func27, Try.ntmps27
    go_wp2_with (go_at_call 47; refine (within_any _ _ _ _).mono ?_; (first | rw [h1] | rw [h2]); rintro e w' ⟨rfl, rfl⟩)
    exact bodyPost_ret (v := .tuple #[.agg #[.int .i64 0, .slice none 0 0], .bool false]) (by simp [results, Try.results27, go_sem]) rfl ⟨.slice none 0 0, by rw [HOK.out]; rfl, by rw [HOK.out]; exact OI.nil _ _, by go_grown⟩
end Go.Proofs.Ytecddfaleapggaa
