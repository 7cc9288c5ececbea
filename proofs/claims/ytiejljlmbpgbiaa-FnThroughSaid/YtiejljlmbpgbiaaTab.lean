/- Tables in the program: a row, whether they are valid, the sums of rows. Conditions: a table of few rows and columns, its chances numbers. -/
import Derived.Test.YtiejljlmbpgbiaaGive
import Derived.Test.YtiejljlmbpgbiaaThrI
namespace Go.Proofs.Ytiejljlmbpgbiaa
open Go.RowKit
set_option maxRecDepth 100000
set_option linter.unusedVariables false
set_option linter.unusedSimpArgs false

/-- A table's chances. -/
structure TabN (n m : Nat) (xs : List Nat) : Prop where
  n1 : 1 ≤ n
  n8 : n ≤ 8
  m1 : 1 ≤ m
  m8 : m ≤ 8
  len : xs.length = n * m
  num : AllNum xs
theorem TabN.sz {n m : Nat} {xs : List Nat} (h : TabN n m xs) : n * m ≤ 64 := Nat.mul_le_mul h.n8 h.m8
theorem AllNum.rowL {xs : List Nat} (h : AllNum xs) (m i : Nat) : AllNum (rowL xs m i) := fun x hx => h x (List.mem_of_mem_drop (List.mem_of_mem_take hx))
/-- The sums of rows. -/
def rsL (xs : List Nat) (n m : Nat) : List Nat := (List.range n).map fun i => sumF 0 (rowL xs m i)
theorem rsL_len (xs : List Nat) (n m : Nat) : (rsL xs n m).length = n := by simp [rsL]
theorem rsL_snoc (xs : List Nat) (n m : Nat) : rsL xs (n + 1) m = rsL xs n m ++ [sumF 0 (rowL xs m n)] := by simp [rsL, List.range_succ]
set_option maxHeartbeats 400000 in
theorem tabRow_at (n m i : Nat) (b off len cap : Nat) (w : World) (hn : n ≤ 8) (hm : m ≤ 8) (h1 : 1 ≤ m) (hx : len = n * m) (hi : i < n) (hc1 : len ≤ cap) (hc2 : cap ≤ maxLen) :
    Calls Try.prog 54 #[.agg #[.int .i64 n, .int .i64 m, .slice (some ⟨b, off, none⟩) len cap], .int .i64 i] w fun e w' => e = .returned (.slice (some ⟨b, off + i * m, none⟩) m m) ∧ Below w.heap.size w w' := by
  have hb : ∀ o, Below w.heap.size w (w.alloc o) := fun o => by go_grown
  obtain ⟨lo, hlo, l1, l2, e1, e2⟩ := row_nums hi hn hm
  rw [← hlo]
  have hm2 : cap ≤ 9223372036854775807 := by unfold maxLen at hc2; omega
  have hq : lo + m ≤ cap := by omega
  have Hlo := Lib.hid hlo
  clear hlo hx
  go_enter Try.func54, Try.ntmps54
  go_wp2
  go_ret
  exact ⟨congrArg (fun q => Ending.returned (Value.slice (some ⟨b, off + lo, none⟩) q q)) (Nat.add_sub_cancel_left lo m), hb _⟩
/-- The row of a table, read. -/
theorem tabRow_any (n m i : Nat) (v : Value) (xs : List Nat) (w : World) (h : Rg eF w v xs) (ht : TabN n m xs) (hi : i < n) :
    Calls Try.prog 54 #[.agg #[.int .i64 n, .int .i64 m, v], .int .i64 i] w fun e w' => ∃ v', e = .returned v' ∧ Rg eF w' v' (rowL xs m i) ∧ (∃ ao, v' = .slice ao m m) ∧ Below w.heap.size w w' := by
  have hx := ht.len
  have hl := at_lt (k := 0) hi ht.m1
  obtain ⟨ao, cap, rfl⟩ := h.shape
  obtain ⟨b, off, rfl, -, c1, c2, hs⟩ := h.sub (i * m) m ht.m1 (by rw [hx]; have : (i + 1) * m ≤ n * m := Nat.mul_le_mul_right _ hi; rw [Nat.add_mul] at this; omega)
  refine (tabRow_at n m i b off xs.length cap w ht.n8 ht.m8 ht.m1 hx hi c1 c2).mono ?_
  rintro e w' ⟨rfl, hb⟩
  exact ⟨_, rfl, (hs m (Nat.le_refl _) (by have := ht.m8; unfold maxLen; omega)).below hb, ⟨_, rfl⟩, hb⟩
set_option maxHeartbeats 1000000 in
theorem validTab_yes (n m : Nat) (v : Value) (xs : List Nat) (w : World) (h : Rg eF w v xs) (ht : TabN n m xs) (ho : oneW xs = true) :
    Calls Try.prog 51 #[.agg #[.int .i64 n, .int .i64 m, v]] w fun e w' => e = .returned (.bool true) ∧ Below w.heap.size w w' := by
  have hb : ∀ o, Below w.heap.size w (w.alloc o) := fun o => by go_grown
  have h1 : inB (n : Int) 1 8 = true := by have := ht.n1; have := ht.n8; unfold inB; simp; omega
  have h2 : inB (m : Int) 1 8 = true := by have := ht.m1; have := ht.m8; unfold inB; simp; omega
  have hsz := ht.sz
  obtain ⟨q, hq0⟩ : ∃ q, q = n * m := ⟨_, rfl⟩
  have hmul : ((n : Int) * m) = (q : Int) := by rw [hq0]; exact (Int.natCast_mul n m).symm
  have hq64 : q ≤ 64 := by omega
  have hx : xs.length = q := by rw [hq0]; exact ht.len
  obtain ⟨ao, cap, rfl⟩ := h.shape
  have hR := Lib.hid h
  have Ho := Lib.hid ho
  have hne : ((xs.length : Int) == (q : Int)) = true := by rw [hx]; simp
  have hne' : (xs.length == q) = true := by rw [hx]; simp
  have hn8 := ht.n8
  have hm8 := ht.m8
  have Hx := Lib.hid hx
  clear h ho hq0 ht hx
  go_enter Try.func51, Try.ntmps51
  go_wp2_with (first | (go_at_call 31; refine (within_any _ _ _ _).mono ?_; (first | rw [h1] | rw [h2]); rintro e w' ⟨rfl, rfl⟩) | (go_at_call 57; refine (isOne_any _ xs _ (hR.out.below (hb _))).mono ?_; rw [Ho.out]; rintro e w' ⟨rfl, k, rfl⟩))
  go_ret
  exact ⟨rfl, bnext (hb _) (below_drewN _ _)⟩
set_option maxHeartbeats 1000000 in
theorem asTab_yes (n m : Nat) (v : Value) (xs : List Nat) (w : World) (h : Rg eF w v xs) (ht : TabN n m xs) (ho : oneW xs = true) :
    Calls Try.prog 29 #[.agg #[.int .i64 n, .int .i64 m, v]] w fun e w' => e = .returned (.tuple #[.agg #[.int .i64 n, .int .i64 m, v], .bool true]) ∧ Below w.heap.size w w' := by
  obtain ⟨ao, cap, rfl⟩ := h.shape
  have hb : ∀ o o', Below w.heap.size w ((w.alloc o).alloc o') := fun o o' => by go_grown
  have g := h.below (hb (.cells #[.int .i64 n, .int .i64 m, .slice ao xs.length cap] 33) (.cells #[.int .i64 0, .int .i64 0, .slice none 0 0] 33))
  have hP : ChP ((w.alloc (.cells #[.int .i64 n, .int .i64 m, .slice ao xs.length cap] 33)).alloc (.cells #[.int .i64 0, .int .i64 0, .slice none 0 0] 33)) w.heap.size n m (.slice ao xs.length cap) := ⟨by simp [go_sem], by simp [go_sem], by simp [go_sem]⟩
  have hQ : ((w.alloc (.cells #[.int .i64 n, .int .i64 m, .slice ao xs.length cap] 33)).alloc (.cells #[.int .i64 0, .int .i64 0, .slice none 0 0] 33)).heap[w.heap.size + 1]? = some (.cells #[.int .i64 0, .int .i64 0, .slice none 0 0] 33 (0, 0)) := by
    have := heap_alloc_new (w.alloc (.cells #[.int .i64 n, .int .i64 m, .slice ao xs.length cap] 33)) (.cells #[.int .i64 0, .int .i64 0, .slice none 0 0] 33)
    rwa [World.size_alloc] at this
  have HP := Lib.hid hP
  have HQ := Lib.hid hQ
  have hv := Lib.hid (validTab_yes n m _ xs _ g ht ho)
  clear hP hQ g ht ho h
  go_enter Try.func29, Try.ntmps29
  go_wp2_with fail
  refine hv.out.mono ?_
  rintro e w1 ⟨rfl, hb1⟩
  obtain ⟨r0, r1, r2, q0, q1, q2⟩ := cell3 (blk_next hb1 HQ.out)
  obtain ⟨k0, k1, k2⟩ := HP.out.below hb1
  have hB : Below w.heap.size w w1 := bnext (hb _ _) hb1
  have hfB := below3 hB (w.heap.size + 1) (Nat.le_succ _) (.int .i64 n) (.int .i64 m) (.slice ao xs.length cap)
  go_wp2
  exact bodyPost_ret (v := .tuple #[.agg #[.int .i64 n, .int .i64 m, .slice ao xs.length cap], .bool true]) (by simp [results, Try.results29, go_sem, r0, r1, r2]) rfl ⟨rfl, hfB⟩
set_option maxHeartbeats 2000000 in
theorem parts_any (n m : Nat) (v : Value) (xs : List Nat) (w : World) (h : Rg eF w v xs) (ht : TabN n m xs) :
    Calls Try.prog 69 #[.agg #[.int .i64 n, .int .i64 m, v]] w fun e w' => ∃ v', e = .returned v' ∧ OwnF w.heap.size w' v' (rsL xs n m) ∧ Below w.heap.size w w' := by
  obtain ⟨ao, cap, rfl⟩ := h.shape
  obtain ⟨w0, hw0⟩ : ∃ W, w.alloc (.cells #[.int .i64 n, .int .i64 m, .slice ao xs.length cap] 33) = W := ⟨_, rfl⟩
  have hb0 : Below w.heap.size w w0 := by rw [← hw0]; go_grown
  have hP : ChP w0 w.heap.size n m (.slice ao xs.length cap) := by rw [← hw0]; exact ⟨by simp [go_sem], by simp [go_sem], by simp [go_sem]⟩
  have H := Lib.hid (h.below hb0)
  have Ht := Lib.hid ht
  have hn8 := ht.n8
  have hs0 : w.heap.size < w0.heap.size := by rw [← hw0]; simp
  have hb1 : Below w0.heap.size w0 (w0.alloc (.cells #[] 36)) := by go_grown
  have HI := Lib.hid (And.intro (ownF_empty w0 w0.heap.size (Nat.le_refl _)) (And.intro hb1 (hP.below hb1)))
  have HB0 := Lib.hid hb0
  obtain ⟨p0, p1, p2⟩ := hP.below hb1
  have HP := Lib.hid hP
  clear h ht hb1 hP hb0
  go_enter Try.func69, Try.ntmps69
  go_wp2_with fail
  go_loopw [3, 8] (fun ov kv wr => ∃ k : Nat, kv = .int .i64 k ∧ k ≤ n ∧ OwnF w0.heap.size wr ov (rsL xs k m) ∧ Below w0.heap.size w0 wr) (fun _ kv _ => n - (intOf kv).toNat)
  case atStart => exact ⟨0, rfl, Nat.zero_le _, HI.out.1, HI.out.2.1⟩
  case round =>
    clear HI p0 p1 p2 hw0
    obtain ⟨k, rfl, hk, hown, hB⟩ := hrel
    obtain ⟨p0, p1, p2⟩ := HP.out.below hB
    obtain ⟨ao2, cap2, rfl⟩ := hown.shape
    rw [rsL_len] at hown ⊢
    have HO := Lib.hid hown
    have HB := Lib.hid hB
    have hs1 := hB.size
    clear hown hB
    by_cases hkn : k < n
    · have hknI : (k : Int) < (n : Int) := by omega
      have hrow := Lib.hid (tabRow_any n m k _ xs wr (H.out.below HB.out) Ht.out hkn)
      have hsn := Lib.hid (rsL_snoc xs k m)
      have hal := Lib.hid (AllNum.rowL Ht.out.num m k)
      go_wp2_with fail
      refine hrow.out.mono ?_
      rintro e w2 ⟨v2, rfl, hr2, ⟨ao4, rfl⟩, hb2⟩
      have HO2 := Lib.hid (own_below hb2 HO.out)
      have HB2 := Lib.hid (bnext HB.out hb2)
      have hs2 := HB2.out.size
      have Hr2 := Lib.hid hr2
      clear hr2 hb2 hrow HO HB
      go_wp2_with (first | (go_at_call 74; refine (addUp_any _ (rowL xs m k) _ Hr2.out hal.out).mono ?_; rintro e w' ⟨rfl, rfl⟩) | (at_builtin; go_must (refine app_flts rfl _ _ rfl w0.heap.size w0.heap.size (Nat.le_refl _) (.slice ao2 k cap2) (rsL xs k m) rfl HO2.out HB2.out _ _ [sumF 0 (rowL xs m k)] rfl rfl (by rw [rsL_len]; simp; omega) hs2 ?_)))
      intro v4 w4 hown4 hB4 hg4
      rw [← hsn.out] at hown4
      obtain ⟨ao5, cap5, rfl⟩ := hown4.shape
      rw [rsL_len] at hown4 ⊢
      have HO4 := Lib.hid hown4
      have HB4 := Lib.hid hB4
      clear hown4 hB4 hg4 HO2 HB2
      go_wp2
      go_roundw
      case rel => exact ⟨k + 1, by go_num, by omega, HO4.out, HB4.out⟩
      case measure => simp [intOf]; omega
    · have hknI : ¬ (k : Int) < (n : Int) := by omega
      have hkn2 : k = n := by omega
      have Hkn := Lib.hid hkn2
      clear hkn2
      go_wp2
      go_ret
      refine ⟨_, rfl, ?_, bnext HB0.out HB.out⟩
      have := HO.out
      rw [← Hkn.out]
      exact ⟨this.1, this.2.imp id fun ⟨g, cap, cur, a, c, d⟩ => ⟨g, cap, cur, a, Nat.le_trans (Nat.le_of_lt hs0) c, d⟩⟩
end Go.Proofs.Ytiejljlmbpgbiaa
