/- Even counts, and how often each letter is in a text. No conditions but that the slices read. -/
import Derived.Test.YtbhconogaoghmaaCounts
import Derived.Test.YtbhconogaoghmaaOwn
import Derived.Laws.CopyOwn
import Derived.StillTailTactics
namespace Go.Proofs.Ytbhconogaoghmaa
open Go.RowKit
set_option maxRecDepth 100000
set_option linter.unusedVariables false
set_option linter.unusedSimpArgs false

def ones (n : Nat) : List Int := List.replicate n 1
def evN (a : Int) : Int := if sgn a = true then a else 0
def evZ (a : Int) : List Int := if sgn a = true then ones a.toNat else []
theorem sgn_bd {a : Int} (h : sgn a = true) : 2 ≤ a ∧ a ≤ 16 := by have := inB_eq h; simpa using this
theorem evZ_len (a : Int) : (evZ a).length ≤ 16777216 := by
  unfold evZ; split
  · have := sgn_bd ‹_›; simp [ones]; omega
  · simp
theorem ones_i64 (n : Nat) : AllI64 (ones n) := by
  intro z hz; rw [List.eq_of_mem_replicate hz]; constructor <;> decide
theorem ones_succ (n : Nat) : ones n ++ [1] = ones (n + 1) := by unfold ones; rw [← List.replicate_succ']
set_option maxHeartbeats 1000000 in
theorem mul64_one (n : Nat) (hn : n ≤ 65536) (w : World) :
    Calls Try.prog 69 #[.int .u64 1, .int .u64 n] w fun e w' => e = .returned (.tuple #[.int .u64 0, .int .u64 n]) ∧ w = w' := by
  have b1 : bits .and .u64 1 4294967295 = 1 := by decide +kernel
  have b0 : bits .and .u64 0 4294967295 = 0 := by decide +kernel
  have b2 : bits .and .u64 (n : Int) 4294967295 = (n : Int) := by
    have h := u64_and_nat n 4294967295 (by omega) (by decide)
    rw [show n &&& 4294967295 = n % 2 ^ 32 from Nat.and_two_pow_sub_one_eq_mod n 32, Nat.mod_eq_of_lt (by omega)] at h
    exact h
  have d : (n : Int) / 4294967296 = 0 := by omega
  go_enter Try.func69, Try.ntmps69
  go_wp2
  go_ret2
  exact ⟨rfl, rfl⟩
set_option maxHeartbeats 1000000 in
theorem mul_one_any (n : Nat) (hn : n ≤ 65536) (w : World) :
    Calls Try.prog 66 #[.int .u64 1, .int .u64 n] w fun e w' => e = .returned (.tuple #[.int .u64 0, .int .u64 n]) ∧ w = w' := by
  go_enter Try.func66, Try.ntmps66
  go_wp2_with (go_at_call 69; refine (mul64_one n hn _).mono ?_; rintro e w' ⟨rfl, rfl⟩)
  go_ret2
  exact ⟨rfl, rfl⟩
theorem fill_rep (n : Nat) (x : Int) (k : Nat) (hk : k ≤ n) : fill (List.replicate n x) 0 k = List.replicate k x ++ List.replicate (n - k) 0 := by
  unfold fill; rw [List.take_replicate, List.length_replicate, Nat.min_eq_left hk]
theorem splice_rep (k r m : Nat) (x y : Int) : (List.replicate k x ++ List.replicate r y).take k ++ (List.replicate m x ++ (List.replicate k x ++ List.replicate r y).drop (k + (List.replicate m x).length)) = List.replicate (k + m) x ++ List.replicate (r - m) y := by
  rw [List.take_append_of_le_length (by simp), List.take_of_length_le (by simp), List.length_replicate, List.drop_append, List.drop_of_length_le (by simp), List.length_replicate, List.drop_replicate, List.nil_append, show r - (k + m - k) = r - m by omega, ← List.append_assoc, List.replicate_append_replicate]
set_option maxHeartbeats 1000000 in
theorem repeat_any (x : Int) (hx : I64 x) (B n : Nat) (hn : n ≤ 65536) (hn1 : 1 ≤ n) (w : World) (hc : w.cell? ⟨B, 0, none⟩ = some (.int .i64 x)) :
    Calls Try.prog 62 #[.slice (some ⟨B, 0, none⟩) 1 1, .int .i64 n] w fun e w' => ∃ v', e = .returned v' ∧ OI w.heap.size w' v' (List.replicate n x) ∧ Below w.heap.size w w' := by
  obtain ⟨i0, hi, hz0, hz1, hz2⟩ := info_parts info_int
  go_enter Try.func62, Try.ntmps62
  go_wp2_with (first | (go_at_call 66; refine (mul_one_any n hn _).mono ?_; rintro e w' ⟨rfl, rfl⟩) | (at_make; refine wpList_make_full _ rfl _ _ 25 rfl w.heap.size 2 i0 (.int .i64 0) 1 Try.underlying25 hi hz0 hz1 _ _ _ _ n rfl rfl rfl rfl (by rw [hz2]; omega) (by unfold maxLen; omega) (Nat.le_refl _) ?_))
  intro w1 hown hg
  have hB := grow_below hg
  obtain ⟨cur, hcur⟩ : ∃ cur : Array Value, w1.heap[w.heap.size]? = some (.cells cur 2 (0, 0)) ∧ cur.toList = (List.replicate n (0 : Int)).map (Value.int .i64) := by
    rcases hown.2 with ⟨h, _⟩ | ⟨g, cap, cur, h, _, hg, _, _, hs, ht⟩
    · simp at h
    · simp only [Value.slice.injEq, Option.some.injEq, Addr.mk.injEq, and_true, true_and] at h
      obtain ⟨rfl, rfl⟩ := h
      refine ⟨cur, hg, ?_⟩
      rw [List.take_of_length_le (by simp [hs])] at ht
      rw [ht]; simp [toList_madeCells_one]
  obtain ⟨hcur, hlist⟩ := hcur
  have hcx : w1.cell? ⟨B, 0, none⟩ = some (.int .i64 x) := cnext hB hc
  clear hown hg
  go_wp2_with (with_reducible refine wpList_copy_own rfl _ _ 25 25 rfl 2 Try.underlying25 (by kernel_rfl) w.heap.size 0 n n ⟨B, 0, none⟩ 1 1 rfl rfl cur 2 hcur [.int .i64 x] ?c1 ?c2 ?c3 ?c4 ?_)
  case c1 => show 1 = min 1 n; omega
  case c2 =>
    intro j u hj
    match j, hj with
    | 0, hj => simp at hj; subst hj; simpa [Addr.add] using hcx
  case c3 => have := congrArg List.length hlist; simp at this; simp; omega
  case c4 => intro u hu; simp at hu; subst hu; rfl
  have hrow := setRow_heap w1 w.heap.size cur (Value.int .i64 x :: List.replicate (n - 1) (Value.int .i64 0)).toArray 2 (0, 0) hcur
  have hB2 := below_setRow hB (Nat.le_refl w.heap.size) (Value.int .i64 x :: List.replicate (n - 1) (Value.int .i64 0)).toArray
  have hfl : (Value.int .i64 x :: List.replicate (n - 1) (Value.int .i64 0)) = (fill (List.replicate n x) 0 1).map (Value.int .i64) := by
    obtain ⟨m, rfl⟩ : ∃ m, n = m + 1 := ⟨n - 1, by omega⟩
    simp [fill, List.replicate_succ]
  have Hfl := Lib.hid hfl
  clear hfl hlist hcur hcx hB hc
  go_loopw [8] (fun m wr => ∃ k : Nat, 1 ≤ k ∧ k ≤ n ∧ m = .int .i64 k ∧ wr.heap[w.heap.size]? = some (.cells ((fill (List.replicate n x) 0 k).map (Value.int .i64)).toArray 2 (0, 0)) ∧ Below w.heap.size w wr) (fun m _ => n - (intOf m).toNat)
  case atStart => exact ⟨1, by omega, by omega, rfl, by rw [← Hfl.out]; exact hrow, hB2⟩
  case round =>
    clear hrow hB2
    obtain ⟨k, hk1, hk, rfl, hrow, hB⟩ := hrel
    by_cases hlt : k < n
    · have hlt' : (k : Int) < (n : Int) := by omega
      have hk0 : (0 : Int) ≤ (k : Int) := by omega
      have hkn : (k : Int) ≤ (n : Int) := by omega
      have hkn' : ¬ n = k := by omega
      have hmin : min k (n - k) ≤ n - k := Nat.min_le_right _ _
      have hmin1 : min k (n - k) ≤ k := Nat.min_le_left _ _
      have hfl := fill_len (List.replicate n x) 0 k (by simpa using hk)
      have hsrc : ∀ j v, (List.replicate (min k (n - k)) (Value.int .i64 x))[j]? = some v → wr.cell? ((⟨w.heap.size, 0, none⟩ : Addr).add j) = some v := by
        intro j v hv
        have hj : j < min k (n - k) := by simpa using (List.getElem?_eq_some_iff.1 hv).1
        have hv' : v = .int .i64 x := (List.eq_of_mem_replicate (List.mem_of_getElem? hv))
        rw [Addr.add_lit, cell_of_row _ _ _ _ _ _ hrow, hv']
        simp only [List.getElem?_toArray, List.getElem?_map, Nat.zero_add]
        have hl : j < (List.take k (List.replicate n x)).length := by rw [List.length_take, List.length_replicate]; omega
        rw [fill, List.getElem?_append_left hl, List.getElem?_take, if_pos (by omega), List.getElem?_replicate, if_pos (by omega)]
        rfl
      have q2 : k + (List.replicate (min k (n - k)) (Value.int .i64 x)).length ≤ ((fill (List.replicate n x) 0 k).map (Value.int .i64)).length := by
        rw [List.length_map, hfl, List.length_replicate, List.length_replicate]; omega
      have q3 : ∀ v ∈ List.replicate (min k (n - k)) (Value.int .i64 x), v.oneCell' = true := fun v hv => by rw [List.eq_of_mem_replicate hv]; rfl
      have q4 : (List.replicate (min k (n - k)) (Value.int .i64 x)).length = Nat.min k (n - k) := by rw [List.length_replicate]
      have Hsrc := Lib.hid hsrc
      have Q2 := Lib.hid q2
      have Q3 := Lib.hid q3
      have Q4 := Lib.hid q4
      clear q2 q3 q4 hsrc hfl
      go_wp2_with fail
      go_region_law (go_loud (refine step_copy_splice rfl (.tmp 41) (.tmp 44) 25 25 rfl 2 Try.underlying25 (by kernel_rfl) (some ⟨w.heap.size, k, none⟩) (some ⟨w.heap.size, 0, none⟩) (n - k) (n - k) k n (by simp [Act.eval, Act.put, hkn']) (by simp [Act.eval, Act.put]) w.heap.size k ((fill (List.replicate n x) 0 k).map (Value.int .i64)) 2 hrow (List.replicate (min k (n - k)) (.int .i64 x)) Q4.out (fun _ => ⟨rfl, _, rfl, Hsrc.out⟩) Q2.out Q3.out w.heap.size w hB.drew (Nat.le_refl _) ?_; intro w3 hw3 hB3))
      have hsp : splice ((fill (List.replicate n x) 0 k).map (Value.int .i64)) k (List.replicate (min k (n - k)) (Value.int .i64 x)) = (fill (List.replicate n x) 0 (k + min k (n - k))).map (Value.int .i64) := by
        have e1 : List.replicate (min k (n - k)) (Value.int .i64 x) = (List.replicate (min k (n - k)) x).map (Value.int .i64) := by simp
        unfold splice
        rw [e1, ← List.map_take, ← List.map_drop, ← List.map_append, ← List.map_append]
        rw [List.length_map, fill_rep _ _ _ hk, fill_rep _ _ _ (by omega), splice_rep]
        rw [show n - k - min k (n - k) = n - (k + min k (n - k)) by omega]
      have hlen : (List.replicate (min k (n - k)) (Value.int .i64 x)).length = min k (n - k) := by simp
      have Hlen := Lib.hid hlen
      have Hsp := Lib.hid hsp
      clear hlen hsp
      go_wp2
      refine ⟨?_, ?_⟩
      · (repeat apply Exists.intro)
        refine ⟨⟨k + min k (n - k), ?_, ?_, ?_, ?_, ?_⟩, rfl⟩
        · omega
        · omega
        · rw [IntWalk.i64_in _ (by omega)]; go_num
        · have h := Hid.out (by assumption : Hid (w3.heap[w.heap.size]? = _)); rw [Hsp.out] at h; exact h
        · assumption
      · show n - (IntKind.i64.wrap ((k : Int) + ((min k (n - k) : Nat) : Int))).toNat < n - (intOf (.int .i64 k)).toNat
        rw [IntWalk.i64_in _ (by omega)]
        simp only [intOf]; omega
    · go_wp2
      go_ret
      obtain rfl : k = n := by omega
      refine ⟨.slice (some ⟨w.heap.size, 0, none⟩) k k, rfl, ⟨?_, Og.own (e := 2) ⟨by simp, .inr ⟨w.heap.size, k, ((fill (List.replicate k x) 0 k).map (Value.int .i64)).toArray, by rw [List.length_replicate], Nat.le_refl _, hrow, Nat.le_of_eq (List.length_replicate ..), by unfold maxLen; omega, ?_, ?_⟩⟩⟩, hB⟩
      · intro z hz; rw [List.eq_of_mem_replicate hz]; exact hx
      · simp [fill]
      · simp [fill]

set_option maxHeartbeats 1000000 in
theorem even_any (n : Nat) (hn : n ≤ 16) (hn1 : 1 ≤ n) (w : World) :
    Calls Try.prog 42 #[.int .i64 n] w fun e w' => ∃ v', e = .returned (.agg #[.int .i64 n, v']) ∧ OI w.heap.size w' v' (ones n) ∧ Below w.heap.size w w' := by
  go_enter Try.func42, Try.ntmps42
  go_wp2_with fail
  refine (repeat_any 1 (by constructor <;> decide) _ n (by omega) hn1 _ (by simp [go_sem])).mono ?_
  rintro e w1 ⟨v', rfl, ho, hb⟩
  obtain ⟨ao, cap, rfl⟩ := ho.shape
  have r0 : w1.cell? ⟨w.heap.size, 0, none⟩ = some (.int .i64 0) := cnext hb (by simp [go_sem])
  have r1 : w1.cell? ⟨w.heap.size, 1, none⟩ = some (.slice none 0 0) := cnext hb (by simp [go_sem])
  have q0 : w1.frozen? ⟨w.heap.size, 0, none⟩ = false := (hb.frozen (p := ⟨w.heap.size, 0, none⟩) (by simp only [World.size_alloc]; omega)).trans (by simp [go_sem])
  have q1 : w1.frozen? ⟨w.heap.size, 1, none⟩ = false := (hb.frozen (p := ⟨w.heap.size, 1, none⟩) (by simp only [World.size_alloc]; omega)).trans (by simp [go_sem])
  have hB : Below w.heap.size w w1 := bnext (by go_grown) hb
  simp only [World.size_alloc] at ho
  go_wp2
  refine bodyPost_ret (v := .agg #[.int .i64 n, .slice ao (List.replicate n (1 : Int)).length cap]) (by simp [results, Try.results42, go_sem, r0, r1]) rfl ⟨_, rfl, ?_, ?_⟩
  · exact OI.mono (by omega) (OI.set (OI.set ho ⟨w.heap.size, 0, none⟩ _ (by show w.heap.size < _; omega)) ⟨w.heap.size, 1, none⟩ _ (by show w.heap.size < _; omega))
  · exact (hB.setCell (p := ⟨w.heap.size, 0, none⟩) (Nat.le_refl _) _).setCell (p := ⟨w.heap.size, 1, none⟩) (Nat.le_refl _) _
end Go.Proofs.Ytbhconogaoghmaa
