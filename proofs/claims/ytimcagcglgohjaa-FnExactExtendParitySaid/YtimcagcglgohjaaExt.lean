/- ExtendParity: what the program returns. No conditions but that the slices read. -/
import Derived.Test.YtimcagcglgohjaaCyc
namespace Go.Proofs.Ytimcagcglgohjaa
open Go.RowKit
set_option maxRecDepth 100000
set_option linter.unusedVariables false
set_option linter.unusedSimpArgs false

def ext (n x : Nat) : Nat := if odd x = true then x ||| 2 ^ n else x
def exZ (n : Int) (zs : List Int) : List Int := ofN ((toN zs).map (ext n.toNat))
def exOk (n : Int) (zs : List Int) : Bool := prv n zs && prv (n + 1) (exZ n zs)
theorem exZ_len (n : Int) (zs : List Int) : (apZ (exOk n zs) (exZ n zs)).length ≤ 16777216 := apZ_len fun h => by
  simp only [exOk, Bool.and_eq_true] at h; exact prv_len h.2
theorem ext_lt {n x : Nat} (hn : n ≤ 16) (hx : x < 2 ^ n) : ext n x < 131072 := by
  have h1 : 2 ^ n ≤ 2 ^ 16 := Nat.pow_le_pow_right (by decide) hn
  have h2 : x ||| 2 ^ n < 2 ^ 17 := Nat.or_lt_two_pow (by omega) (by omega)
  unfold ext; split <;> omega
theorem or_i64_pow (x n : Nat) (hx : x < 65536) (hn : n ≤ 16) : bits .or .i64 (x : Int) (2 ^ n) = ((x ||| 2 ^ n : Nat) : Int) := by
  have h1 : 2 ^ n ≤ 2 ^ 16 := Nat.pow_le_pow_right (by decide) hn
  have e : (2 : Int) ^ n = ((2 ^ n : Nat) : Int) := by simp
  rw [e]; exact or_i64_nat x (2 ^ n) (by omega) (by omega)
theorem nn_of2 {zs : List Int} (h : zs = ofN (toN zs)) : ∀ z ∈ zs, 0 ≤ z := by rw [h]; intro z hz; obtain ⟨y, _, rfl⟩ := List.mem_map.1 hz; omega
theorem map_take_succ {α β : Type} (f : α → β) (xs : List α) (i : Nat) (h : i < xs.length) : (xs.map f).take i ++ [f xs[i]] = (xs.map f).take (i + 1) := by
  rw [List.take_succ_eq_append_getElem (by simpa using h), List.getElem_map]
set_option maxHeartbeats 2000000 in
theorem implExt_any (n : Int) (v : Value) (zs : List Int) (w : World) (h : RI w v zs) :
    Calls Try.prog 7 #[.agg #[.int .i64 n, v]] w fun e w' => ∃ v', e = .returned (.tuple #[.agg #[.int .i64 (apN (exOk n zs) (n + 1)), v'], .bool (exOk n zs)]) ∧ OI w.heap.size w' v' (apZ (exOk n zs) (exZ n zs)) ∧ Below w.heap.size w w' := by
  obtain ⟨ao, cap, rfl⟩ := h.shape
  have hb : ∀ o o', Below w.heap.size w ((w.alloc o).alloc o') := fun o o' => by go_grown
  have g := h.below (hb (.cells #[.int .i64 n, .slice ao zs.length cap] 26) (.cells #[.int .i64 0, .slice none 0 0] 26))
  by_cases hc : prv n zs = true
  · obtain ⟨m, rfl, hm1, hm2, hl1, hl8, hzs, hlt, hk⟩ := prv_parts hc
    have HOK := Lib.hid (show exOk m zs = prv ((m : Int) + 1) (exZ m zs) by simp [exOk, hc])
    have Hlt := Lib.hid hlt
    have Ht := Lib.hid (toN_len zs)
    have hm65 : 2 ^ m ≤ 65536 := Nat.le_trans (Nat.pow_le_pow_right (by decide) hm2) (by decide)
    have gN := Lib.hid (h.2.toN (nn_of2 hzs))
    clear hzs hlt hk
    go_enter Try.func7, Try.ntmps7
    go_wp2_with fail
    refine (implParity_any _ _ zs _ g).mono ?_
    rw [hc]
    rintro e w1 ⟨rfl, hb1⟩
    have hr := blk_next hb1 (box_second w _ _ _ _)
    have hp := blk_next hb1 (blk_alloc (heap_alloc_new w (.cells #[.int .i64 m, .slice ao zs.length cap] 26)) (o' := .cells #[.int .i64 0, .slice none 0 0] 26))
    have hB : Below w.heap.size w w1 := bnext (hb _ _) hb1
    have hlt0 : w.heap.size + 1 < w1.heap.size := blk_lt hr
    have hlt00 : w.heap.size < w1.heap.size := by omega
    clear hc hb1 g
    obtain ⟨k0, k1, -, -⟩ := blk2 hp
    go_wp2_with fail
    go_loopw [4, 15] (fun o iv wr => ∃ i : Nat, iv = .int .i64 i ∧ i ≤ zs.length ∧ OwnI w1.heap.size wr o (ofN (((toN zs).map (ext m)).take i)) ∧ Below w1.heap.size w1 wr) (fun _ iv _ => zs.length - (intOf iv).toNat)
    case atStart => exact ⟨0, rfl, Nat.zero_le _, own_empty w1 _ (Nat.le_refl _), by go_grown⟩
    case round =>
      obtain ⟨i, rfl, hi, hown, hB1⟩ := hrel
      obtain ⟨ao1, cap1, rfl⟩ := hown.shape
      have k0 := cnext hB1 k0
      have k1 := cnext hB1 k1
      have hs1 := hB1.size
      have Hol := Lib.hid (show (ofN (((toN zs).map (ext m)).take i)).length ≤ zs.length by rw [ofN_len, List.length_take, List.length_map, Ht.out]; omega)
      by_cases hil : i < zs.length
      · obtain ⟨b0, o0, rfl, -, hcs⟩ := (gN.out.below (bnext hB hB1)).cells (by rw [Ht.out]; omega)
        have hit : i < (toN zs).length := by rw [Ht.out]; exact hil
        have ci := hcs i hit
        have hx := Hlt.out.at i hit
        have hst := map_take_succ (ext m) (toN zs) i hit
        have hel := ext_lt hm2 hx
        have hx65 := Nat.lt_of_lt_of_le hx hm65
        have eo := or_i64_pow (toN zs)[i] m hx65 hm2
        generalize (toN zs)[i] = x at *
        have Hst := Lib.hid hst
        clear hst hcs hx
        obtain ⟨hq1, hq2⟩ := pow16 m hm2
        by_cases hd : odd x = true
        · have he : ext m x = x ||| 2 ^ m := by unfold ext; rw [if_pos hd]
          rw [he] at hel
          have He := Lib.hid he
          clear he
          go_wp2_with (first | (go_at_call 17; refine (isOdd_any x hx65 _).mono ?_; rw [hd]; rintro e w' ⟨rfl, rfl⟩) | (at_builtin; go_must (refine app_ints rfl _ _ rfl w1.heap.size w1.heap.size (Nat.le_refl _) (.slice ao1 (ofN (((toN zs).map (ext m)).take i)).length cap1) (ofN (((toN zs).map (ext m)).take i)) rfl hown hB1 _ _ [((x ||| 2 ^ m : Nat) : Int)] rfl rfl (by have := Hol.out; simp only [List.length_cons, List.length_nil]; omega) hs1 ?_)))
          intro v' w' hown' hB' hg'
          rw [← He.out, ofN_snoc, Hst.out] at hown'
          obtain ⟨ao2, cap2, rfl⟩ := hown'.shape
          clear hg' hown hB1 eo
          go_wp2
          go_roundw
          case rel => exact ⟨i + 1, by go_num, by omega, hown', hB'⟩
          case measure => simp [intOf] <;> omega
        · have hd : odd x = false := by simpa using hd
          have he : ext m x = x := by unfold ext; rw [hd]; rfl
          have He := Lib.hid he
          clear he eo
          go_wp2_with (first | (go_at_call 17; refine (isOdd_any x hx65 _).mono ?_; rw [hd]; rintro e w' ⟨rfl, rfl⟩) | (at_builtin; go_must (refine app_ints rfl _ _ rfl w1.heap.size w1.heap.size (Nat.le_refl _) (.slice ao1 (ofN (((toN zs).map (ext m)).take i)).length cap1) (ofN (((toN zs).map (ext m)).take i)) rfl hown hB1 _ _ [(x : Int)] rfl rfl (by have := Hol.out; simp only [List.length_cons, List.length_nil]; omega) hs1 ?_)))
          intro v' w' hown' hB' hg'
          rw [ofN_snoc] at hown'
          have hst := Hst.out
          rw [He.out] at hst
          rw [hst] at hown'
          obtain ⟨ao2, cap2, rfl⟩ := hown'.shape
          clear hg' hown hB1 hst
          go_wp2
          go_roundw
          case rel => exact ⟨i + 1, by go_num, by omega, hown', hB'⟩
          case measure => simp [intOf] <;> omega
      · have hz : exZ m zs = ofN (((toN zs).map (ext m)).take i) := by rw [exZ, Int.toNat_natCast, List.take_of_length_le (by rw [List.length_map, Ht.out]; omega)]
        have hi64 : AllI64 (ofN (((toN zs).map (ext m)).take i)) := ofN_i64 (M := 131072) (fun y hy => by
          obtain ⟨x, hx, rfl⟩ := List.mem_map.1 (List.mem_of_mem_take hy)
          exact ext_lt hm2 (Hlt.out x hx)) (by decide)
        have ho : OI w1.heap.size wr (.slice ao1 (ofN (((toN zs).map (ext m)).take i)).length cap1) (exZ m zs) := by rw [hz]; exact hown.oi hi64
        have hr2 := blk_next hB1 hr
        have hB2 := bnext hB hB1
        clear hz hi64 hown
        go_wp2_with fail
        by_cases hpv : prv ((m : Int) + 1) (exZ m zs) = true
        · (with_reducible refine Calls.mono (asParity_any ((m : Int) + 1) _ (exZ m zs) _ ho.ri) ?_)
          rw [hpv, apN_t, apV_t]
          rintro e w3 ⟨rfl, hb3⟩
          obtain ⟨r0, r1, q0, q1⟩ := blk2 (blk_next hb3 hr2)
          have hBf := bnext hB2 hb3
          have hok3 := OI.below hb3 ho
          have hfin := OI.box hok3 (w.heap.size + 1) (by omega) (.int .i64 ((m : Int) + 1)) (.slice ao1 (ofN (((toN zs).map (ext m)).take i)).length cap1)
          have hfB := below_box hBf (w.heap.size + 1) (by omega) (.int .i64 ((m : Int) + 1)) (.slice ao1 (ofN (((toN zs).map (ext m)).take i)).length cap1)
          have Hf := Lib.hid hfin
          have HP := Lib.hid hpv
          clear hok3 hfin hpv
          go_wp2
          exact bodyPost_ret (v := .tuple #[.agg #[.int .i64 ((m : Int) + 1), (.slice ao1 (ofN (((toN zs).map (ext m)).take i)).length cap1)], .bool true]) (by simp [results, Try.results7, go_sem, r0, r1]) rfl ⟨(.slice ao1 (ofN (((toN zs).map (ext m)).take i)).length cap1), by rw [HOK.out, HP.out]; rfl, by rw [HOK.out, HP.out]; exact OI.mono (by omega) Hf.out, hfB⟩
        · have hpv : prv ((m : Int) + 1) (exZ m zs) = false := by simpa using hpv
          (with_reducible refine Calls.mono (asParity_any ((m : Int) + 1) _ (exZ m zs) _ ho.ri) ?_)
          rw [hpv, apN_f, apV_f]
          rintro e w3 ⟨rfl, hb3⟩
          obtain ⟨r0, r1, q0, q1⟩ := blk2 (blk_next hb3 hr2)
          have hBf := bnext hB2 hb3
          have hfB := below_box hBf (w.heap.size + 1) (by omega) (.int .i64 0) (.slice none 0 0)
          have HP := Lib.hid hpv
          clear hpv
          go_wp2
          exact bodyPost_ret (v := .tuple #[.agg #[.int .i64 0, .slice none 0 0], .bool false]) (by simp [results, Try.results7, go_sem, r0, r1]) rfl ⟨.slice none 0 0, by rw [HOK.out, HP.out]; rfl, by rw [HOK.out, HP.out]; exact OI.nil _ _, hfB⟩
  · have hc : prv n zs = false := by simpa using hc
    have HOK := Lib.hid (show exOk n zs = false by simp [exOk, hc])
    go_enter Try.func7, Try.ntmps7
    go_wp2_with fail
    refine (implParity_any _ _ zs _ g).mono ?_
    rw [hc]
    rintro e w1 ⟨rfl, hb1⟩
    obtain ⟨r0, r1, q0, q1⟩ := blk2 (blk_next hb1 (box_second w _ _ _ _))
    have hB : Below w.heap.size w w1 := bnext (hb _ _) hb1
    have hfB := below_box hB (w.heap.size + 1) (by omega) (.int .i64 0) (.slice none 0 0)
    go_wp2
    exact bodyPost_ret (v := .tuple #[.agg #[.int .i64 0, .slice none 0 0], .bool false]) (by simp [results, Try.results7, go_sem, r0, r1]) rfl ⟨.slice none 0 0, by rw [HOK.out]; rfl, by rw [HOK.out]; exact OI.nil _ _, hfB⟩
end Go.Proofs.Ytimcagcglgohjaa
