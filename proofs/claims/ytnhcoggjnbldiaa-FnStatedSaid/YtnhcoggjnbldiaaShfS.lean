/- SharesOf: the reference. UNDER WAY. No conditions but that the slices read. -/
import Derived.Test.YtnhcoggjnbldiaaShoP
import Derived.Test.YtnhcoggjnbldiaaMem
import Derived.Test.YtnhcoggjnbldiaaOwn
import Derived.Test.YtnhcoggjnbldiaaSpr
import Derived.Deep.QuietTactic
import Derived.BigQuiet
import Derived.Handy
namespace Go.Proofs.Ytnhcoggjnbldiaa
open Go.RowKit
set_option maxRecDepth 100000
set_option linter.unusedVariables false
set_option linter.unusedSimpArgs false

set_option maxHeartbeats 400000 in
theorem l00Max_any (a b : Int) (w : World) :
    Calls Try.prog 30 #[.int .i64 a, .int .i64 b] w fun e w' => e = .returned (.int .i64 (max a b)) ∧ w = w' := by
  by_cases h : b < a
  · have hm : max a b = a := Int.max_eq_left (by omega)
    have Hm := Lib.hid hm
    clear hm
    go_enter Try.func30, Try.ntmps30
    go_wp2
    go_ret
    exact ⟨ret_i64 Hm.out.symm, rfl⟩
  · have hm : max a b = b := Int.max_eq_right (by omega)
    have Hm := Lib.hid hm
    clear hm
    go_enter Try.func30, Try.ntmps30
    go_wp2
    go_ret
    exact ⟨ret_i64 Hm.out.symm, rfl⟩
theorem shfF_eq (N : Int) (cs : List Int) (h0 : 0 < cs.length) : shfF N cs = dnF (sumL (upF cs (N - sumL (sf0 N (sumL cs) cs)).toNat (List.replicate cs.length 0) (sf0 N (sumL cs) cs)) - N).toNat (upF cs (N - sumL (sf0 N (sumL cs) cs)).toNat (List.replicate cs.length 0) (sf0 N (sumL cs) cs)) := by
  unfold shfF
  dsimp only
  split
  · have := (upF_ok cs (N - sumL (sf0 N (sumL cs) cs)).toNat (List.replicate cs.length 0) (sf0 N (sumL cs) cs) h0 (by simp [sf0]) (sf0_ge N (sumL cs) cs)).1
    rw [this, show (sumL (sf0 N (sumL cs) cs) + ((N - sumL (sf0 N (sumL cs) cs)).toNat : Int) - N).toNat = 0 by omega]
    rfl
  · rw [show (N - sumL (sf0 N (sumL cs) cs)).toNat = 0 by omega]
    rfl
theorem getD_eq {zs : List Int} {i : Nat} (h : i < zs.length) : zs.getD i 0 = zs[i] := by
  rw [List.getD_eq_getElem?_getD, List.getElem?_eq_getElem h]; rfl
theorem sf0_take (N T : Int) (cs : List Int) (i : Nat) (hi : i < cs.length) : (sf0 N T cs).take (i + 1) = (sf0 N T cs).take i ++ [max 1 (cs[i] * N / T)] := by
  have hl : i < (sf0 N T cs).length := by simpa [sf0] using hi
  rw [List.take_succ_eq_append_getElem hl]
  simp [sf0]
theorem sf0_le (N T : Int) (cs : List Int) (hN : 1 ≤ N) (hT : 1 ≤ T) (h : ∀ z ∈ cs, 1 ≤ z ∧ z ≤ T) : ∀ z ∈ sf0 N T cs, z ≤ N := fun z hz => by
  obtain ⟨n, hn, rfl⟩ := List.mem_map.1 hz
  have hb := h n hn
  have h1 : n * N / T ≤ N := by
    refine Int.le_trans (Int.ediv_le_ediv (by omega) (Int.mul_le_mul_of_nonneg_right hb.2 (by omega))) ?_
    rw [Int.mul_ediv_cancel_left _ (by omega)]; exact Int.le_refl _
  omega
theorem own_at {B : Nat} {w : World} {v : Value} {zs : List Int} (h : OwnI B w v zs) (j : Nat) (hj : j < zs.length) : ∃ g cap, v = .slice (some ⟨g, 0, none⟩) zs.length cap ∧ B ≤ g ∧ g < w.heap.size ∧ w.cell? ⟨g, j, none⟩ = some (.int .i64 zs[j]) ∧ w.frozen? ⟨g, j, none⟩ = false := by
  rcases h.2 with ⟨_, h0⟩ | ⟨g, cap, cur, rfl, hb, hg, hn, hm, hs, ht⟩
  · omega
  · refine ⟨g, cap, rfl, hb, blk_lt hg, ?_, frozen_of_row _ _ _ _ _ hg⟩
    rw [cell_of_row _ _ _ _ _ _ hg]
    have e : (zs.map (Value.int .i64))[j]? = some (.int .i64 zs[j]) := by simp [hj]
    rw [← ht, List.getElem?_take_of_lt (by omega)] at e
    simpa using e
theorem own_put {B : Nat} {w : World} {g cap : Nat} {zs : List Int} (h : OwnI B w (.slice (some ⟨g, 0, none⟩) zs.length cap) zs) (j : Nat) (x : Int) : OwnI B (w.setCell ⟨g, j, none⟩ (.int .i64 x)) (.slice (some ⟨g, 0, none⟩) zs.length cap) (zs.set j x) := by
  have := (World.ownsRow.stored h j (.int .i64 x)).1
  unfold OwnI
  rw [List.length_set, List.map_set]
  exact this
theorem add1_all {zs : List Int} {b : Nat} {d : Int} {Q : Int → Prop} (hz : ∀ z ∈ zs, Q z) (hb : Q (zs.getD b 0 + d)) : ∀ z ∈ add1 zs b d, Q z := fun z hz' => by
  rcases List.mem_or_eq_of_mem_set hz' with h' | rfl
  · exact hz z h'
  · exact hb
theorem sumL_append (a b : List Int) : sumL (a ++ b) = sumL a + sumL b := by
  induction a with
  | nil => simp [sumL]
  | cons x t ih => rw [List.cons_append, sumL, sumL, ih]; omega
theorem sumL_le (zs : List Int) (M : Int) (h : ∀ z ∈ zs, z ≤ M) (hM : 0 ≤ M) : sumL zs ≤ M * zs.length := by
  induction zs with
  | nil => simp [sumL]
  | cons a t ih =>
    have h1 := h a (by simp)
    have h2 := ih fun z hz => h z (List.mem_cons_of_mem _ hz)
    rw [sumL, List.length_cons, Int.natCast_add, Int.mul_add]
    simp only [Int.natCast_one, Int.mul_one]
    omega
theorem sum_ge' {zs : List Int} (h : ∀ z ∈ zs, 0 ≤ z) : ∀ z ∈ zs, z ≤ sumL zs := by
  have : 0 ≤ sumL zs ∧ ∀ z ∈ zs, z ≤ sumL zs := by
    induction zs with
    | nil => exact ⟨Int.le_refl _, fun z hz => by cases hz⟩
    | cons a t ih =>
      have h1 := ih fun z hz => h z (List.mem_cons_of_mem _ hz)
      have h2 := h a (by simp)
      rw [sumL]
      refine ⟨by omega, fun z hz => ?_⟩
      rcases List.mem_cons.1 hz with rfl | hz
      · omega
      · have := h1.2 z hz; omega
  exact this.2
set_option maxHeartbeats 4000000 in
theorem specShf_ok (n : Int) (v : Value) (cs : List Int) (p : Int) (w : World) (h : RI w v cs) (hc : cts n cs = true) (hp : inB p 1 8 = true) (hn : n ≤ 2 ^ p.toNat) :
    Calls Try.prog 8 #[.agg #[.int .i64 n, v], .int .i64 p] w fun e w' => ∃ v', e = .returned (.tuple #[.agg #[.int .i64 (shfN n cs p), v'], .bool (shfOk n cs p)]) ∧ OI w.heap.size w' v' (shfZ n cs p) ∧ Below w.heap.size w w' := by
  obtain ⟨ao, cap, rfl⟩ := h.shape
  have hlen := h.len
  have hb : ∀ o o', Below w.heap.size w ((w.alloc o).alloc o') := fun o o' => by go_grown
  have g := h.below (hb (.cells #[.int .i64 n, .slice ao cs.length cap] 27) (.cells #[.int .i64 0, .slice none 0 0] 30))
  have hA : ((w.alloc (.cells #[.int .i64 n, .slice ao cs.length cap] 27)).alloc (.cells #[.int .i64 0, .slice none 0 0] 30)).heap[w.heap.size]? = some (.cells #[.int .i64 n, .slice ao cs.length cap] 27 (0, 0)) := blk_alloc (heap_alloc_new w _)
  have hR : ((w.alloc (.cells #[.int .i64 n, .slice ao cs.length cap] 27)).alloc (.cells #[.int .i64 0, .slice none 0 0] 30)).heap[w.heap.size + 1]? = some (.cells #[.int .i64 0, .slice none 0 0] 30 (0, 0)) := by
    have := heap_alloc_new (w.alloc (.cells #[.int .i64 n, .slice ao cs.length cap] 27)) (.cells #[.int .i64 0, .slice none 0 0] 30)
    rwa [World.size_alloc] at this
  have hcn : ∀ q, Calls Try.prog 27 #[.pointer (some ⟨w.heap.size, 0, none⟩)] (((w.alloc (.cells #[.int .i64 n, .slice ao cs.length cap] 27)).alloc (.cells #[.int .i64 0, .slice none 0 0] 30)).drewN q) fun e w' => e = .returned (.bool (cts n cs)) ∧ ∃ m, w' = (((w.alloc (.cells #[.int .i64 n, .slice ao cs.length cap] 27)).alloc (.cells #[.int .i64 0, .slice none 0 0] 30)).drewN q).drewN m := fun q =>
    l05Counts_any n _ cs w.heap.size _ (g.below (below_drewN _ q)) (cnext (below_drewN _ q) (by simp [go_sem])) (cnext (below_drewN _ q) (by simp [go_sem]))
  have hok : shfOk n cs p = true := by rw [shfOk, hc, hp]; simp [hn]
  obtain ⟨h1, h2, h3, h4, h5⟩ := cts_parts hc
  have hp' := inB_eq hp
  simp only [if_true] at hp'
  obtain ⟨m, rfl⟩ := Int.eq_ofNat_of_zero_le (show 0 ≤ p by omega)
  have hm1 : 1 ≤ m := by omega
  have hm8 : m ≤ 8 := by omega
  have hN256 : 2 ^ m ≤ 256 := Nat.le_trans (Nat.pow_le_pow_right (by decide) hm8) (by decide)
  have hN1 : 0 < 2 ^ m := Nat.two_pow_pos m
  have hLi : (2 : Int) ^ m = ((2 ^ m : Nat) : Int) := by simp
  have HZ := Lib.hid (show shfZ n cs (m : Int) = shfF ((2 ^ m : Nat) : Int) cs by rw [shfZ, if_pos hok, Int.toNat_natCast, hLi])
  have HS := Lib.hid (show shs (m : Int) (shfF ((2 ^ m : Nat) : Int) cs) = true by have := shf_shs n cs _ hok; rwa [Int.toNat_natCast, hLi] at this)
  rw [Int.toNat_natCast] at hn
  have HN := Lib.hid (show shfN n cs (m : Int) = m by rw [shfN, if_pos hok])
  rw [hLi] at hn
  generalize 2 ^ m = N at *
  subst h3
  have hT1 := sumL_ge cs fun z hz => (h4 z hz).1
  obtain ⟨T, hT⟩ : ∃ T, sumL cs = T := ⟨_, rfl⟩
  have HT := Lib.hid hT
  have hsm : Small 1099511627776 cs := fun z hz => by have := h4 z hz; omega
  rw [hT] at hT1 h5
  have H4 := Lib.hid h4
  have HOK := Lib.hid hok
  have hng : decide ((N : Int) < (cs.length : Int)) = false := decide_eq_false (by omega)
  obtain ⟨b0, o0, e0, -, hZc⟩ := h.2.cells (by omega)
  obtain rfl := e0
  have HC := Lib.hid hZc
  have HRI := Lib.hid h
  simp only [hc] at hcn
  clear h4 hok hT hZc
  go_enter Try.func8, Try.ntmps8
  go_wp2_with fail
  have hB := hb (.cells #[.int .i64 (cs.length : Int), .slice (some ⟨b0, o0, none⟩) cs.length cap] 27) (.cells #[.int .i64 0, .slice none 0 0] 30)
  have hsz : ((w.alloc (.cells #[.int .i64 (cs.length : Int), .slice (some ⟨b0, o0, none⟩) cs.length cap] 27)).alloc (.cells #[.int .i64 0, .slice none 0 0] 30)).heap.size = w.heap.size + 2 := by simp
  generalize hW0 : ((w.alloc (.cells #[.int .i64 (cs.length : Int), .slice (some ⟨b0, o0, none⟩) cs.length cap] 27)).alloc (.cells #[.int .i64 0, .slice none 0 0] 30)) = W0 at *
  clear hW0
  obtain ⟨a0, a1, -, -⟩ := blk2 hA
  go_quiet ((first | (go_at_call 27; exact Calls.quiet_of (hcn _)) | (go_at_call 28; exact Calls.quiet_of (qv hp (l00In_any _ _ _ _)))))
  rename_i nq
  have hA := blk_next (below_drewN _ nq) hA
  have hR := blk_next (below_drewN _ nq) hR
  have hB := bnext hB (below_drewN _ nq)
  have hsz : (W0.drewN nq).heap.size = w.heap.size + 2 := hsz
  clear g hcn a0 a1
  generalize W0.drewN nq = wq at *
  obtain ⟨a0, a1, -, -⟩ := blk2 hA
  go_wp2_with fail
  refine (l05Total_any (cs.length : Int) _ cs w.heap.size _ (HRI.out.below hB) a1 hsm (by omega)).mono ?_
  rw [HT.out]
  rintro e w' ⟨rfl, rfl⟩
  obtain ⟨S0, hS0⟩ : ∃ S0, sf0 (N : Int) T cs = S0 := ⟨_, rfl⟩
  have HS0 := Lib.hid hS0
  have HSl := Lib.hid (show S0.length = cs.length by rw [← hS0]; simp [sf0])
  have HTk := Lib.hid (show ∀ j (hj : j < cs.length), S0.take (j + 1) = S0.take j ++ [max 1 (cs[j] * N / T)] by rw [← hS0]; exact sf0_take (N : Int) T cs)
  have HcT := Lib.hid (show ∀ z ∈ cs, z ≤ T from fun z hz => by
    have := (sum_ge' (zs := cs) fun z hz => by have := H4.out z hz; omega) z hz
    rw [HT.out] at this; exact this)
  have hnil := own_nil (w.heap.size + 3) (wq.alloc (.cells #[.int .i64 m, .slice none 0 0] 30))
  have hTb : (wq.alloc (.cells #[.int .i64 m, .slice none 0 0] 30)).heap[wq.heap.size]? = some (.cells #[.int .i64 m, .slice none 0 0] 30 (0, 0)) := heap_alloc_new wq _
  rw [hsz] at hTb
  have hT1' : 1 ≤ T := by omega
  clear hS0 hT1
  obtain ⟨i0, hi, hz0, hz1, hz2⟩ := info_parts info_int
  have hl16 : cs.length ≤ 16 := by omega
  have hl2 : 2 ≤ cs.length := by omega
  go_wp2_with fail
  go_loopw [9, 40] (fun sv iv wr => ∃ (i : Nat) (acc : Int) (P : List Int) (vo : Value), iv = .int .i64 i ∧ i ≤ cs.length ∧ sv = .int .i64 acc ∧ 0 ≤ acc ∧ acc ≤ 256 * i ∧ acc = sumL P ∧ P = S0.take i ∧ P.length = i ∧ wr.heap[w.heap.size + 2]? = some (.cells #[.int .i64 m, vo] 30 (0, 0)) ∧ OwnI (w.heap.size + 3) wr vo P ∧ Below wq.heap.size wq wr) (fun _ iv _ => cs.length - (intOf iv).toNat)
  case atStart => exact ⟨0, 0, [], _, rfl, Nat.zero_le _, rfl, Int.le_refl _, by omega, rfl, rfl, rfl, hTb, hnil, by go_grown⟩
  case round =>
    clear hTb hnil
    obtain ⟨i, acc, P, vo, rfl, hi', rfl, ha0, ha1, hacc, hP, hPl, hbx, hown, hBw⟩ := hrel
    obtain ⟨ao3, cap3, rfl⟩ := hown.shape
    have Hacc := Lib.hid hacc
    have HP := Lib.hid hP
    have HPl := Lib.hid hPl
    obtain ⟨x0, x1, y0, y1⟩ := blk2 hbx
    have aw0 := cnext hBw a0
    have aw1 := cnext hBw a1
    clear hacc hP hPl
    by_cases hil : i < cs.length
    · have hci := cnext hBw (cnext hB (HC.out i hil))
      have hzb := H4.out cs[i] (List.getElem_mem hil)
      have hzT := HcT.out cs[i] (List.getElem_mem hil)
      have Htk := Lib.hid (HTk.out i hil)
      generalize cs[i] = z at hci hzb hzT Htk
      have hzN0 : 0 ≤ z * (N : Int) := Int.mul_nonneg (by omega) (by omega)
      have hzN1 : z * (N : Int) ≤ 16384 * 256 := Int.mul_le_mul (by omega) (by omega) (by omega) (by decide)
      obtain ⟨q, hq⟩ : ∃ q, z * (N : Int) / T = q := ⟨_, rfl⟩
      have hq2 : (z * (N : Int)).tdiv T = q := by rw [Int.tdiv_eq_ediv_of_nonneg hzN0]; exact hq
      have hq0 : 0 ≤ q := by rw [← hq]; exact Int.ediv_nonneg hzN0 (by omega)
      have hq1 : q ≤ 256 := by
        rw [← hq]
        refine Int.le_trans (Int.ediv_le_ediv (by omega) (Int.mul_le_mul_of_nonneg_right hzT (by omega))) ?_
        rw [Int.mul_ediv_cancel_left _ (by omega)]; omega
      have hTne : T ≠ 0 := by omega
      obtain ⟨x, hx⟩ : ∃ x, max 1 q = x := ⟨_, rfl⟩
      have hx1 : 1 ≤ x ∧ x ≤ 256 := by rw [← hx]; omega
      rw [hq, hx] at Htk
      have Hx := Lib.hid hx
      have hx1a := hx1.1
      have hx1b := hx1.2
      have hs5 : w.heap.size + 3 ≤ wr.heap.size := blk_lt hbx
      have hne := hown.lt
      have hsw : wq.heap.size ≤ w.heap.size + 3 := by omega
      clear hx hx1
      go_wp2_with (first | (go_at_call 30; refine (l00Max_any _ _ _).mono ?_; rw [Hx.out]; rintro e w' ⟨rfl, rfl⟩) | (at_builtin; go_must (refine app_ints rfl _ _ rfl (w.heap.size + 3) wq.heap.size hsw (.slice ao3 P.length cap3) P rfl hown hBw _ _ [x] rfl rfl (by rw [HPl.out]; simp; omega) hs5 ?_)))
      intro v6 w6 hown6 hB6 hg6
      have HP2 := Lib.hid (show P ++ [x] = S0.take (i + 1) by rw [HP.out, Htk.out])
      have Hac2 := Lib.hid (show acc + x = sumL (P ++ [x]) by rw [sumL_append, Hacc.out]; simp [sumL])
      have HPl2 := Lib.hid (show (P ++ [x]).length = i + 1 by rw [List.length_append, HPl.out]; rfl)
      generalize P ++ [x] = P2 at *
      obtain ⟨ao6, cap6, rfl⟩ := hown6.shape
      have hbx6 := blk_grown hg6 (fun e => by have := hne _ e.symm; omega) (blk_alloc hbx)
      obtain ⟨x0, x1, y0, y1⟩ := blk2 hbx6
      have hown7 := hown6.set ⟨w.heap.size + 2, 1, none⟩ (.slice ao6 P2.length cap6) (by simp)
      have hbx7 := blk_set1 (u := .slice ao6 P2.length cap6) hbx6
      have hB7 := hB6.setCell (p := ⟨w.heap.size + 2, 1, none⟩) (by simp <;> omega) (.slice ao6 P2.length cap6)
      clear hown hown6 hB6 hbx hg6
      go_wp2
      go_roundw
      case rel => exact ⟨i + 1, acc + x, P2, _, by go_num, by omega, rfl, by omega, by omega, Hac2.out, HP2.out, HPl2.out, hbx7, hown7, by first | exact hB7 | (rw [hsz]; exact hB7)⟩
      case measure => simp [intOf] <;> omega
    · have hic : i = cs.length := by omega
      have hPS : P = S0 := by rw [HP.out, hic, ← HSl.out, List.take_length]
      have HaS := Lib.hid (show acc = sumL S0 by rw [Hacc.out, hPS])
      have ha4 : acc ≤ 4096 := by omega
      have hs5 : w.heap.size + 3 ≤ wr.heap.size := blk_lt hbx
      have hne := hown.lt
      have hlP : P.length = cs.length := by rw [HPl.out, hic]
      have HlP := Lib.hid hlP
      have HPS := Lib.hid hPS
      clear hic hPS hlP
      go_wp2_with (at_make; refine wpList_make_full _ rfl _ _ 25 rfl wr.heap.size 2 i0 (.int .i64 0) 1 Try.underlying25 hi hz0 hz1 _ _ _ _ cs.length rfl rfl rfl rfl (by rw [hz2]; omega) (by unfold maxLen; omega) (Nat.le_refl _) ?_)
      intro w2 hown2 hg2
      have hob := made_ob (show 0 < cs.length by omega) hown2
      have hBw := bnext hBw (grow_below hg2)
      have hbx := blk_next (grow_below hg2) hbx
      have hown : OwnI _ w2 _ P := own_below (grow_below hg2) hown
      have hgm : ∀ kk, (Value.slice ao3 P.length cap3).ownBlock = some kk → kk ≠ wr.heap.size := fun kk e => by have := hne kk e; omega
      clear hown2 hg2 hne x0 x1 y0 y1 aw0 aw1
      generalize wr.heap.size = gm at *
      have HU := Lib.hid (show shfF (N : Int) cs = dnF (sumL (upF cs ((N : Int) - sumL S0).toNat (List.replicate cs.length 0) S0) - N).toNat (upF cs ((N : Int) - sumL S0).toNat (List.replicate cs.length 0) S0) by rw [shfF_eq _ _ (by omega), HT.out, HS0.out])
      obtain ⟨U, hU⟩ : ∃ U, upF cs ((N : Int) - sumL S0).toNat (List.replicate cs.length 0) S0 = U := ⟨_, rfl⟩
      rw [hU] at HU
      have hzS := sf0_ge (N : Int) T cs
      have hzS2 := sf0_le (N : Int) T cs (by omega) (by omega) fun z hz => ⟨(H4.out z hz).1, HcT.out z hz⟩
      rw [HS0.out] at hzS hzS2
      have HU2 := Lib.hid hU
      have HzS := Lib.hid hzS
      have HzS2 := Lib.hid hzS2
      clear hU hzS hzS2
      go_wp2_with fail
      go_loopw [9] (fun sv wr => ∃ (acc : Int) (d : Nat) (more ss : List Int) (ao3 : Option Addr) (cap3 : Nat), sv = .int .i64 acc ∧ 0 ≤ acc ∧ acc ≤ 4096 ∧ acc = sumL ss ∧ ((N : Int) - acc).toNat = d ∧ d ≤ 256 ∧ upF cs d more ss = U ∧ more.length = cs.length ∧ ss.length = cs.length ∧ (∀ z ∈ more, 0 ≤ z ∧ z + d ≤ 256) ∧ (∀ z ∈ ss, 1 ≤ z ∧ z + d ≤ 512) ∧ OB (Value.int .i64) (w.heap.size + 3) wr gm 0 cs.length cs.length more ∧ wr.heap[w.heap.size + 2]? = some (.cells #[.int .i64 m, .slice ao3 cs.length cap3] 30 (0, 0)) ∧ OwnI (w.heap.size + 3) wr (.slice ao3 cs.length cap3) ss ∧ (∀ kk, (Value.slice ao3 cs.length cap3).ownBlock = some kk → kk ≠ gm) ∧ Below wq.heap.size wq wr) (fun sv _ => ((N : Int) - intOf sv).toNat)
      case atStart =>
        have e1 := HlP.out
        rw [e1] at hbx hown hgm
        refine ⟨acc, ((N : Int) - acc).toNat, List.replicate cs.length 0, P, ao3, cap3, rfl, ha0, ha4, Hacc.out, rfl, by omega, by rw [← HU2.out, HaS.out, HPS.out], by simp, e1, ?_, ?_, hob.mono hs5, hbx, hown, hgm, hBw⟩
        · intro z hz; rw [List.eq_of_mem_replicate hz]; omega
        · intro z hz; rw [HPS.out] at hz; exact ⟨HzS.out z hz, by have := HzS2.out z hz; omega⟩
      case round =>
        clear hob hbx hown hgm hBw
        obtain ⟨acc', d, more, ss, ao4, cap4, rfl, ha0', ha4', hacc', hd, hd256, hU', hml, hsl, hzm, hzs, hob, hbx, hown, hgm, hBw⟩ := hrel
        have Hacc' := Lib.hid hacc'
        have HU' := Lib.hid hU'
        have Hml := Lib.hid hml
        have Hsl := Lib.hid hsl
        have Hzm := Lib.hid hzm
        have Hzs := Lib.hid hzs
        have Hgm := Lib.hid hgm
        have Hd := Lib.hid hd
        clear hacc' hU' hml hsl hzm hzs hgm hd
        by_cases hlt : acc' < (N : Int)
        · obtain ⟨d', hd'⟩ : ∃ d', d = d' + 1 := ⟨d - 1, by have := Hd.out; omega⟩
          have Hd' := Lib.hid hd'
          clear hd'
          go_wp2_with fail
          go_loopw [13, 73] (fun bv iv wr' => ∃ (i b nq : Nat), iv = .int .i64 i ∧ i ≤ cs.length ∧ bv = .int .i64 b ∧ b < cs.length ∧ bstF cs more (cs.length - i) i b = bst cs more ∧ wr' = wr.drewN nq) (fun _ iv _ => cs.length - (intOf iv).toNat)
          case atStart => exact ⟨0, 0, 0, rfl, Nat.zero_le _, rfl, by omega, by rw [Nat.sub_zero]; rfl, rfl⟩
          case round =>
            obtain ⟨i, b, nq, rfl, hi', rfl, hb', hq, rfl⟩ := hrel
            have Hq0 := Lib.hid hq
            clear hq
            by_cases hil : i < cs.length
            · have him : i < more.length := by rw [Hml.out]; exact hil
              have hbm : b < more.length := by rw [Hml.out]; exact hb'
              have hmi := hob.cell i him
              have hmb := hob.cell b hbm
              rw [Nat.zero_add] at hmi hmb
              have hci := cnext hBw (cnext hB (HC.out i hil))
              have hcb := cnext hBw (cnext hB (HC.out b hb'))
              have aw1 := cnext hBw a1
              have hah : ahead cs more i b = (decide (more[i] < more[b]) || ((more[i] == more[b]) && decide (cs[b] < cs[i]))) := by
                rw [ahead, getD_eq him, getD_eq hbm, getD_eq hil, getD_eq hb']
              have hq1 : bstF cs more (cs.length - (i + 1)) (i + 1) (if ahead cs more i b = true then i else b) = bst cs more := by
                rw [← Hq0.out, show cs.length - i = (cs.length - (i + 1)) + 1 by omega, bstF]
              rw [hah] at hq1
              have hobk := Lib.hid hob
              have him2 : (i : Int) < (cs.length : Int) := by omega
              have hbm2 : (b : Int) < (cs.length : Int) := by omega
              clear hah hob
              generalize more[i] = mi at *
              generalize more[b] = mb at *
              generalize cs[i] = ci at *
              generalize cs[b] = cb at *
              by_cases c1 : mi < mb
              · have d1 : decide (mi < mb) = true := decide_eq_true c1
                have Hq := Lib.hid (show bstF cs more (cs.length - (i + 1)) (i + 1) i = bst cs more by rw [← hq1, d1]; rfl)
                clear hq1 c1
                go_wp2_with fail
                go_quiet (fail)
                rename_i nq2
                go_wp2
                go_roundw
                case rel => exact ⟨i + 1, i, _, by go_num, by omega, rfl, by omega, Hq.out, rfl⟩
                case measure => simp [intOf] <;> omega
              · have d1 : decide (mi < mb) = false := decide_eq_false c1
                by_cases c2 : mi = mb
                · have d2 : (mi == mb) = true := by simpa using c2
                  by_cases c3 : cb < ci
                  · have d3 : decide (cb < ci) = true := decide_eq_true c3
                    have Hq := Lib.hid (show bstF cs more (cs.length - (i + 1)) (i + 1) i = bst cs more by rw [← hq1, d1, d2, d3]; rfl)
                    clear hq1 c1 c2 c3
                    go_wp2_with fail
                    go_quiet (fail)
                    rename_i nq2
                    go_wp2
                    go_roundw
                    case rel => exact ⟨i + 1, i, _, by go_num, by omega, rfl, by omega, Hq.out, rfl⟩
                    case measure => simp [intOf] <;> omega
                  · have d3 : decide (cb < ci) = false := decide_eq_false c3
                    have Hq := Lib.hid (show bstF cs more (cs.length - (i + 1)) (i + 1) b = bst cs more by rw [← hq1, d1, d2, d3]; rfl)
                    clear hq1 c1 c2 c3
                    go_wp2_with fail
                    go_quiet (fail)
                    rename_i nq2
                    go_wp2
                    go_roundw
                    case rel => exact ⟨i + 1, b, _, by go_num, by omega, rfl, by omega, Hq.out, rfl⟩
                    case measure => simp [intOf] <;> omega
                · have d2 : (mi == mb) = false := by simpa using c2
                  have Hq := Lib.hid (show bstF cs more (cs.length - (i + 1)) (i + 1) b = bst cs more by rw [← hq1, d1, d2]; rfl)
                  clear hq1 c1 c2
                  go_wp2_with fail
                  go_quiet (fail)
                  rename_i nq2
                  go_wp2
                  go_roundw
                  case rel => exact ⟨i + 1, b, _, by go_num, by omega, rfl, by omega, Hq.out, rfl⟩
                  case measure => simp [intOf] <;> omega
            · have hbb : bst cs more = b := by rw [← Hq0.out, show cs.length - i = 0 by omega]; rfl
              have Hbb := Lib.hid hbb
              clear hbb
              have hob := hob.below (below_drewN wr nq)
              have hbx := blk_next (below_drewN wr nq) hbx
              have hown : OwnI _ (wr.drewN nq) _ ss := own_below (below_drewN wr nq) hown
              have hBw := bnext hBw (below_drewN wr nq)
              generalize wr.drewN nq = wz at *
              have hbm : b < more.length := by rw [Hml.out]; exact hb'
              have hbs : b < ss.length := by rw [Hsl.out]; exact hb'
              have hmb := hob.cell b hbm
              have hfb := hob.free b hbm
              rw [Nat.zero_add] at hmb hfb
              have hzb := Hzm.out more[b] (List.getElem_mem hbm)
              have hput := hob.put b hbm (more[b] + 1)
              rw [Nat.zero_add] at hput
              have hne : gm ≠ w.heap.size + 2 := by omega
              have hbx2 := blk_other (p := ⟨gm, b, none⟩) (u := .int .i64 (more[b] + 1)) hne hbx
              have hown2 : OwnI _ (wz.setCell ⟨gm, b, none⟩ (.int .i64 (more[b] + 1))) _ ss := hown.kept (grown_setCell wz ⟨gm, b, none⟩ _) (.inr fun e => Hgm.out _ e rfl)
              have hBw2 := hBw.setCell (p := ⟨gm, b, none⟩) (by show wq.heap.size ≤ gm; omega) (.int .i64 (more[b] + 1))
              rw [← Hsl.out] at hown2 hbx2
              obtain ⟨g4, cap5, e4, hg4, hg4s, hsb, hsf⟩ := own_at hown2 b hbs
              simp only [Value.slice.injEq, true_and] at e4
              obtain ⟨rfl, rfl⟩ := e4
              have hzb2 := Hzs.out ss[b] (List.getElem_mem hbs)
              have hput2 := own_put hown2 b (ss[b] + 1)
              have hgne : g4 ≠ gm := Hgm.out g4 rfl
              have hbx3 := blk_other (p := ⟨g4, b, none⟩) (u := .int .i64 (ss[b] + 1)) (by show g4 ≠ w.heap.size + 2; omega) hbx2
              have hBw3 := hBw2.setCell (p := ⟨g4, b, none⟩) (by show wq.heap.size ≤ g4; omega) (.int .i64 (ss[b] + 1))
              have hob3 := hput.far ⟨g4, b, none⟩ (.int .i64 (ss[b] + 1)) hgne
              obtain ⟨x0, x1, -, -⟩ := blk2 hbx2
              have Hm1 := Lib.hid (show add1 more b 1 = more.set b (more[b] + 1) by rw [add1, getD_eq hbm])
              have Hs1 := Lib.hid (show add1 ss b 1 = ss.set b (ss[b] + 1) by rw [add1, getD_eq hbs])
              rw [← Hm1.out] at hob3
              rw [← Hs1.out] at hput2
              have HM := Lib.hid (show ∀ z ∈ add1 more b 1, 0 ≤ z ∧ z + d' ≤ 256 from add1_all (fun z hz => by have := Hzm.out z hz; have := Hd'.out; omega) (by rw [getD_eq hbm]; have := Hd'.out; omega))
              have HS' := Lib.hid (show ∀ z ∈ add1 ss b 1, 1 ≤ z ∧ z + d' ≤ 512 from add1_all (fun z hz => by have := Hzs.out z hz; have := Hd'.out; omega) (by rw [getD_eq hbs]; have := Hd'.out; omega))
              have HSum := Lib.hid (show acc' + 1 = sumL (add1 ss b 1) by rw [sumL_add1 _ _ _ hbs, Hacc'.out])
              have HU4 := Lib.hid (show upF cs d' (add1 more b 1) (add1 ss b 1) = U by rw [← HU'.out, Hd'.out, upF, Hbb.out])
              have hbl : (b : Int) < (ss.length : Int) := by omega
              have hd0 := Hd.out
              have hd1 := Hd'.out
              have hdle : d' ≤ 256 := by omega
              have Hdd := Lib.hid (show ((N : Int) - (acc' + 1)).toNat = d' by omega)
              have Hhead := Lib.hid (And.intro hput2 (And.intro hob3 (And.intro hbx3 hBw3)))
              clear hput2 hob3 hbx3 hBw3 hput hob hown hown2 hbx hBw hBw2 hd0 hd1
              generalize more[b] = mb at *
              generalize ss[b] = sb at *
              go_wp2
              go_roundw
              case rel => exact ⟨acc' + 1, d', add1 more b 1, add1 ss b 1, some ⟨g4, 0, none⟩, cap4, by go_num, by omega, by omega, HSum.out, Hdd.out, hdle, HU4.out, by rw [add1_len]; exact Hml.out, by rw [add1_len]; exact Hsl.out, HM.out, HS'.out, Hhead.out.2.1, by rw [← Hsl.out]; exact Hhead.out.2.2.1, by rw [← Hsl.out]; exact Hhead.out.1, (fun kk e => by simp [Value.ownBlock] at e; omega), Hhead.out.2.2.2⟩
              case measure => simp [intOf] <;> omega
        · have hd0 : d = 0 := by have := Hd.out; omega
          have hUs : U = ss := by rw [← HU'.out, hd0]; rfl
          have HF := Lib.hid (show dnF (acc' - (N : Int)).toNat ss = shfF (N : Int) cs by rw [HU.out, hUs, Hacc'.out])
          clear hd0 hUs
          go_wp2_with fail
          go_loopw [9] (fun sv wr => ∃ (acc : Int) (d : Nat) (ss : List Int) (ao3 : Option Addr) (cap3 : Nat), sv = .int .i64 acc ∧ 0 ≤ acc ∧ acc ≤ 4096 ∧ (acc - (N : Int)).toNat = d ∧ dnF d ss = shfF (N : Int) cs ∧ ss.length = cs.length ∧ (∀ z ∈ ss, z ≤ 512 ∧ -5000 ≤ z - d) ∧ wr.heap[w.heap.size + 2]? = some (.cells #[.int .i64 m, .slice ao3 cs.length cap3] 30 (0, 0)) ∧ OwnI (w.heap.size + 3) wr (.slice ao3 cs.length cap3) ss ∧ Below wq.heap.size wq wr) (fun sv _ => (intOf sv - (N : Int)).toNat)
          case atStart => exact ⟨acc', (acc' - (N : Int)).toNat, ss, ao4, cap4, rfl, ha0', ha4', rfl, HF.out, Hsl.out, (fun z hz => by have := Hzs.out z hz; omega), hbx, hown, hBw⟩
          case round =>
            clear hob hbx hown hBw Hgm Hzs Hzm Hsl Hml HU' Hacc' Hd HF
            obtain ⟨acc2, d2, s2, ao5, cap5, rfl, hb0, hb4, hd, hF, hsl, hzs, hbx, hown, hBw⟩ := hrel
            have Hd := Lib.hid hd
            have HF := Lib.hid hF
            have Hsl := Lib.hid hsl
            have Hzs := Lib.hid hzs
            clear hd hF hsl hzs
            obtain ⟨x0, x1, -, -⟩ := blk2 hbx
            by_cases hgt : (N : Int) < acc2
            · obtain ⟨d', hd'⟩ : ∃ d', d2 = d' + 1 := ⟨d2 - 1, by have := Hd.out; omega⟩
              have Hd' := Lib.hid hd'
              clear hd'
              go_wp2_with fail
              go_loopw [15, 132] (fun bv iv wr' => ∃ (i b nq : Nat), iv = .int .i64 i ∧ i ≤ cs.length ∧ bv = .int .i64 b ∧ b < cs.length ∧ mxF s2 (cs.length - i) i b = mx s2 ∧ wr' = wr.drewN nq) (fun _ iv _ => cs.length - (intOf iv).toNat)
              case atStart => exact ⟨0, 0, 0, rfl, Nat.zero_le _, rfl, by omega, by rw [Nat.sub_zero, ← Hsl.out]; rfl, rfl⟩
              case round =>
                obtain ⟨i, b, nq, rfl, hi', rfl, hb', hq, rfl⟩ := hrel
                have Hq0 := Lib.hid hq
                clear hq
                have hbs : b < s2.length := by rw [Hsl.out]; exact hb'
                by_cases hil : i < cs.length
                · have his : i < s2.length := by rw [Hsl.out]; exact hil
                  obtain ⟨g4, cap6, e4, -, -, hsi, -⟩ := own_at hown i his
                  simp only [Value.slice.injEq] at e4
                  obtain ⟨rfl, -, rfl⟩ := e4
                  obtain ⟨g5, cap7, e5, -, -, hsb, -⟩ := own_at hown b hbs
                  simp only [Value.slice.injEq, Option.some.injEq, Addr.mk.injEq, and_true] at e5
                  obtain ⟨rfl, -, rfl⟩ := e5
                  have hq1 : mxF s2 (cs.length - (i + 1)) (i + 1) (if s2[b] < s2[i] then i else b) = mx s2 := by
                    rw [← Hq0.out, show cs.length - i = (cs.length - (i + 1)) + 1 by omega, mxF, getD_eq his, getD_eq hbs]
                  have Hown := Lib.hid hown
                  clear hown
                  generalize s2[i] = si at *
                  generalize s2[b] = sb at *
                  by_cases c1 : sb < si
                  · have d1 : decide (sb < si) = true := decide_eq_true c1
                    have Hq := Lib.hid (show mxF s2 (cs.length - (i + 1)) (i + 1) i = mx s2 by rw [← hq1, if_pos c1])
                    clear hq1
                    go_wp2_with fail
                    go_quiet (fail)
                    go_wp2
                    go_roundw
                    case rel => exact ⟨i + 1, i, _, by go_num, by omega, rfl, by omega, Hq.out, rfl⟩
                    case measure => simp [intOf] <;> omega
                  · have d1 : decide (sb < si) = false := decide_eq_false c1
                    have Hq := Lib.hid (show mxF s2 (cs.length - (i + 1)) (i + 1) b = mx s2 by rw [← hq1, if_neg c1])
                    clear hq1
                    go_wp2_with fail
                    go_quiet (fail)
                    go_wp2
                    go_roundw
                    case rel => exact ⟨i + 1, b, _, by go_num, by omega, rfl, by omega, Hq.out, rfl⟩
                    case measure => simp [intOf] <;> omega
                · have hbb : mx s2 = b := by rw [← Hq0.out, show cs.length - i = 0 by omega]; rfl
                  have Hbb := Lib.hid hbb
                  clear hbb x0 x1
                  have hbx := blk_next (below_drewN wr nq) hbx
                  have hown : OwnI _ (wr.drewN nq) _ s2 := own_below (below_drewN wr nq) hown
                  have hBw := bnext hBw (below_drewN wr nq)
                  generalize wr.drewN nq = wz at *
                  rw [← Hsl.out] at hown hbx
                  obtain ⟨g4, cap6, e4, hg4, hg4s, hsb, hsf⟩ := own_at hown b hbs
                  simp only [Value.slice.injEq, true_and] at e4
                  obtain ⟨rfl, rfl⟩ := e4
                  have hzb2 := Hzs.out s2[b] (List.getElem_mem hbs)
                  have hput2 := own_put hown b (s2[b] + -1)
                  have hbx3 := blk_other (p := ⟨g4, b, none⟩) (u := .int .i64 (s2[b] + -1)) (by show g4 ≠ w.heap.size + 2; omega) hbx
                  have hBw3 := hBw.setCell (p := ⟨g4, b, none⟩) (by show wq.heap.size ≤ g4; omega) (.int .i64 (s2[b] + -1))
                  obtain ⟨x0, x1, -, -⟩ := blk2 hbx
                  have Hs1 := Lib.hid (show add1 s2 b (-1) = s2.set b (s2[b] + -1) by rw [add1, getD_eq hbs])
                  rw [← Hs1.out] at hput2
                  have hd0 := Hd.out
                  have hd1 := Hd'.out
                  have HS' := Lib.hid (show ∀ z ∈ add1 s2 b (-1), z ≤ 512 ∧ -5000 ≤ z - d' from add1_all (fun z hz => by have := Hzs.out z hz; omega) (by rw [getD_eq hbs]; omega))
                  have HU4 := Lib.hid (show dnF d' (add1 s2 b (-1)) = shfF (N : Int) cs by rw [← HF.out, Hd'.out, dnF, Hbb.out])
                  have hbl : (b : Int) < (s2.length : Int) := by omega
                  have Hdd := Lib.hid (show ((acc2 - 1) - (N : Int)).toNat = d' by omega)
                  have hlo : -5000 ≤ s2[b] := by omega
                  have hhi := hzb2.1
                  have hneg : s2[b] - 1 = s2[b] + -1 := by omega
                  have Hhead := Lib.hid (And.intro hput2 (And.intro hbx3 hBw3))
                  clear hput2 hbx3 hBw3 hown hbx hBw hd0 hd1 hzb2
                  generalize s2[b] = sb at *
                  go_wp2
                  go_roundw
                  case rel => exact ⟨acc2 - 1, d', add1 s2 b (-1), some ⟨g4, 0, none⟩, cap5, by go_num, by omega, by omega, Hdd.out, HU4.out, by rw [add1_len]; exact Hsl.out, HS'.out, by rw [← Hsl.out]; exact Hhead.out.2.1, by rw [← Hsl.out]; exact Hhead.out.1, Hhead.out.2.2⟩
                  case measure => simp [intOf] <;> omega
            · have hd0 : d2 = 0 := by have := Hd.out; omega
              have hss : s2 = shfF (N : Int) cs := by rw [← HF.out, hd0]; rfl
              have hsh : shs (m : Int) s2 = true := by rw [hss]; exact HS.out
              have HZ2 := Lib.hid (show shfZ (cs.length : Int) cs (m : Int) = s2 by rw [HZ.out, hss])
              have hi64 : AllI64 s2 := fun z hz => by
                have := Hzs.out z hz
                constructor <;> omega
              rw [← Hsl.out] at hown hbx x1
              have ho := OwnI.oi hown hi64
              have Ho := Lib.hid ho
              have hRr := blk_below hBw (show w.heap.size + 1 < wq.heap.size by omega) hR
              obtain ⟨r0, r1, q0, q1⟩ := blk2 hRr
              have hfo := (ho.box (w.heap.size + 1) (by omega) (.int .i64 m) (.slice ao5 s2.length cap5)).mono (show w.heap.size ≤ w.heap.size + 3 by omega)
              have hfB := below_box (bnext hB hBw) (w.heap.size + 1) (by omega) (.int .i64 m) (.slice ao5 s2.length cap5)
              have Hfo := Lib.hid hfo
              have HfB := Lib.hid hfB
              clear hd0 hss hi64 ho hfo hfB
              clear hb hsm hng hLi
              go_wp2_with fail
              refine (l05Shares_any (m : Int) _ s2 (w.heap.size + 2) _ Ho.out.ri x0 x1).mono ?_
              rw [hsh]
              rintro e w' ⟨rfl, rfl⟩
              clear hsh hA hR hB a0 a1 hBw hown hbx
              go_wp2
              have HFIN := Lib.hid (And.intro HZ2.out (And.intro Hfo.out HfB.out))
              refine bodyPost_ret (v := .tuple #[.agg #[.int .i64 m, .slice ao5 s2.length cap5], .bool true]) (by simp [results, Try.results8, go_sem, r0, r1]) rfl ?_
              exact ⟨_, by rw [HN.out, HOK.out], by rw [HFIN.out.1]; exact HFIN.out.2.1, HFIN.out.2.2⟩
set_option maxHeartbeats 1000000 in
theorem specShf_b1 (n : Int) (v : Value) (cs : List Int) (p : Int) (w : World) (h : RI w v cs) (hc : cts n cs = true) (hp : inB p 1 8 = true) (hn : ¬ n ≤ 2 ^ p.toNat) :
    Calls Try.prog 8 #[.agg #[.int .i64 n, v], .int .i64 p] w fun e w' => ∃ v', e = .returned (.tuple #[.agg #[.int .i64 (shfN n cs p), v'], .bool (shfOk n cs p)]) ∧ OI w.heap.size w' v' (shfZ n cs p) ∧ Below w.heap.size w w' := by
  obtain ⟨ao, cap, rfl⟩ := h.shape
  have hlen := h.len
  have hb : ∀ o o', Below w.heap.size w ((w.alloc o).alloc o') := fun o o' => by go_grown
  have g := h.below (hb (.cells #[.int .i64 n, .slice ao cs.length cap] 27) (.cells #[.int .i64 0, .slice none 0 0] 30))
  have hA : ((w.alloc (.cells #[.int .i64 n, .slice ao cs.length cap] 27)).alloc (.cells #[.int .i64 0, .slice none 0 0] 30)).heap[w.heap.size]? = some (.cells #[.int .i64 n, .slice ao cs.length cap] 27 (0, 0)) := blk_alloc (heap_alloc_new w _)
  have hR : ((w.alloc (.cells #[.int .i64 n, .slice ao cs.length cap] 27)).alloc (.cells #[.int .i64 0, .slice none 0 0] 30)).heap[w.heap.size + 1]? = some (.cells #[.int .i64 0, .slice none 0 0] 30 (0, 0)) := by
    have := heap_alloc_new (w.alloc (.cells #[.int .i64 n, .slice ao cs.length cap] 27)) (.cells #[.int .i64 0, .slice none 0 0] 30)
    rwa [World.size_alloc] at this
  have hcn : ∀ q, Calls Try.prog 27 #[.pointer (some ⟨w.heap.size, 0, none⟩)] (((w.alloc (.cells #[.int .i64 n, .slice ao cs.length cap] 27)).alloc (.cells #[.int .i64 0, .slice none 0 0] 30)).drewN q) fun e w' => e = .returned (.bool (cts n cs)) ∧ ∃ m, w' = (((w.alloc (.cells #[.int .i64 n, .slice ao cs.length cap] 27)).alloc (.cells #[.int .i64 0, .slice none 0 0] 30)).drewN q).drewN m := fun q =>
    l05Counts_any n _ cs w.heap.size _ (g.below (below_drewN _ q)) (cnext (below_drewN _ q) (by simp [go_sem])) (cnext (below_drewN _ q) (by simp [go_sem]))
  have hbad : shfOk n cs p = false := by rw [shfOk, hc, hp]; simp [hn]
  have HB := Lib.hid (show shfZ n cs p = [] ∧ shfN n cs p = 0 from ⟨by rw [shfZ, hbad]; rfl, by rw [shfN, hbad]; rfl⟩)
  have HOK := Lib.hid hbad
  clear hbad
  have hp' := inB_eq hp
  simp only [if_true] at hp'
  obtain ⟨m, rfl⟩ := Int.eq_ofNat_of_zero_le (show 0 ≤ p by omega)
  have hm8 : m ≤ 8 := by omega
  have hLi : (2 : Int) ^ m = ((2 ^ m : Nat) : Int) := by simp
  have hN256 : 2 ^ m ≤ 256 := Nat.le_trans (Nat.pow_le_pow_right (by decide) hm8) (by decide)
  rw [Int.toNat_natCast, hLi] at hn
  generalize 2 ^ m = N at *
  have hng : decide ((N : Int) < n) = true := decide_eq_true (by omega)
  simp only [hc] at hcn
  go_enter Try.func8, Try.ntmps8
  go_wp2_with fail
  have hB := hb (.cells #[.int .i64 n, .slice ao cs.length cap] 27) (.cells #[.int .i64 0, .slice none 0 0] 30)
  generalize hW0 : ((w.alloc (.cells #[.int .i64 n, .slice ao cs.length cap] 27)).alloc (.cells #[.int .i64 0, .slice none 0 0] 30)) = W0 at *
  clear hW0
  obtain ⟨a0, a1, -, -⟩ := blk2 hA
  go_quiet ((first | (go_at_call 27; exact Calls.quiet_of (hcn _)) | (go_at_call 28; exact Calls.quiet_of (qv hp (l00In_any _ _ _ _)))))
  rename_i nq
  have hRr := blk_next (below_drewN W0 nq) hR
  obtain ⟨r0, r1, q0, q1⟩ := blk2 hRr
  have HfB := Lib.hid (below_box (bnext hB (below_drewN W0 nq)) (w.heap.size + 1) (by omega) (.int .i64 0) (.slice none 0 0))
  go_wp2
  exact bodyPost_ret (v := .tuple #[.agg #[.int .i64 0, .slice none 0 0], .bool false]) (by simp [results, Try.results8, go_sem, r0, r1]) rfl ⟨.slice none 0 0, by rw [HB.out.2, HOK.out], by rw [HB.out.1]; exact OI.nil _ _, HfB.out⟩
set_option maxHeartbeats 1000000 in
theorem specShf_b2 (n : Int) (v : Value) (cs : List Int) (p : Int) (w : World) (h : RI w v cs) (hc : cts n cs = true) (hp : ¬ inB p 1 8 = true) :
    Calls Try.prog 8 #[.agg #[.int .i64 n, v], .int .i64 p] w fun e w' => ∃ v', e = .returned (.tuple #[.agg #[.int .i64 (shfN n cs p), v'], .bool (shfOk n cs p)]) ∧ OI w.heap.size w' v' (shfZ n cs p) ∧ Below w.heap.size w w' := by
  obtain ⟨ao, cap, rfl⟩ := h.shape
  have hlen := h.len
  have hb : ∀ o o', Below w.heap.size w ((w.alloc o).alloc o') := fun o o' => by go_grown
  have g := h.below (hb (.cells #[.int .i64 n, .slice ao cs.length cap] 27) (.cells #[.int .i64 0, .slice none 0 0] 30))
  have hA : ((w.alloc (.cells #[.int .i64 n, .slice ao cs.length cap] 27)).alloc (.cells #[.int .i64 0, .slice none 0 0] 30)).heap[w.heap.size]? = some (.cells #[.int .i64 n, .slice ao cs.length cap] 27 (0, 0)) := blk_alloc (heap_alloc_new w _)
  have hR : ((w.alloc (.cells #[.int .i64 n, .slice ao cs.length cap] 27)).alloc (.cells #[.int .i64 0, .slice none 0 0] 30)).heap[w.heap.size + 1]? = some (.cells #[.int .i64 0, .slice none 0 0] 30 (0, 0)) := by
    have := heap_alloc_new (w.alloc (.cells #[.int .i64 n, .slice ao cs.length cap] 27)) (.cells #[.int .i64 0, .slice none 0 0] 30)
    rwa [World.size_alloc] at this
  have hcn : ∀ q, Calls Try.prog 27 #[.pointer (some ⟨w.heap.size, 0, none⟩)] (((w.alloc (.cells #[.int .i64 n, .slice ao cs.length cap] 27)).alloc (.cells #[.int .i64 0, .slice none 0 0] 30)).drewN q) fun e w' => e = .returned (.bool (cts n cs)) ∧ ∃ m, w' = (((w.alloc (.cells #[.int .i64 n, .slice ao cs.length cap] 27)).alloc (.cells #[.int .i64 0, .slice none 0 0] 30)).drewN q).drewN m := fun q =>
    l05Counts_any n _ cs w.heap.size _ (g.below (below_drewN _ q)) (cnext (below_drewN _ q) (by simp [go_sem])) (cnext (below_drewN _ q) (by simp [go_sem]))
  have hbad : shfOk n cs p = false := by rw [shfOk, hc, show inB p 1 8 = false by simpa using hp]; rfl
  have HB := Lib.hid (show shfZ n cs p = [] ∧ shfN n cs p = 0 from ⟨by rw [shfZ, hbad]; rfl, by rw [shfN, hbad]; rfl⟩)
  have HOK := Lib.hid hbad
  clear hbad
  have hp : inB p 1 8 = false := by simpa using hp
  simp only [hc] at hcn
  go_enter Try.func8, Try.ntmps8
  go_wp2_with fail
  have hB := hb (.cells #[.int .i64 n, .slice ao cs.length cap] 27) (.cells #[.int .i64 0, .slice none 0 0] 30)
  generalize hW0 : ((w.alloc (.cells #[.int .i64 n, .slice ao cs.length cap] 27)).alloc (.cells #[.int .i64 0, .slice none 0 0] 30)) = W0 at *
  clear hW0
  obtain ⟨a0, a1, -, -⟩ := blk2 hA
  go_quiet ((first | (go_at_call 27; exact Calls.quiet_of (hcn _)) | (go_at_call 28; exact Calls.quiet_of (qv hp (l00In_any _ _ _ _)))))
  rename_i nq
  have hRr := blk_next (below_drewN W0 nq) hR
  obtain ⟨r0, r1, q0, q1⟩ := blk2 hRr
  have HfB := Lib.hid (below_box (bnext hB (below_drewN W0 nq)) (w.heap.size + 1) (by omega) (.int .i64 0) (.slice none 0 0))
  go_wp2
  exact bodyPost_ret (v := .tuple #[.agg #[.int .i64 0, .slice none 0 0], .bool false]) (by simp [results, Try.results8, go_sem, r0, r1]) rfl ⟨.slice none 0 0, by rw [HB.out.2, HOK.out], by rw [HB.out.1]; exact OI.nil _ _, HfB.out⟩
set_option maxHeartbeats 1000000 in
theorem specShf_b3 (n : Int) (v : Value) (cs : List Int) (p : Int) (w : World) (h : RI w v cs) (hc : ¬ cts n cs = true) :
    Calls Try.prog 8 #[.agg #[.int .i64 n, v], .int .i64 p] w fun e w' => ∃ v', e = .returned (.tuple #[.agg #[.int .i64 (shfN n cs p), v'], .bool (shfOk n cs p)]) ∧ OI w.heap.size w' v' (shfZ n cs p) ∧ Below w.heap.size w w' := by
  obtain ⟨ao, cap, rfl⟩ := h.shape
  have hlen := h.len
  have hb : ∀ o o', Below w.heap.size w ((w.alloc o).alloc o') := fun o o' => by go_grown
  have g := h.below (hb (.cells #[.int .i64 n, .slice ao cs.length cap] 27) (.cells #[.int .i64 0, .slice none 0 0] 30))
  have hA : ((w.alloc (.cells #[.int .i64 n, .slice ao cs.length cap] 27)).alloc (.cells #[.int .i64 0, .slice none 0 0] 30)).heap[w.heap.size]? = some (.cells #[.int .i64 n, .slice ao cs.length cap] 27 (0, 0)) := blk_alloc (heap_alloc_new w _)
  have hR : ((w.alloc (.cells #[.int .i64 n, .slice ao cs.length cap] 27)).alloc (.cells #[.int .i64 0, .slice none 0 0] 30)).heap[w.heap.size + 1]? = some (.cells #[.int .i64 0, .slice none 0 0] 30 (0, 0)) := by
    have := heap_alloc_new (w.alloc (.cells #[.int .i64 n, .slice ao cs.length cap] 27)) (.cells #[.int .i64 0, .slice none 0 0] 30)
    rwa [World.size_alloc] at this
  have hcn : ∀ q, Calls Try.prog 27 #[.pointer (some ⟨w.heap.size, 0, none⟩)] (((w.alloc (.cells #[.int .i64 n, .slice ao cs.length cap] 27)).alloc (.cells #[.int .i64 0, .slice none 0 0] 30)).drewN q) fun e w' => e = .returned (.bool (cts n cs)) ∧ ∃ m, w' = (((w.alloc (.cells #[.int .i64 n, .slice ao cs.length cap] 27)).alloc (.cells #[.int .i64 0, .slice none 0 0] 30)).drewN q).drewN m := fun q =>
    l05Counts_any n _ cs w.heap.size _ (g.below (below_drewN _ q)) (cnext (below_drewN _ q) (by simp [go_sem])) (cnext (below_drewN _ q) (by simp [go_sem]))
  have hbad : shfOk n cs p = false := by rw [shfOk, show cts n cs = false by simpa using hc]; rfl
  have HB := Lib.hid (show shfZ n cs p = [] ∧ shfN n cs p = 0 from ⟨by rw [shfZ, hbad]; rfl, by rw [shfN, hbad]; rfl⟩)
  have HOK := Lib.hid hbad
  clear hbad
  have hc : cts n cs = false := by simpa using hc
  simp only [hc] at hcn
  go_enter Try.func8, Try.ntmps8
  go_wp2_with fail
  have hB := hb (.cells #[.int .i64 n, .slice ao cs.length cap] 27) (.cells #[.int .i64 0, .slice none 0 0] 30)
  generalize hW0 : ((w.alloc (.cells #[.int .i64 n, .slice ao cs.length cap] 27)).alloc (.cells #[.int .i64 0, .slice none 0 0] 30)) = W0 at *
  clear hW0
  obtain ⟨a0, a1, -, -⟩ := blk2 hA
  go_quiet ((first | (go_at_call 27; exact Calls.quiet_of (hcn _))))
  rename_i nq
  have hRr := blk_next (below_drewN W0 nq) hR
  obtain ⟨r0, r1, q0, q1⟩ := blk2 hRr
  have HfB := Lib.hid (below_box (bnext hB (below_drewN W0 nq)) (w.heap.size + 1) (by omega) (.int .i64 0) (.slice none 0 0))
  go_wp2
  exact bodyPost_ret (v := .tuple #[.agg #[.int .i64 0, .slice none 0 0], .bool false]) (by simp [results, Try.results8, go_sem, r0, r1]) rfl ⟨.slice none 0 0, by rw [HB.out.2, HOK.out], by rw [HB.out.1]; exact OI.nil _ _, HfB.out⟩
theorem specShf_any (n : Int) (v : Value) (cs : List Int) (p : Int) (w : World) (h : RI w v cs) :
    Calls Try.prog 8 #[.agg #[.int .i64 n, v], .int .i64 p] w fun e w' => ∃ v', e = .returned (.tuple #[.agg #[.int .i64 (shfN n cs p), v'], .bool (shfOk n cs p)]) ∧ OI w.heap.size w' v' (shfZ n cs p) ∧ Below w.heap.size w w' := by
  exact if hc : cts n cs = true then if hp : inB p 1 8 = true then if hn : n ≤ 2 ^ p.toNat then specShf_ok n v cs p w h hc hp hn else specShf_b1 n v cs p w h hc hp hn else specShf_b2 n v cs p w h hc hp else specShf_b3 n v cs p w h hc
end Go.Proofs.Ytnhcoggjnbldiaa
