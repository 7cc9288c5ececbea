/- ShortenParity: what both packages return. No conditions but that the slices read. -/
import Derived.Test.YtecddfaleapggaaCyc
namespace Go.Proofs.Ytecddfaleapggaa
open Go.RowKit
set_option maxRecDepth 100000
set_option linter.unusedVariables false
set_option linter.unusedSimpArgs false

def shZ (n : Int) (zs : List Int) : List Int :=
  if hasD (gt (echR n.toNat (toN zs)) 0) (n.toNat - 1) = true then ofN ((echR n.toNat (toN zs)).drop 1) else ofN (echR n.toNat (toN zs))
def shB (n : Int) (zs : List Int) : Bool := prv n zs && decide (2 ≤ n)
def shOk (n : Int) (zs : List Int) : Bool := shB n zs && prv (n - 1) (shZ n zs)
theorem shZ_len (n : Int) (zs : List Int) : (apZ (shOk n zs) (shZ n zs)).length ≤ 16777216 := apZ_len fun h => by
  simp only [shOk, Bool.and_eq_true] at h; exact prv_len h.2
theorem nn_of' {zs : List Int} (h : zs = ofN (toN zs)) : ∀ z ∈ zs, 0 ≤ z := by rw [h]; intro z hz; obtain ⟨y, _, rfl⟩ := List.mem_map.1 hz; omega
/-- A slice of the call's own without its beginning. -/
theorem OB.og_drop {α : Type} {enc : α → Value} {B : Nat} {w : World} {g off n cap : Nat} {xs : List α} (h : OB enc B w g off n cap xs) (k : Nat) (hk : k ≤ n) : Og enc B w (.slice (some ⟨g, off + k, none⟩) (n - k) (cap - k)) (xs.drop k) := by
  obtain ⟨rfl, h1, h2, h3, h4, h5⟩ := h
  refine ⟨_, cap - k, by rw [List.length_drop], by rw [List.length_drop]; omega, by omega, fun a ha => by obtain rfl := Option.some.inj ha; exact ⟨h3, h4⟩, fun i hi => ⟨g, off + k, rfl, ?_⟩⟩
  rw [List.length_drop] at hi
  rw [List.getElem_drop, Nat.add_assoc]
  exact h5 (k + i) (by omega)
set_option maxHeartbeats 2000000 in
theorem implSho_any (n : Int) (v : Value) (zs : List Int) (w : World) (h : RI w v zs) :
    Calls Try.prog 35 #[.agg #[.int .i64 n, v]] w fun e w' => ∃ v', e = .returned (.tuple #[.agg #[.int .i64 (apN (shOk n zs) (n - 1)), v'], .bool (shOk n zs)]) ∧ OI w.heap.size w' v' (apZ (shOk n zs) (shZ n zs)) ∧ Below w.heap.size w w' := by
  obtain ⟨ao, cap, rfl⟩ := h.shape
  have hb : ∀ o o', Below w.heap.size w ((w.alloc o).alloc o') := fun o o' => by go_grown
  have g := h.below (hb (.cells #[.int .i64 n, .slice ao zs.length cap] 27) (.cells #[.int .i64 0, .slice none 0 0] 27))
  by_cases hc : prv n zs = true
  · obtain ⟨m, rfl, hm1, hm2, hl1, hl8, hzs, hlt, hk⟩ := prv_parts hc
    by_cases h2 : 2 ≤ m
    · have HOK := Lib.hid (show shOk m zs = prv ((m : Int) - 1) (shZ m zs) by
        have : (2 : Int) ≤ m := by omega
        simp [shOk, shB, hc, this])
      have Hnn := Lib.hid (nn_of' hzs)
      have Hlt := Lib.hid hlt
      have Ht := Lib.hid (toN_len zs)
      have hm65 : 2 ^ m ≤ 65536 := Nat.le_trans (Nat.pow_le_pow_right (by decide) hm2) (by decide)
      clear hzs hlt hk
      go_enter Try.func35, Try.ntmps35
      go_wp2_with fail
      refine (implParity_any _ _ zs _ g).mono ?_
      rw [hc]
      rintro e w1 ⟨rfl, hb1⟩
      have hr := blk_next hb1 (box_second w _ _ _ _)
      have k0 : w1.cell? ⟨w.heap.size, 0, none⟩ = some (.int .i64 m) := cnext hb1 (by simp [go_sem])
      have k1 : w1.cell? ⟨w.heap.size, 1, none⟩ = some (.slice ao zs.length cap) := cnext hb1 (by simp [go_sem])
      have hB : Below w.heap.size w w1 := bnext (hb _ _) hb1
      have gN := (h.below hB).2.toN Hnn.out
      have hlt0 : w.heap.size + 1 < w1.heap.size := blk_lt hr
      clear hc hb1
      go_wp2_with fail
      refine (echelon_any _ (toN zs) m hm1 hm2 _ gN (by rw [Ht.out]; exact hl1) (by rw [Ht.out]; exact hl8) Hlt.out).mono ?_
      rintro e w2 ⟨v2, rfl, ho, hb2⟩
      have hRl : (echR m (toN zs)).length = zs.length := by rw [echR_len, Ht.out]
      have hRlt := echR_lt (n := m) Hlt.out
      obtain ⟨g2, off2, cap2, hv, hob⟩ := ho.ob (by omega)
      rw [hRl] at hv hob
      subst hv
      have c0 := hob.cell 0 (by omega)
      rw [Nat.add_zero] at c0
      have hg0 := gt_eq (show 0 < (echR m (toN zs)).length by omega)
      have hx := Nat.lt_of_lt_of_le (hRlt.at 0 (by omega)) hm65
      have hcap2 := hob.capn
      have r := blk_next hb2 hr
      have k0 := cnext hb2 k0
      have hB2 := bnext hB hb2
      have hs2 := hb2.size
      have hRi := Lib.hid (ofN_i64 hRlt (Nat.le_trans (Nat.pow_le_pow_right (by decide) hm2) (by decide)))
      have w1' : IntKind.i64.wrap ((m : Int) - 1) = m - 1 := IntWalk.i64_in _ (by omega)
      have E1 := Lib.hid (show ((m : Int) - 1) = ((m - 1 : Nat) : Int) by omega)
      have hlen1 : 1 ≤ (echR m (toN zs)).length := by omega
      have hpos : 0 < zs.length := by omega
      clear gN hb2
      by_cases hd : hasD (gt (echR m (toN zs)) 0) (m - 1) = true
      · have hz : shZ m zs = ofN ((echR m (toN zs)).drop 1) := by rw [shZ, Int.toNat_natCast, if_pos hd]
        have ho1 : OI w1.heap.size w2 (.slice (some ⟨g2, off2 + 1, none⟩) (zs.length - 1) (cap2 - 1)) (shZ m zs) := by
          rw [hz]; exact ⟨fun z hz => hRi.out z (by obtain ⟨y, hy, rfl⟩ := List.mem_map.1 hz; exact List.mem_map.2 ⟨y, List.mem_of_mem_drop hy, rfl⟩), (hob.og_drop 1 (by omega)).ofN⟩
        have ho2 : zs.length = 1 → OI w1.heap.size w2 (.slice (some ⟨g2, off2, none⟩) 0 0) (shZ m zs) := fun h1 => by
          rw [hz, List.drop_of_length_le (by omega)]
          exact ⟨(by intro z hz; cases hz), _, 0, rfl, Nat.le_refl _, by unfold maxLen; omega, (fun a ha => by obtain rfl := Option.some.inj ha; exact ⟨hob.lo, hob.hi⟩), fun i hi => by simp [ofN] at hi⟩
        have Ho1 := Lib.hid ho1
        have Ho2 := Lib.hid ho2
        have Hd := Lib.hid hd
        rw [hg0] at hd
        generalize (echR m (toN zs))[0] = x at *
        clear hz ho1 ho2 hob ho hg0 hRl
        by_cases hcap1 : cap2 = 1
        · subst hcap1
          have hz1 : zs.length = 1 := by omega
          have ho := Ho2.out hz1
          clear hz1
          go_wp2_with fail
          go_quiet ((go_at_call 67; rw [E1.out]; exact Calls.quiet_of (qv hd (hasDigit_any x (m - 1) hx (by omega) _))))
          clear w1'
          go_wp2_with fail
          by_cases hpv : prv ((m : Int) - 1) (shZ m zs) = true
          · (with_reducible refine Calls.mono (asParity_any ((m : Int) - 1) _ (shZ m zs) _ (OI.below (below_drewN _ _) ho).ri) ?_)
            rw [hpv, apN_t, apV_t]
            rintro e w3 ⟨rfl, hb3⟩
            obtain ⟨r0, r1, q0, q1⟩ := blk2 (blk_next hb3 (blk_next (below_drewN _ _) r))
            have hBf := bnext (bnext hB2 (below_drewN _ _)) hb3
            have hok3 := OI.below hb3 (OI.below (below_drewN _ _) ho)
            have hfin := OI.box hok3 (w.heap.size + 1) (by omega) (.int .i64 ((m : Int) - 1)) (.slice (some ⟨g2, off2, none⟩) 0 0)
            have hfB := below_box hBf (w.heap.size + 1) (by omega) (.int .i64 ((m : Int) - 1)) (.slice (some ⟨g2, off2, none⟩) 0 0)
            have Hf := Lib.hid hfin
            have HP := Lib.hid hpv
            clear hok3 hfin hpv
            go_wp2
            exact bodyPost_ret (v := .tuple #[.agg #[.int .i64 ((m : Int) - 1), (.slice (some ⟨g2, off2, none⟩) 0 0)], .bool true]) (by simp [results, Try.results35, go_sem, r0, r1]) rfl ⟨(.slice (some ⟨g2, off2, none⟩) 0 0), by rw [HOK.out, HP.out]; rfl, by rw [HOK.out, HP.out]; exact OI.mono (by omega) Hf.out, hfB⟩
          · have hpv : prv ((m : Int) - 1) (shZ m zs) = false := by simpa using hpv
            (with_reducible refine Calls.mono (asParity_any ((m : Int) - 1) _ (shZ m zs) _ (OI.below (below_drewN _ _) ho).ri) ?_)
            rw [hpv, apN_f, apV_f]
            rintro e w3 ⟨rfl, hb3⟩
            obtain ⟨r0, r1, q0, q1⟩ := blk2 (blk_next hb3 (blk_next (below_drewN _ _) r))
            have hBf := bnext (bnext hB2 (below_drewN _ _)) hb3
            have hfB := below_box hBf (w.heap.size + 1) (by omega) (.int .i64 0) (.slice none 0 0)
            have HP := Lib.hid hpv
            clear hpv
            go_wp2
            exact bodyPost_ret (v := .tuple #[.agg #[.int .i64 0, .slice none 0 0], .bool false]) (by simp [results, Try.results35, go_sem, r0, r1]) rfl ⟨.slice none 0 0, by rw [HOK.out, HP.out]; rfl, by rw [HOK.out, HP.out]; exact OI.nil _ _, hfB⟩
        · have hcap3 : 1 < cap2 := by omega
          have ho := Ho1.out
          go_wp2_with fail
          go_quiet ((go_at_call 67; rw [E1.out]; exact Calls.quiet_of (qv hd (hasDigit_any x (m - 1) hx (by omega) _))))
          clear w1'
          go_wp2_with fail
          by_cases hpv : prv ((m : Int) - 1) (shZ m zs) = true
          · (with_reducible refine Calls.mono (asParity_any ((m : Int) - 1) _ (shZ m zs) _ (OI.below (below_drewN _ _) ho).ri) ?_)
            rw [hpv, apN_t, apV_t]
            rintro e w3 ⟨rfl, hb3⟩
            obtain ⟨r0, r1, q0, q1⟩ := blk2 (blk_next hb3 (blk_next (below_drewN _ _) r))
            have hBf := bnext (bnext hB2 (below_drewN _ _)) hb3
            have hok3 := OI.below hb3 (OI.below (below_drewN _ _) ho)
            have hfin := OI.box hok3 (w.heap.size + 1) (by omega) (.int .i64 ((m : Int) - 1)) (.slice (some ⟨g2, off2 + 1, none⟩) (zs.length - 1) (cap2 - 1))
            have hfB := below_box hBf (w.heap.size + 1) (by omega) (.int .i64 ((m : Int) - 1)) (.slice (some ⟨g2, off2 + 1, none⟩) (zs.length - 1) (cap2 - 1))
            have Hf := Lib.hid hfin
            have HP := Lib.hid hpv
            clear hok3 hfin hpv
            go_wp2
            exact bodyPost_ret (v := .tuple #[.agg #[.int .i64 ((m : Int) - 1), (.slice (some ⟨g2, off2 + 1, none⟩) (zs.length - 1) (cap2 - 1))], .bool true]) (by simp [results, Try.results35, go_sem, r0, r1]) rfl ⟨(.slice (some ⟨g2, off2 + 1, none⟩) (zs.length - 1) (cap2 - 1)), by rw [HOK.out, HP.out]; rfl, by rw [HOK.out, HP.out]; exact OI.mono (by omega) Hf.out, hfB⟩
          · have hpv : prv ((m : Int) - 1) (shZ m zs) = false := by simpa using hpv
            (with_reducible refine Calls.mono (asParity_any ((m : Int) - 1) _ (shZ m zs) _ (OI.below (below_drewN _ _) ho).ri) ?_)
            rw [hpv, apN_f, apV_f]
            rintro e w3 ⟨rfl, hb3⟩
            obtain ⟨r0, r1, q0, q1⟩ := blk2 (blk_next hb3 (blk_next (below_drewN _ _) r))
            have hBf := bnext (bnext hB2 (below_drewN _ _)) hb3
            have hfB := below_box hBf (w.heap.size + 1) (by omega) (.int .i64 0) (.slice none 0 0)
            have HP := Lib.hid hpv
            clear hpv
            go_wp2
            exact bodyPost_ret (v := .tuple #[.agg #[.int .i64 0, .slice none 0 0], .bool false]) (by simp [results, Try.results35, go_sem, r0, r1]) rfl ⟨.slice none 0 0, by rw [HOK.out, HP.out]; rfl, by rw [HOK.out, HP.out]; exact OI.nil _ _, hfB⟩
      · have hd : hasD (gt (echR m (toN zs)) 0) (m - 1) = false := by simpa using hd
        have ho : OI w1.heap.size w2 (.slice (some ⟨g2, off2, none⟩) zs.length cap2) (shZ m zs) := by
          rw [shZ, Int.toNat_natCast, if_neg (by rw [hd]; decide)]
          exact ⟨hRi.out, hob.og.ofN⟩
        have Hd := Lib.hid hd
        rw [hg0] at hd
        generalize (echR m (toN zs))[0] = x at *
        clear hob hg0 hRl
        go_wp2_with fail
        go_quiet ((go_at_call 67; rw [E1.out]; exact Calls.quiet_of (qv hd (hasDigit_any x (m - 1) hx (by omega) _))))
        clear w1'
        go_wp2_with fail
        by_cases hpv : prv ((m : Int) - 1) (shZ m zs) = true
        · (with_reducible refine Calls.mono (asParity_any ((m : Int) - 1) _ (shZ m zs) _ (OI.below (below_drewN _ _) ho).ri) ?_)
          rw [hpv, apN_t, apV_t]
          rintro e w3 ⟨rfl, hb3⟩
          obtain ⟨r0, r1, q0, q1⟩ := blk2 (blk_next hb3 (blk_next (below_drewN _ _) r))
          have hBf := bnext (bnext hB2 (below_drewN _ _)) hb3
          have hok3 := OI.below hb3 (OI.below (below_drewN _ _) ho)
          have hfin := OI.box hok3 (w.heap.size + 1) (by omega) (.int .i64 ((m : Int) - 1)) (.slice (some ⟨g2, off2, none⟩) zs.length cap2)
          have hfB := below_box hBf (w.heap.size + 1) (by omega) (.int .i64 ((m : Int) - 1)) (.slice (some ⟨g2, off2, none⟩) zs.length cap2)
          have Hf := Lib.hid hfin
          have HP := Lib.hid hpv
          clear hok3 hfin hpv
          go_wp2
          exact bodyPost_ret (v := .tuple #[.agg #[.int .i64 ((m : Int) - 1), (.slice (some ⟨g2, off2, none⟩) zs.length cap2)], .bool true]) (by simp [results, Try.results35, go_sem, r0, r1]) rfl ⟨(.slice (some ⟨g2, off2, none⟩) zs.length cap2), by rw [HOK.out, HP.out]; rfl, by rw [HOK.out, HP.out]; exact OI.mono (by omega) Hf.out, hfB⟩
        · have hpv : prv ((m : Int) - 1) (shZ m zs) = false := by simpa using hpv
          (with_reducible refine Calls.mono (asParity_any ((m : Int) - 1) _ (shZ m zs) _ (OI.below (below_drewN _ _) ho).ri) ?_)
          rw [hpv, apN_f, apV_f]
          rintro e w3 ⟨rfl, hb3⟩
          obtain ⟨r0, r1, q0, q1⟩ := blk2 (blk_next hb3 (blk_next (below_drewN _ _) r))
          have hBf := bnext (bnext hB2 (below_drewN _ _)) hb3
          have hfB := below_box hBf (w.heap.size + 1) (by omega) (.int .i64 0) (.slice none 0 0)
          have HP := Lib.hid hpv
          clear hpv
          go_wp2
          exact bodyPost_ret (v := .tuple #[.agg #[.int .i64 0, .slice none 0 0], .bool false]) (by simp [results, Try.results35, go_sem, r0, r1]) rfl ⟨.slice none 0 0, by rw [HOK.out, HP.out]; rfl, by rw [HOK.out, HP.out]; exact OI.nil _ _, hfB⟩
    · have HOK := Lib.hid (show shOk m zs = false by
        have : ¬ (2 : Int) ≤ m := by omega
        simp [shOk, shB, this])
      have h2' : (m : Int) < 2 := by omega
      clear hzs hlt hk h2 hm1 hm2 hl1 hl8
      generalize (m : Int) = q at *
      go_enter Try.func35, Try.ntmps35
      go_wp2_with fail
      refine (implParity_any _ _ zs _ g).mono ?_
      rw [hc]
      rintro e w1 ⟨rfl, hb1⟩
      obtain ⟨r0, r1, q0, q1⟩ := blk2 (blk_next hb1 (box_second w _ _ _ _))
      have k0 : w1.cell? ⟨w.heap.size, 0, none⟩ = some (.int .i64 q) := cnext hb1 (by simp [go_sem])
      have hB : Below w.heap.size w w1 := bnext (hb _ _) hb1
      have hfB := below_box hB (w.heap.size + 1) (by omega) (.int .i64 0) (.slice none 0 0)
      clear hc
      go_wp2
      exact bodyPost_ret (v := .tuple #[.agg #[.int .i64 0, .slice none 0 0], .bool false]) (by simp [results, Try.results35, go_sem, r0, r1]) rfl ⟨.slice none 0 0, by rw [HOK.out]; rfl, by rw [HOK.out]; exact OI.nil _ _, hfB⟩
  · have hc : prv n zs = false := by simpa using hc
    have HOK := Lib.hid (show shOk n zs = false by simp [shOk, shB, hc])
    go_enter Try.func35, Try.ntmps35
    go_wp2_with fail
    refine (implParity_any _ _ zs _ g).mono ?_
    rw [hc]
    rintro e w1 ⟨rfl, hb1⟩
    obtain ⟨r0, r1, q0, q1⟩ := blk2 (blk_next hb1 (box_second w _ _ _ _))
    have hB : Below w.heap.size w w1 := bnext (hb _ _) hb1
    have hfB := below_box hB (w.heap.size + 1) (by omega) (.int .i64 0) (.slice none 0 0)
    go_wp2
    exact bodyPost_ret (v := .tuple #[.agg #[.int .i64 0, .slice none 0 0], .bool false]) (by simp [results, Try.results35, go_sem, r0, r1]) rfl ⟨.slice none 0 0, by rw [HOK.out]; rfl, by rw [HOK.out]; exact OI.nil _ _, hfB⟩
set_option maxHeartbeats 2000000 in
theorem specSho_any (n : Int) (v : Value) (zs : List Int) (w : World) (h : RI w v zs) :
    Calls Try.prog 34 #[.agg #[.int .i64 n, v]] w fun e w' => ∃ v', e = .returned (.tuple #[.agg #[.int .i64 (apN (shOk n zs) (n - 1)), v'], .bool (shOk n zs)]) ∧ OI w.heap.size w' v' (apZ (shOk n zs) (shZ n zs)) ∧ Below w.heap.size w w' := by
  obtain ⟨ao, cap, rfl⟩ := h.shape
  have hb : ∀ o o', Below w.heap.size w ((w.alloc o).alloc o') := fun o o' => by go_grown
  have g := h.below (hb (.cells #[.int .i64 n, .slice ao zs.length cap] 27) (.cells #[.int .i64 0, .slice none 0 0] 27))
  by_cases hc : prv n zs = true
  · obtain ⟨m, rfl, hm1, hm2, hl1, hl8, hzs, hlt, hk⟩ := prv_parts hc
    by_cases h2 : 2 ≤ m
    · have HOK := Lib.hid (show shOk m zs = prv ((m : Int) - 1) (shZ m zs) by
        have : (2 : Int) ≤ m := by omega
        simp [shOk, shB, hc, this])
      have Hnn := Lib.hid (nn_of' hzs)
      have Hlt := Lib.hid hlt
      have Ht := Lib.hid (toN_len zs)
      have hm65 : 2 ^ m ≤ 65536 := Nat.le_trans (Nat.pow_le_pow_right (by decide) hm2) (by decide)
      clear hzs hlt hk
      go_enter Try.func34, Try.ntmps34
      go_wp2_with fail
      refine (l06Is_any _ _ zs w.heap.size _ g (by simp [go_sem] <;> rfl) (by simp [go_sem] <;> rfl)).mono ?_
      rw [hc]
      rintro e w1 ⟨rfl, hb1⟩
      have hr := blk_next hb1 (box_second w _ _ _ _)
      have k0 : w1.cell? ⟨w.heap.size, 0, none⟩ = some (.int .i64 m) := cnext hb1 (by simp [go_sem])
      have k1 : w1.cell? ⟨w.heap.size, 1, none⟩ = some (.slice ao zs.length cap) := cnext hb1 (by simp [go_sem])
      have hB : Below w.heap.size w w1 := bnext (hb _ _) hb1
      have gN := (h.below hB).2.toN Hnn.out
      have hlt0 : w.heap.size + 1 < w1.heap.size := blk_lt hr
      clear hc hb1
      go_wp2_with fail
      refine (l06Steps_any _ (toN zs) m hm1 hm2 _ gN (by rw [Ht.out]; exact hl1) (by rw [Ht.out]; exact hl8) Hlt.out).mono ?_
      rintro e w2 ⟨v2, rfl, ho, hb2⟩
      have hRl : (echR m (toN zs)).length = zs.length := by rw [echR_len, Ht.out]
      have hRlt := echR_lt (n := m) Hlt.out
      obtain ⟨g2, off2, cap2, hv, hob⟩ := ho.ob (by omega)
      rw [hRl] at hv hob
      subst hv
      have c0 := hob.cell 0 (by omega)
      rw [Nat.add_zero] at c0
      have hg0 := gt_eq (show 0 < (echR m (toN zs)).length by omega)
      have hx := Nat.lt_of_lt_of_le (hRlt.at 0 (by omega)) hm65
      have hcap2 := hob.capn
      have r := blk_next hb2 hr
      have k0 := cnext hb2 k0
      have hB2 := bnext hB hb2
      have hs2 := hb2.size
      have hRi := Lib.hid (ofN_i64 hRlt (Nat.le_trans (Nat.pow_le_pow_right (by decide) hm2) (by decide)))
      have w1' : IntKind.i64.wrap ((m : Int) - 1) = m - 1 := IntWalk.i64_in _ (by omega)
      have E1 := Lib.hid (show ((m : Int) - 1) = ((m - 1 : Nat) : Int) by omega)
      have hlen1 : 1 ≤ (echR m (toN zs)).length := by omega
      have hpos : 0 < zs.length := by omega
      clear gN hb2
      by_cases hd : hasD (gt (echR m (toN zs)) 0) (m - 1) = true
      · have hz : shZ m zs = ofN ((echR m (toN zs)).drop 1) := by rw [shZ, Int.toNat_natCast, if_pos hd]
        have ho1 : OI w1.heap.size w2 (.slice (some ⟨g2, off2 + 1, none⟩) (zs.length - 1) (cap2 - 1)) (shZ m zs) := by
          rw [hz]; exact ⟨fun z hz => hRi.out z (by obtain ⟨y, hy, rfl⟩ := List.mem_map.1 hz; exact List.mem_map.2 ⟨y, List.mem_of_mem_drop hy, rfl⟩), (hob.og_drop 1 (by omega)).ofN⟩
        have ho2 : zs.length = 1 → OI w1.heap.size w2 (.slice (some ⟨g2, off2, none⟩) 0 0) (shZ m zs) := fun h1 => by
          rw [hz, List.drop_of_length_le (by omega)]
          exact ⟨(by intro z hz; cases hz), _, 0, rfl, Nat.le_refl _, by unfold maxLen; omega, (fun a ha => by obtain rfl := Option.some.inj ha; exact ⟨hob.lo, hob.hi⟩), fun i hi => by simp [ofN] at hi⟩
        have Ho1 := Lib.hid ho1
        have Ho2 := Lib.hid ho2
        have Hd := Lib.hid hd
        rw [hg0] at hd
        generalize (echR m (toN zs))[0] = x at *
        clear hz ho1 ho2 hob ho hg0 hRl
        by_cases hcap1 : cap2 = 1
        · subst hcap1
          have hz1 : zs.length = 1 := by omega
          have ho := Ho2.out hz1
          clear hz1
          go_wp2_with fail
          go_quiet ((go_at_call 66; rw [E1.out]; exact Calls.quiet_of (qv hd (l06Has_any x (m - 1) hx (by omega) _))))
          clear w1'
          go_wp2_with fail
          by_cases hpv : prv ((m : Int) - 1) (shZ m zs) = true
          · (with_reducible refine Calls.mono (l06Give_any ((m : Int) - 1) _ (shZ m zs) _ (OI.below (below_drewN _ _) ho).ri) ?_)
            rw [hpv, apN_t, apV_t]
            rintro e w3 ⟨rfl, hb3⟩
            obtain ⟨r0, r1, q0, q1⟩ := blk2 (blk_next hb3 (blk_next (below_drewN _ _) r))
            have hBf := bnext (bnext hB2 (below_drewN _ _)) hb3
            have hok3 := OI.below hb3 (OI.below (below_drewN _ _) ho)
            have hfin := OI.box hok3 (w.heap.size + 1) (by omega) (.int .i64 ((m : Int) - 1)) (.slice (some ⟨g2, off2, none⟩) 0 0)
            have hfB := below_box hBf (w.heap.size + 1) (by omega) (.int .i64 ((m : Int) - 1)) (.slice (some ⟨g2, off2, none⟩) 0 0)
            have Hf := Lib.hid hfin
            have HP := Lib.hid hpv
            clear hok3 hfin hpv
            go_wp2
            exact bodyPost_ret (v := .tuple #[.agg #[.int .i64 ((m : Int) - 1), (.slice (some ⟨g2, off2, none⟩) 0 0)], .bool true]) (by simp [results, Try.results34, go_sem, r0, r1]) rfl ⟨(.slice (some ⟨g2, off2, none⟩) 0 0), by rw [HOK.out, HP.out]; rfl, by rw [HOK.out, HP.out]; exact OI.mono (by omega) Hf.out, hfB⟩
          · have hpv : prv ((m : Int) - 1) (shZ m zs) = false := by simpa using hpv
            (with_reducible refine Calls.mono (l06Give_any ((m : Int) - 1) _ (shZ m zs) _ (OI.below (below_drewN _ _) ho).ri) ?_)
            rw [hpv, apN_f, apV_f]
            rintro e w3 ⟨rfl, hb3⟩
            obtain ⟨r0, r1, q0, q1⟩ := blk2 (blk_next hb3 (blk_next (below_drewN _ _) r))
            have hBf := bnext (bnext hB2 (below_drewN _ _)) hb3
            have hfB := below_box hBf (w.heap.size + 1) (by omega) (.int .i64 0) (.slice none 0 0)
            have HP := Lib.hid hpv
            clear hpv
            go_wp2
            exact bodyPost_ret (v := .tuple #[.agg #[.int .i64 0, .slice none 0 0], .bool false]) (by simp [results, Try.results34, go_sem, r0, r1]) rfl ⟨.slice none 0 0, by rw [HOK.out, HP.out]; rfl, by rw [HOK.out, HP.out]; exact OI.nil _ _, hfB⟩
        · have hcap3 : 1 < cap2 := by omega
          have ho := Ho1.out
          go_wp2_with fail
          go_quiet ((go_at_call 66; rw [E1.out]; exact Calls.quiet_of (qv hd (l06Has_any x (m - 1) hx (by omega) _))))
          clear w1'
          go_wp2_with fail
          by_cases hpv : prv ((m : Int) - 1) (shZ m zs) = true
          · (with_reducible refine Calls.mono (l06Give_any ((m : Int) - 1) _ (shZ m zs) _ (OI.below (below_drewN _ _) ho).ri) ?_)
            rw [hpv, apN_t, apV_t]
            rintro e w3 ⟨rfl, hb3⟩
            obtain ⟨r0, r1, q0, q1⟩ := blk2 (blk_next hb3 (blk_next (below_drewN _ _) r))
            have hBf := bnext (bnext hB2 (below_drewN _ _)) hb3
            have hok3 := OI.below hb3 (OI.below (below_drewN _ _) ho)
            have hfin := OI.box hok3 (w.heap.size + 1) (by omega) (.int .i64 ((m : Int) - 1)) (.slice (some ⟨g2, off2 + 1, none⟩) (zs.length - 1) (cap2 - 1))
            have hfB := below_box hBf (w.heap.size + 1) (by omega) (.int .i64 ((m : Int) - 1)) (.slice (some ⟨g2, off2 + 1, none⟩) (zs.length - 1) (cap2 - 1))
            have Hf := Lib.hid hfin
            have HP := Lib.hid hpv
            clear hok3 hfin hpv
            go_wp2
            exact bodyPost_ret (v := .tuple #[.agg #[.int .i64 ((m : Int) - 1), (.slice (some ⟨g2, off2 + 1, none⟩) (zs.length - 1) (cap2 - 1))], .bool true]) (by simp [results, Try.results34, go_sem, r0, r1]) rfl ⟨(.slice (some ⟨g2, off2 + 1, none⟩) (zs.length - 1) (cap2 - 1)), by rw [HOK.out, HP.out]; rfl, by rw [HOK.out, HP.out]; exact OI.mono (by omega) Hf.out, hfB⟩
          · have hpv : prv ((m : Int) - 1) (shZ m zs) = false := by simpa using hpv
            (with_reducible refine Calls.mono (l06Give_any ((m : Int) - 1) _ (shZ m zs) _ (OI.below (below_drewN _ _) ho).ri) ?_)
            rw [hpv, apN_f, apV_f]
            rintro e w3 ⟨rfl, hb3⟩
            obtain ⟨r0, r1, q0, q1⟩ := blk2 (blk_next hb3 (blk_next (below_drewN _ _) r))
            have hBf := bnext (bnext hB2 (below_drewN _ _)) hb3
            have hfB := below_box hBf (w.heap.size + 1) (by omega) (.int .i64 0) (.slice none 0 0)
            have HP := Lib.hid hpv
            clear hpv
            go_wp2
            exact bodyPost_ret (v := .tuple #[.agg #[.int .i64 0, .slice none 0 0], .bool false]) (by simp [results, Try.results34, go_sem, r0, r1]) rfl ⟨.slice none 0 0, by rw [HOK.out, HP.out]; rfl, by rw [HOK.out, HP.out]; exact OI.nil _ _, hfB⟩
      · have hd : hasD (gt (echR m (toN zs)) 0) (m - 1) = false := by simpa using hd
        have ho : OI w1.heap.size w2 (.slice (some ⟨g2, off2, none⟩) zs.length cap2) (shZ m zs) := by
          rw [shZ, Int.toNat_natCast, if_neg (by rw [hd]; decide)]
          exact ⟨hRi.out, hob.og.ofN⟩
        have Hd := Lib.hid hd
        rw [hg0] at hd
        generalize (echR m (toN zs))[0] = x at *
        clear hob hg0 hRl
        go_wp2_with fail
        go_quiet ((go_at_call 66; rw [E1.out]; exact Calls.quiet_of (qv hd (l06Has_any x (m - 1) hx (by omega) _))))
        clear w1'
        go_wp2_with fail
        by_cases hpv : prv ((m : Int) - 1) (shZ m zs) = true
        · (with_reducible refine Calls.mono (l06Give_any ((m : Int) - 1) _ (shZ m zs) _ (OI.below (below_drewN _ _) ho).ri) ?_)
          rw [hpv, apN_t, apV_t]
          rintro e w3 ⟨rfl, hb3⟩
          obtain ⟨r0, r1, q0, q1⟩ := blk2 (blk_next hb3 (blk_next (below_drewN _ _) r))
          have hBf := bnext (bnext hB2 (below_drewN _ _)) hb3
          have hok3 := OI.below hb3 (OI.below (below_drewN _ _) ho)
          have hfin := OI.box hok3 (w.heap.size + 1) (by omega) (.int .i64 ((m : Int) - 1)) (.slice (some ⟨g2, off2, none⟩) zs.length cap2)
          have hfB := below_box hBf (w.heap.size + 1) (by omega) (.int .i64 ((m : Int) - 1)) (.slice (some ⟨g2, off2, none⟩) zs.length cap2)
          have Hf := Lib.hid hfin
          have HP := Lib.hid hpv
          clear hok3 hfin hpv
          go_wp2
          exact bodyPost_ret (v := .tuple #[.agg #[.int .i64 ((m : Int) - 1), (.slice (some ⟨g2, off2, none⟩) zs.length cap2)], .bool true]) (by simp [results, Try.results34, go_sem, r0, r1]) rfl ⟨(.slice (some ⟨g2, off2, none⟩) zs.length cap2), by rw [HOK.out, HP.out]; rfl, by rw [HOK.out, HP.out]; exact OI.mono (by omega) Hf.out, hfB⟩
        · have hpv : prv ((m : Int) - 1) (shZ m zs) = false := by simpa using hpv
          (with_reducible refine Calls.mono (l06Give_any ((m : Int) - 1) _ (shZ m zs) _ (OI.below (below_drewN _ _) ho).ri) ?_)
          rw [hpv, apN_f, apV_f]
          rintro e w3 ⟨rfl, hb3⟩
          obtain ⟨r0, r1, q0, q1⟩ := blk2 (blk_next hb3 (blk_next (below_drewN _ _) r))
          have hBf := bnext (bnext hB2 (below_drewN _ _)) hb3
          have hfB := below_box hBf (w.heap.size + 1) (by omega) (.int .i64 0) (.slice none 0 0)
          have HP := Lib.hid hpv
          clear hpv
          go_wp2
          exact bodyPost_ret (v := .tuple #[.agg #[.int .i64 0, .slice none 0 0], .bool false]) (by simp [results, Try.results34, go_sem, r0, r1]) rfl ⟨.slice none 0 0, by rw [HOK.out, HP.out]; rfl, by rw [HOK.out, HP.out]; exact OI.nil _ _, hfB⟩
    · have HOK := Lib.hid (show shOk m zs = false by
        have : ¬ (2 : Int) ≤ m := by omega
        simp [shOk, shB, this])
      have h2' : (m : Int) < 2 := by omega
      clear hzs hlt hk h2 hm1 hm2 hl1 hl8
      generalize (m : Int) = q at *
      go_enter Try.func34, Try.ntmps34
      go_wp2_with fail
      refine (l06Is_any _ _ zs w.heap.size _ g (by simp [go_sem] <;> rfl) (by simp [go_sem] <;> rfl)).mono ?_
      rw [hc]
      rintro e w1 ⟨rfl, hb1⟩
      obtain ⟨r0, r1, q0, q1⟩ := blk2 (blk_next hb1 (box_second w _ _ _ _))
      have k0 : w1.cell? ⟨w.heap.size, 0, none⟩ = some (.int .i64 q) := cnext hb1 (by simp [go_sem])
      have hB : Below w.heap.size w w1 := bnext (hb _ _) hb1
      have hfB := below_box hB (w.heap.size + 1) (by omega) (.int .i64 0) (.slice none 0 0)
      clear hc
      go_wp2
      exact bodyPost_ret (v := .tuple #[.agg #[.int .i64 0, .slice none 0 0], .bool false]) (by simp [results, Try.results34, go_sem, r0, r1]) rfl ⟨.slice none 0 0, by rw [HOK.out]; rfl, by rw [HOK.out]; exact OI.nil _ _, hfB⟩
  · have hc : prv n zs = false := by simpa using hc
    have HOK := Lib.hid (show shOk n zs = false by simp [shOk, shB, hc])
    go_enter Try.func34, Try.ntmps34
    go_wp2_with fail
    refine (l06Is_any _ _ zs w.heap.size _ g (by simp [go_sem] <;> rfl) (by simp [go_sem] <;> rfl)).mono ?_
    rw [hc]
    rintro e w1 ⟨rfl, hb1⟩
    obtain ⟨r0, r1, q0, q1⟩ := blk2 (blk_next hb1 (box_second w _ _ _ _))
    have hB : Below w.heap.size w w1 := bnext (hb _ _) hb1
    have hfB := below_box hB (w.heap.size + 1) (by omega) (.int .i64 0) (.slice none 0 0)
    go_wp2
    exact bodyPost_ret (v := .tuple #[.agg #[.int .i64 0, .slice none 0 0], .bool false]) (by simp [results, Try.results34, go_sem, r0, r1]) rfl ⟨.slice none 0 0, by rw [HOK.out]; rfl, by rw [HOK.out]; exact OI.nil _ _, hfB⟩
end Go.Proofs.Ytecddfaleapggaa
