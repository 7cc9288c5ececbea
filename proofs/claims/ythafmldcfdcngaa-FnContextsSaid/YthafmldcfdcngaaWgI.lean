/- WeighBits in the program. No conditions but that the slice reads. -/
import Derived.Test.YthafmldcfdcngaaGbI
import Derived.Test.YthafmldcfdcngaaWgS
namespace Go.Proofs.Ythafmldcfdcngaa
open Go.RowKit
set_option maxRecDepth 100000
set_option linter.unusedVariables false
set_option linter.unusedSimpArgs false

/-- The weighed logarithms of all contexts of a length. -/
def lvL (bits : List Bool) (d m : Nat) : List Nat := (List.range (2 ^ m)).map fun c => wgW bits d (d - m) c
theorem lvL_len (bits : List Bool) (d m : Nat) : (lvL bits d m).length = 2 ^ m := by simp [lvL]
theorem lvL_get (bits : List Bool) (d m c : Nat) (h : c < (lvL bits d m).length) : (lvL bits d m)[c] = wgW bits d (d - m) c := by simp [lvL]
theorem lvL_top (bits : List Bool) (d : Nat) : smL bits d bits.length = lvL bits d d := by
  unfold smL lvL; rw [Nat.sub_self]; rfl
/-- The same, the first k of them done. -/
def nxL (bits : List Bool) (d m k : Nat) : List Nat := (List.range (2 ^ m)).map fun c => if c < k then wgW bits d (d - m) c else smW bits m c bits.length
theorem nxL_len (bits : List Bool) (d m k : Nat) : (nxL bits d m k).length = 2 ^ m := by simp [nxL]
theorem nxL_zero (bits : List Bool) (d m : Nat) : smL bits m bits.length = nxL bits d m 0 := by
  unfold smL nxL; simp
theorem nxL_full (bits : List Bool) (d m : Nat) : nxL bits d m (2 ^ m) = lvL bits d m := by
  unfold nxL lvL
  refine List.map_congr_left fun c hc => ?_
  rw [if_pos (List.mem_range.1 hc)]
theorem nxL_get (bits : List Bool) (d m k : Nat) (h : k < (nxL bits d m k).length) : (nxL bits d m k)[k] = smW bits m k bits.length := by simp [nxL]
theorem nxL_step (bits : List Bool) (d m k : Nat) : nxL bits d m (k + 1) = (nxL bits d m k).set k (wgW bits d (d - m) k) := by
  refine List.ext_getElem? fun i => ?_
  rw [List.getElem?_set]
  by_cases hi : i < 2 ^ m
  · simp only [nxL, List.getElem?_map, List.getElem?_range hi, Option.map_some, List.length_map, List.length_range]
    by_cases e : k = i
    · subst e; rw [if_pos (Nat.lt_succ_self _), if_pos rfl, if_pos hi]
    · rw [if_neg e]
      by_cases h : i < k
      · rw [if_pos h, if_pos (by omega)]
      · rw [if_neg h, if_neg (by omega)]
  · rw [List.getElem?_eq_none (by rw [nxL_len]; omega), nxL_len]
    split
    · rw [if_neg (by omega)]
    · rw [List.getElem?_eq_none (by rw [nxL_len]; omega)]
theorem half_pos {y : Rat} (h : 1 / 2 ≤ y) : 0 < y := by grind
/-- The greater and the less of two, as the builtin functions take them. -/
theorem mm_num {e s : Nat} {E S : Rat} {k0 : Int} (he : Num .f32 e E) (hs : Num .f32 s S) (we : e < 2 * FloatKind.f32.format.signWeight) (ws : s < 2 * FloatKind.f32.format.signWeight) (be : Bd k0 E) (bs : Bd k0 S) :
    ∃ mx mn M L, (∀ (P : Program) (w : World) (ts : Array TypeId) (t : TypeId), (Builtin.max_ ts t #[.float .f32 e, .float .f32 s]).run P w = .ok (.float .f32 mx) w) ∧ (∀ (P : Program) (w : World) (ts : Array TypeId) (t : TypeId), (Builtin.min_ ts t #[.float .f32 e, .float .f32 s]).run P w = .ok (.float .f32 mn) w) ∧
      Num .f32 mx M ∧ Num .f32 mn L ∧ L ≤ M ∧ Bd k0 M ∧ Bd k0 L ∧ fadd .f32 mx (LOG (hwW (fsub .f32 mn mx))) = cbW e s := by
  have ho := order_num he hs
  rcases (show E < S ∨ S < E ∨ E = S by grind) with h | h | h
  · rw [cmp_lt.2 h] at ho
    refine ⟨s, e, S, E, fun P w ts t => ?_, fun P w ts t => ?_, hs, he, Rat.le_of_lt h, bs, be, ?_⟩
    · simp [Builtin.max_, Builtin.max2, ho]
    · simp [Builtin.min_, Builtin.min2, ho]
    · unfold cbW; rw [gt_iff he hs, decide_eq_true h]; rfl
  · rw [cmp_gt.2 h] at ho
    refine ⟨e, s, E, S, fun P w ts t => ?_, fun P w ts t => ?_, he, hs, Rat.le_of_lt h, be, bs, ?_⟩
    · simp [Builtin.max_, Builtin.max2, ho]
    · simp [Builtin.min_, Builtin.min2, ho]
    · unfold cbW; rw [gt_iff he hs, decide_eq_false (by grind)]; rfl
  · subst h
    rw [cmp_eq.2 rfl] at ho
    have hq := cb_eq he hs we ws _ rfl
    refine ⟨if (FloatKind.f32.decode e).neg = true then s else e, if (FloatKind.f32.decode e).neg = true then e else s, E, E, fun P w ts t => ?_, fun P w ts t => ?_, ?_, ?_, Rat.le_refl, be, be, hq⟩
    · simp [Builtin.max_, Builtin.max2, ho]
    · simp [Builtin.min_, Builtin.min2, ho]
    · split <;> assumption
    · split <;> assumption
theorem exp_le (d : Nat) (D : Rat) (h : Num .f32 d D) (h0 : D ≤ 0) (w : World) :
    Calls Try.prog 18 #[.float .f32 d] w fun e w' => e = .returned (.float .f32 (exA d)) ∧ w = w' := by
  by_cases hl : D < -200
  · rw [exA_low h hl]; exact exp_low d D h hl w
  · rw [exA_high h hl]; exact exp_any d D h (by grind) (by grind) (ex_neg h h0 (by grind)).1 w
attribute [local go_sem] run_store_float
theorem two_pows (m : Nat) : 2 ^ (m + 1) = 2 ^ m + 2 ^ m := by rw [Nat.pow_succ]; omega
set_option maxHeartbeats 4000000 in
theorem implWg_any (v : Value) (bits : List Bool) (deep : Int) (w : World) (h : Rg Value.bool w v bits) :
    Calls Try.prog 7 #[v, .int .i64 deep] w fun e w' => e = .returned (.tuple #[.float .f32 (wbV bits deep), .bool (tld bits deep)]) ∧ Below w.heap.size w w' := by
  cases ht : tld bits deep
  · have hv : wbV bits deep = 0 := by simp [wbV, ht]
    rw [hv]
    go_enter Try.func7, Try.ntmps7
    go_wp2_with (go_at_call 15; refine (areTold_any _ bits _ _ h).mono ?_; rw [ht]; rintro e w' ⟨rfl, rfl⟩)
    go_ret2
    exact ⟨rfl, Below.refl _ _⟩
  · obtain ⟨hl, hd0, hd4⟩ := tld_parts ht
    obtain ⟨d, rfl⟩ := Int.eq_ofNat_of_zero_le hd0
    have hd4' : d ≤ 4 := by omega
    have hv := Lib.hid (show wbV bits d = wbW bits d by simp [wbV, ht])
    obtain ⟨gq, q, r, hq, hr, -⟩ := wb_num bits d hl hd4'
    have hf := fin_num hr
    have hnb : nbV (wbW bits d) = wbW bits d := by unfold nbV; rw [hf]; rfl
    have hR := Lib.hid h
    have hlen := h.len
    go_enter Try.func7, Try.ntmps7
    go_wp2_with (first | (go_at_call 15; refine (areTold_any _ bits _ _ hR.out).mono ?_; rw [ht]; rintro e w' ⟨rfl, rfl⟩) | (go_at_call 16; refine (logSums_any _ bits d _ hR.out hl hd4').mono ?_; rintro e w1 ⟨vs, rfl, hO1, hB1⟩; rw [lvL_top] at hO1))
    go_loopw [6, 8] (fun vv l wr => ∃ m : Nat, m ≤ d ∧ l = .int .i64 ((m : Int) - 1) ∧ Og eF w.heap.size wr vv (lvL bits d m) ∧ Below w.heap.size w wr) (fun _ l _ => (intOf l + 1).toNat)
    case atStart => exact ⟨d, Nat.le_refl _, rfl, hO1, hB1⟩
    case round =>
      clear hO1 hB1
      obtain ⟨m, hm, rfl, hO, hB⟩ := hrel
      obtain ⟨g, off, cap, rfl, hob⟩ := Og.ob hO (by rw [lvL_len]; exact Nat.one_le_two_pow)
      rw [lvL_len] at hob ⊢
      rcases Nat.eq_zero_or_pos m with rfl | hm0
      · have hc := hob.cell 0 (by rw [lvL_len]; decide)
        rw [lvL_get, Nat.sub_zero, Nat.add_zero] at hc
        have o0 := run_neg (P := Try.prog)
        have o1 := run_op (P := Try.prog) gq
        clear gq hO hob
        go_wp2_with (first | simp only [o0, o1] | (go_at_call 19; refine (asNumber_any _ _).mono ?_; rw [hf, hnb]; rintro e w' ⟨rfl, n', rfl⟩))
        go_ret2
        exact ⟨by rw [hv.out]; rfl, bnext hB (below_drewN _ _)⟩
      · obtain ⟨long, rfl⟩ : ∃ j, m = j + 1 := ⟨m - 1, by omega⟩
        rw [show ((long + 1 : Nat) : Int) - 1 = (long : Int) by omega]
        have hl4 : long ≤ 4 := by omega
        have hlo := hob.lo
        have hhi := hob.hi
        have hcapn := hob.capn
        have hcapm := hob.capm
        have HO := Lib.hid hob
        have HB := Lib.hid hB
        clear hO hob hB
        go_wp2_with fail
        refine (logSums_any _ bits long _ (hR.out.below HB.out) hl hl4).mono ?_
        rintro e w2 ⟨v2, rfl, hO2, hB2⟩
        rw [nxL_zero bits d long] at hO2
        obtain ⟨g2, off2, cap2, rfl, hob2⟩ := Og.ob hO2 (by rw [nxL_len]; exact Nat.one_le_two_pow)
        rw [nxL_len] at hob2 ⊢
        have hne : g < g2 := Nat.lt_of_lt_of_le hhi hob2.lo
        have hob1 := HO.out.below hB2
        have hBB := bnext HB.out hB2
        have hob2' := hob2.mono HB.out.size
        have hw := wrap_one long hl4
        obtain ⟨hp1, hp16⟩ := pow4 long hl4
        have hP2 := two_pows long
        have hmore := fun c => wg_more bits d long c (by omega)
        have hfull := nxL_full bits d long
        have hlen2 := nxL_len bits d long
        have hlen1 := lvL_len bits d (long + 1)
        have hcap2 := hob2.capn
        have hcm2 := hob2.capm
        rw [hP2] at hob1 hlen1 ⊢
        generalize 2 ^ long = P at *
        have Hmore := Lib.hid hmore
        have Hfull := Lib.hid hfull
        have Hl2 := Lib.hid hlen2
        have Hl1 := Lib.hid hlen1
        have Hne := Lib.hid hne
        clear hO2 hob2 hB2 HB HO hP2 hmore hfull hlen2 hlen1 hne gq hf hnb
        have hlenP : P ≤ 9223372036854775807 := by omega
        go_wp2
        go_loopw [40] (fun i wi => ∃ k : Nat, k ≤ P ∧ i = .int .i64 k ∧ OB eF w.heap.size wi g2 off2 P cap2 (nxL bits d long k) ∧ OB eF w.heap.size wi g off (P + P) cap (lvL bits d (long + 1)) ∧ Below w.heap.size w wi) (fun i _ => P - (intOf i).toNat)
        case atStart => exact ⟨0, Nat.zero_le _, rfl, hob2', hob1, hBB⟩
        case round =>
          clear hob1 hBB hob2'
          obtain ⟨k, hk, rfl, h2, h1, hB⟩ := hrel
          by_cases hlt : k < P
          · have c2 := h2.cell k (by rw [Hl2.out]; exact hlt)
            rw [nxL_get] at c2
            have f2 := h2.free k (by rw [Hl2.out]; exact hlt)
            have cA := h1.cell k (by rw [Hl1.out]; omega)
            have cB := h1.cell (k + P) (by rw [Hl1.out]; omega)
            rw [lvL_get] at cA cB
            obtain ⟨gs, sq, hsq, bsq⟩ := wg_add bits d hl (d - (long + 1)) (by omega) k (k + P)
            obtain ⟨eq, heq, beq⟩ := sm_num bits long k hl
            have we := sm_wf bits long k bits.length
            have ws := fadd_wf (x := wgW bits d (d - (long + 1)) k) (y := wgW bits d (d - (long + 1)) (k + P))
            have hm := Hmore.out k
            have hst := nxL_step bits d long k
            generalize wgW bits d (d - (long + 1)) k = A at *
            generalize wgW bits d (d - (long + 1)) (k + P) = B at *
            have o1 := run_op (P := Try.prog) gs
            generalize fadd .f32 A B = s at *
            generalize smW bits long k bits.length = e at *
            obtain ⟨mx, mn, M, L, rmx, rmn, hM, hL, hle, bM, bL, hcb⟩ := mm_num heq hsq we ws (k0 := 40) (beq.mono (by decide)) bsq
            obtain ⟨g1, ⟨D, hD, hD0⟩, g2', y, g', rr, hy, y0, y1, -, -, -, -, -⟩ := cb_num hM hL hle bM bL (by decide) (by decide)
            obtain ⟨g3, g4, -⟩ := hw_num hD hD0
            have hyp : 0 < y := half_pos y0
            rw [← hcb] at hm
            rw [hm] at hst
            have o2 := run_op (P := Try.prog) g1
            have o3 := run_op (P := Try.prog) g2'
            have o4 := run_op (P := Try.prog) g3
            have o5 := run_op (P := Try.prog) g4
            have Hst := Lib.hid hst
            have H2 := Lib.hid h2
            have H1 := Lib.hid h1
            have HB := Lib.hid hB
            clear hst hm hcb g1 g2' g3 g4 h2 h1 hB we ws heq hsq beq bsq hM hL hle bM bL
            go_wp2
            go_quiet (fail)
            have hB' := bnext HB.out (below_drewN wr nq)
            have h2 := H2.out.below (below_drewN wr nq)
            have h1 := H1.out.below (below_drewN wr nq)
            clear HB H2 H1 cA cB c2 f2
            generalize wr.drewN nq = W at *
            clear gs o1
            go_wp2_with (first | simp only [rmx, rmn, o2, o3, o4, o5] | (go_at_call 18; refine (exp_le _ D hD hD0 _).mono ?_; rintro e w' ⟨rfl, rfl⟩))
            refine (log_below _ y hy hyp _).mono ?_
            rintro e w3 ⟨rfl, b3⟩
            have hB3 := bnext hB' b3
            have h23 := h2.below b3
            have h13 := h1.below b3
            have cc := h23.cell k (by rw [Hl2.out]; exact hlt)
            have ff := h23.free k (by rw [Hl2.out]; exact hlt)
            have hput := h23.put k (by rw [Hl2.out]; exact hlt) (fadd .f32 mx (LOG (hwW (fsub .f32 mn mx))))
            have hfar := h13.far ⟨g2, off2 + k, none⟩ (eF (fadd .f32 mx (LOG (hwW (fsub .f32 mn mx))))) (by intro e; have := Hne.out; simp only at e; omega)
            have hBs := hB3.setCell (p := ⟨g2, off2 + k, none⟩) h23.lo (eF (fadd .f32 mx (LOG (hwW (fsub .f32 mn mx)))))
            rw [← Hst.out] at hput
            have HF := Lib.hid (And.intro hput (And.intro hfar hBs))
            clear hput hfar hBs h23 h13 hB3 h2 h1 hB' b3 Hst
            go_wp2_with (simp only [o5])
            go_roundw
            case rel => exact ⟨k + 1, by omega, by go_num, HF.out⟩
            case measure => simp [intOf]; omega
          · obtain rfl : k = P := by omega
            rw [Hfull.out] at h2
            go_wp2
            go_roundw
            case rel => exact ⟨long, by omega, rfl, h2.og, hB⟩
            case measure => simp [intOf]
end Go.Proofs.Ythafmldcfdcngaa
