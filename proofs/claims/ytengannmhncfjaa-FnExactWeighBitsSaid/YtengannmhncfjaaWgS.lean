/- WeighBits in the reference. No conditions but that the slice reads. -/
import Derived.Test.YtengannmhncfjaaGbS
import Derived.Test.YtengannmhncfjaaEx
import Derived.Test.YtengannmhncfjaaWgP
namespace Go.Proofs.Ytengannmhncfjaa
open Go.RowKit
set_option maxRecDepth 100000
set_option linter.unusedVariables false
set_option linter.unusedSimpArgs false

def wbV (bits : List Bool) (deep : Int) : Nat := if tld bits deep = true then wbW bits deep.toNat else 0
theorem wbV_num (bits : List Bool) (deep : Int) : ∃ q, Num .f32 (wbV bits deep) q := by
  unfold wbV
  split
  · obtain ⟨h1, h2, h3⟩ := tld_parts (by assumption)
    obtain ⟨-, q, r, -, h, -⟩ := wb_num bits deep.toNat h1 (by omega)
    exact ⟨r, h⟩
  · exact ⟨0, num_zero .f32⟩
theorem l01Exp_le (d : Nat) (D : Rat) (h : Num .f32 d D) (h0 : D ≤ 0) (w : World) :
    Calls Try.prog 32 #[.float .f32 d] w fun e w' => e = .returned (.float .f32 (exA d)) ∧ w = w' := by
  by_cases hl : D < -200
  · rw [exA_low h hl]; exact l01Exp_low d D h hl w
  · rw [exA_high h hl]; exact l01Exp_any d D h (by grind) (by grind) (ex_neg h h0 (by grind)).1 w
theorem cnt_hit (bits : List Bool) (deep c k : Nat) (b : Bool) (h : ctxN bits k deep = c) (hb : bits.getD k false = b) : cnt bits deep c b (k + 1) = cnt bits deep c b k + 1 := by
  rw [cnt, if_pos ⟨h, hb⟩]
theorem cnt_other (bits : List Bool) (deep c k : Nat) (b : Bool) (hb : bits.getD k false ≠ b) : cnt bits deep c b (k + 1) = cnt bits deep c b k := by
  rw [cnt, if_neg (fun h => hb h.2)]; rfl
theorem cnt_far (bits : List Bool) (deep c k : Nat) (b : Bool) (h : ctxN bits k deep ≠ c) : cnt bits deep c b (k + 1) = cnt bits deep c b k := by
  rw [cnt, if_neg (fun hh => h hh.1)]; rfl
theorem wg_more (bits : List Bool) (deep long c : Nat) (h : long < deep) : wgW bits deep (deep - long) c = cbW (smW bits long c bits.length) (fadd .f32 (wgW bits deep (deep - (long + 1)) c) (wgW bits deep (deep - (long + 1)) (c + 2 ^ long))) := by
  obtain ⟨r, hr⟩ : ∃ r, deep - long = r + 1 := ⟨deep - long - 1, by omega⟩
  rw [hr, wgW, show deep - (long + 1) = r by omega, show deep - (r + 1) = long by omega]
theorem wg_last (bits : List Bool) (deep c : Nat) : wgW bits deep (deep - deep) c = smW bits deep c bits.length := by
  rw [Nat.sub_self]; rfl
theorem pow_more {long deep c : Nat} (h : long < deep) (hd : deep ≤ 4) (hc : c < 2 ^ long) : c < 2 ^ (long + 1) ∧ c + 2 ^ long < 2 ^ (long + 1) ∧ c + 2 ^ long ≤ 64 := by
  have h1 : 2 ^ long ≤ 2 ^ 4 := Nat.pow_le_pow_right (by decide) (by omega)
  rw [Nat.pow_succ]; omega
set_option maxHeartbeats 4000000 in
theorem weigh_step (v : Value) (bits : List Bool) (deep long c : Nat) (hl : bits.length ≤ 1024) (hd : deep ≤ 4) (hlong : long ≤ deep) (hc : c < 2 ^ long)
    (rec : long < deep → ∀ (c' : Nat) (w : World), c' < 2 ^ (long + 1) → Rg Value.bool w v bits → Calls Try.prog 20 #[v, .int .i64 deep, .int .i64 (long + 1 : Nat), .int .i64 c'] w fun e w' => e = .returned (.float .f32 (wgW bits deep (deep - (long + 1)) c')) ∧ ∃ n, w' = w.drewN n)
    (w : World) (h : Rg Value.bool w v bits) :
    Calls Try.prog 20 #[v, .int .i64 deep, .int .i64 long, .int .i64 c] w fun e w' => e = .returned (.float .f32 (wgW bits deep (deep - long) c)) ∧ ∃ n, w' = w.drewN n := by
  have hR := Lib.hid h
  have hlen := h.len
  obtain ⟨ao, cap, rfl, k1, k2, k3⟩ := h
  have hl4 : long ≤ 4 := by omega
  have Hrec := Lib.hid rec
  have Hc := Lib.hid hc
  clear rec hc
  go_enter Try.func20, Try.ntmps20
  go_wp2
  go_loop [9, 10, 11, 18] (fun z o e i => ∃ k : Nat, k ≤ bits.length ∧ z = .int .i64 (cnt bits long c false k) ∧ o = .int .i64 (cnt bits long c true k) ∧ e = .float .f32 (smW bits long c k) ∧ i = .int .i64 k) (fun _ _ _ i => bits.length - (intOf i).toNat)
  case atStart => exact ⟨0, Nat.zero_le _, rfl, rfl, rfl, rfl⟩
  case round =>
    obtain ⟨k, hk, rfl, rfl, rfl, rfl⟩ := hrel
    by_cases hlt : k < bits.length
    · have hctx := l05Context_any _ bits k long w hR.out hk hl4
      have hcn := cnt_le bits long c k
      obtain ⟨b, off, rfl, hct⟩ := k3 k hlt
      have hgD : bits.getD k false = bits[k] := by simp [List.getD, hlt]
      rw [← hgD] at hct
      obtain ⟨a, ra, ra0, -⟩ := pc_num bits long k (by omega)
      have g3 := sm_step bits long c k (by omega)
      have hpc : pcW bits long k = chW (if bits.getD k false = true then cnt bits long (ctxN bits k long) true k else cnt bits long (ctxN bits k long) false k) (cnt bits long (ctxN bits k long) false k + cnt bits long (ctxN bits k long) true k + 1) := by
        unfold pcW; cases bits.getD k false <;> rfl
      have hch := l05Chance_any (cnt bits long c false k) (cnt bits long c true k) (bits.getD k false)
      have hs1 : ctxN bits k long = c → smW bits long c (k + 1) = fadd .f32 (smW bits long c k) (LOG (pcW bits long k)) := fun h => by rw [smW, if_pos h]
      have hs0 : ctxN bits k long ≠ c → smW bits long c (k + 1) = smW bits long c k := fun h => by rw [smW, if_neg h]
      have hf := fun b h => cnt_far bits long c k b h
      have hh := fun b h h' => cnt_hit bits long c k b h h'
      have ho := fun b h' => cnt_other bits long c k b h'
      by_cases hx : ctxN bits k long = c
      · rw [hx] at hpc
        rw [← hpc] at hch
        rw [hx] at hctx
        have hS := hs1 hx
        have hn1 := And.intro (hh false hx) (hh true hx)
        have ho := And.intro (ho false) (ho true)
        clear hs1 hs0 hf hh hpc hgD k3 hx
        generalize bits.getD k false = q at *
        generalize cnt bits long c false k = z at *
        generalize cnt bits long c true k = y at *
        have o1 := run_op (P := Try.prog) g3
        have HS := Lib.hid hS
        have Hn := Lib.hid (And.intro hn1 ho)
        have Hch := Lib.hid hch
        have Hra := Lib.hid ra
        have Hra0 := Lib.hid ra0
        clear hS hn1 ho hch ra ra0 g3
        cases q
        · have e1 := Hn.out.1.1 rfl
          have e2 := Hn.out.2.2 (by simp)
          have E := Lib.hid (And.intro e1 e2)
          clear e1 e2
          go_wp2_with (first | simp only [o1] | (go_at_call 13; refine hctx.mono ?_; rintro e w' ⟨rfl, rfl⟩) | (go_at_call 15; refine (Hch.out _ (by omega)).mono ?_; rintro e w' ⟨rfl, rfl⟩) | (go_at_call 14; refine (l01Log_any _ a Hra.out Hra0.out _).mono ?_; rintro e w' ⟨rfl, rfl⟩))
          go_round
          case rel => exact ⟨k + 1, by omega, by rw [E.out.1]; go_num, by rw [E.out.2], by rw [HS.out], by go_num⟩
          case measure => simp [intOf]; omega
        · have e1 := Hn.out.1.2 rfl
          have e2 := Hn.out.2.1 (by simp)
          have E := Lib.hid (And.intro e1 e2)
          clear e1 e2
          go_wp2_with (first | simp only [o1] | (go_at_call 13; refine hctx.mono ?_; rintro e w' ⟨rfl, rfl⟩) | (go_at_call 15; refine (Hch.out _ (by omega)).mono ?_; rintro e w' ⟨rfl, rfl⟩) | (go_at_call 14; refine (l01Log_any _ a Hra.out Hra0.out _).mono ?_; rintro e w' ⟨rfl, rfl⟩))
          go_round
          case rel => exact ⟨k + 1, by omega, by rw [E.out.2], by rw [E.out.1]; go_num, by rw [HS.out], by go_num⟩
          case measure => simp [intOf]; omega
      · have hS := hs0 hx
        have e1 := hf false hx
        have e2 := hf true hx
        have E := Lib.hid (And.intro e1 (And.intro e2 hS))
        clear hs1 hs0 hf hh ho hpc hgD k3 hS e1 e2 hch g3 hct ra ra0
        generalize ctxN bits k long = x at *
        go_wp2_with (go_at_call 13; refine hctx.mono ?_; rintro e w' ⟨rfl, rfl⟩)
        go_round
        case rel => exact ⟨k + 1, by omega, by rw [E.out.1], by rw [E.out.2.1], by rw [E.out.2.2], by go_num⟩
        case measure => simp [intOf]; omega
    · obtain rfl : k = bits.length := by omega
      clear k3
      by_cases hld : long = deep
      · subst hld
        go_wp2
        go_ret
        exact ⟨rfl, 0, rfl⟩
      · have hlt2 : long < deep := by omega
        have Hmore := Lib.hid (wg_more bits deep long c hlt2)
        obtain ⟨p1, p2, p3⟩ := pow_more hlt2 hd Hc.out
        obtain ⟨gs, sq, hsq, bsq⟩ := wg_add bits deep hl (deep - (long + 1)) (by omega) c (c + 2 ^ long)
        obtain ⟨eq, heq, beq⟩ := sm_num bits long c hl
        have o1 := run_op (P := Try.prog) gs
        have r1 := Hrec.out hlt2 c
        have r2 := Hrec.out hlt2 (c + 2 ^ long)
        have hw := wrap_pow long hl4
        push_cast at r1 r2
        generalize wgW bits deep (deep - (long + 1)) c = A at *
        generalize wgW bits deep (deep - (long + 1)) (c + 2 ^ long) = B at *
        generalize fadd .f32 A B = s at *
        generalize smW bits long c bits.length = e at *
        have hgt := gt_iff heq hsq
        have Hr := Lib.hid (And.intro r1 r2)
        have Hgt := Lib.hid hgt
        clear r1 r2 hgt gs
        have hc64 : (c : Int) + 2 ^ long ≤ 64 := by have : ((c + 2 ^ long : Nat) : Int) ≤ 64 := by omega
                                                    push_cast at this; exact this
        have hc0 : (0 : Int) ≤ (c : Int) + 2 ^ long := by have : (0 : Int) ≤ ((c + 2 ^ long : Nat) : Int) := by omega
                                                          push_cast at this; exact this
        go_wp2
        go_quiet ((go_at_call 20; first | with_reducible exact Calls.quiet_of (Hr.out.1 _ p1 (hR.out.below (below_drewN _ _))) | with_reducible exact Calls.quiet_of (Hr.out.2 _ p2 (hR.out.below (below_drewN _ _)))))
        clear o1
        by_cases hES : eq < sq
        · have hgt := Hgt.out
          rw [decide_eq_true hES] at hgt
          have hcb : cbW e s = fadd .f32 s (LOG (hwW (fsub .f32 e s))) := by unfold cbW; rw [hgt]; rfl
          obtain ⟨g1, ⟨D, hD, hD0⟩, g2, y, g, rr, hy, y0, y1, -, -, -, -, -⟩ := cb_num hsq heq (by grind) (k0 := 40) bsq (beq.mono (by decide)) (by decide) (by decide)
          obtain ⟨g3, g4, -⟩ := hw_num hD hD0
          have hyp : 0 < y := by grind
          have Hm := Lib.hid (show wgW bits deep (deep - long) c = fadd .f32 s (LOG (hwW (fsub .f32 e s))) by rw [Hmore.out, hcb])
          obtain ⟨g5, D', hD', rD'⟩ := sub_o hsq heq (k0 := 41) (by decide) (bsq.sub (beq.mono (by decide)))
          have o1 := run_op (P := Try.prog) g1
          have o2 := run_op (P := Try.prog) g2
          have o3 := run_op (P := Try.prog) g3
          have o4 := run_op (P := Try.prog) g4
          have o5 := run_op (P := Try.prog) g5
          clear g1 g2 g3 g4 g5 hcb hD' rD'
          go_wp2_with (first | simp only [o1, o2, o3, o4, o5] | (go_at_call 32; refine (l01Exp_le _ D hD hD0 _).mono ?_; rintro e w' ⟨rfl, rfl⟩) | (go_at_call 14; refine (l01Log_any _ y hy hyp _).mono ?_; rintro e w' ⟨rfl, rfl⟩))
          go_ret
          exact ⟨congrArg (fun q => Ending.returned (.float .f32 q)) Hm.out.symm, _, rfl⟩
        · have hgt := Hgt.out
          rw [decide_eq_false hES] at hgt
          have hcb : cbW e s = fadd .f32 e (LOG (hwW (fsub .f32 s e))) := by unfold cbW; rw [hgt]; rfl
          obtain ⟨g1, ⟨D, hD, hD0⟩, g2, y, g, rr, hy, y0, y1, -, -, -, -, -⟩ := cb_num heq hsq (by grind) (k0 := 40) (beq.mono (by decide)) bsq (by decide) (by decide)
          obtain ⟨g3, g4, -⟩ := hw_num hD hD0
          have hyp : 0 < y := by grind
          have Hm := Lib.hid (show wgW bits deep (deep - long) c = fadd .f32 e (LOG (hwW (fsub .f32 s e))) by rw [Hmore.out, hcb])
          have o1 := run_op (P := Try.prog) g1
          have o2 := run_op (P := Try.prog) g2
          have o3 := run_op (P := Try.prog) g3
          have o4 := run_op (P := Try.prog) g4
          clear g1 g2 g3 g4 hcb
          go_wp2_with (first | simp only [o1, o2, o3, o4] | (go_at_call 32; refine (l01Exp_le _ D hD hD0 _).mono ?_; rintro e w' ⟨rfl, rfl⟩) | (go_at_call 14; refine (l01Log_any _ y hy hyp _).mono ?_; rintro e w' ⟨rfl, rfl⟩))
          go_ret
          exact ⟨congrArg (fun q => Ending.returned (.float .f32 q)) Hm.out.symm, _, rfl⟩
theorem l05Weigh_any (v : Value) (bits : List Bool) (deep : Nat) (hl : bits.length ≤ 1024) (hd : deep ≤ 4) : ∀ (r long c : Nat) (w : World), long + r = deep → c < 2 ^ long → Rg Value.bool w v bits →
    Calls Try.prog 20 #[v, .int .i64 deep, .int .i64 long, .int .i64 c] w fun e w' => e = .returned (.float .f32 (wgW bits deep (deep - long) c)) ∧ ∃ n, w' = w.drewN n := by
  intro r
  induction r with
  | zero => intro long c w hr hc h; exact weigh_step v bits deep long c hl hd (by omega) hc (fun h => by omega) w h
  | succ r ih => intro long c w hr hc h; exact weigh_step v bits deep long c hl hd (by omega) hc (fun h c' w hc' hw => ih (long + 1) c' w (by omega) hc' hw) w h
set_option maxHeartbeats 1000000 in
theorem specWg_any (v : Value) (bits : List Bool) (deep : Int) (w : World) (h : Rg Value.bool w v bits) :
    Calls Try.prog 10 #[v, .int .i64 deep] w fun e w' => e = .returned (.tuple #[.float .f32 (wbV bits deep), .bool (tld bits deep)]) ∧ Below w.heap.size w w' := by
  cases ht : tld bits deep
  · have hv : wbV bits deep = 0 := by simp [wbV, ht]
    rw [hv]
    go_enter Try.func10, Try.ntmps10
    go_wp2_with (go_at_call 12; refine (l05Bool_any _ bits _ _ h).mono ?_; rw [ht]; rintro e w' ⟨rfl, rfl⟩)
    go_ret2
    exact ⟨rfl, Below.refl _ _⟩
  · obtain ⟨hl, hd0, hd4⟩ := tld_parts ht
    obtain ⟨d, rfl⟩ := Int.eq_ofNat_of_zero_le hd0
    have hd4' : d ≤ 4 := by omega
    have hv := Lib.hid (show wbV bits d = wbW bits d by simp [wbV, ht])
    obtain ⟨gq, q, r, hq, hr, -⟩ := wb_num bits d hl hd4'
    have hf := fin_num hr
    have hnb : nbV (wbW bits d) = wbW bits d := by unfold nbV; rw [hf]; rfl
    have hrc := l05Weigh_any v bits d hl hd4' d 0 0 w (by omega) (by decide) h
    rw [Nat.sub_zero] at hrc
    have Hrec := Lib.hid hrc
    have o0 := run_neg (P := Try.prog)
    have o1 := run_op (P := Try.prog) gq
    clear hrc gq
    go_enter Try.func10, Try.ntmps10
    go_wp2_with (first | simp only [o0, o1] | (go_at_call 12; refine (l05Bool_any _ bits _ _ h).mono ?_; rw [ht]; rintro e w' ⟨rfl, rfl⟩) | (go_at_call 20; refine Hrec.out.mono ?_; rintro e w' ⟨rfl, n, rfl⟩) | (go_at_call 16; refine (number_any _ _).mono ?_; rw [hf, hnb]; rintro e w' ⟨rfl, n', rfl⟩))
    go_ret2
    exact ⟨by rw [hv.out]; rfl, below_drewN w _⟩
end Go.Proofs.Ytengannmhncfjaa
