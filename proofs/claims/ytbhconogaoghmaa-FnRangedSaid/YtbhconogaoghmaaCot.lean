/- CostOfText: what both packages return. No conditions but that the slices read. -/
import Derived.Test.YtbhconogaoghmaaCounts
import Derived.Test.YtbhconogaoghmaaLg
import Derived.Test.YtbhconogaoghmaaCotP
import Derived.BigRegion
import Derived.Deep.RegionHeld3
namespace Go.Proofs.Ytbhconogaoghmaa
open Go.RowKit
set_option maxRecDepth 100000
set_option linter.unusedVariables false
set_option linter.unusedSimpArgs false

/-- The sum of what the letters cost. -/
def ctT (zs : List Int) : List Int → Nat → Nat
  | [], s => s
  | t :: ts, s => ctT zs ts (fadd .f32 s (costW (ratW (zs.getD t.toNat 0) (sumL zs))))
def ctOk (n : Int) (zs ts : List Int) : Bool := cts n zs && txt ts n
def ctV (n : Int) (zs ts : List Int) : Nat := if ctOk n zs ts = true then ctT zs ts 0 else 0
theorem txt_ptC {ts : List Int} {n : Int} (h : txt ts n = true) : ts.length ≤ 64 ∧ ∀ t ∈ ts, 0 ≤ t ∧ t < n := by
  simp only [txt, Bool.and_eq_true, decide_eq_true_eq] at h
  refine ⟨h.1.2, fun t ht => ?_⟩
  have := (allIn_iff _ _ _).1 h.2 t ht
  omega
theorem le_sumL {zs : List Int} (h : ∀ z ∈ zs, 1 ≤ z ∧ z ≤ 16384) (i : Nat) (hi : i < zs.length) : zs[i] ≤ sumL zs := by
  induction zs generalizing i with
  | nil => simp at hi
  | cons z zs ih =>
    have hz := h z (by simp)
    have hs : Small 16384 zs := fun y hy => by have := h y (List.mem_cons_of_mem _ hy); omega
    have hb := (sumL_bd hs (by decide)).1
    cases i with
    | zero => simp [sumL]; omega
    | succ i =>
      have := ih (fun y hy => h y (List.mem_cons_of_mem _ hy)) i (by simpa using hi)
      simp [sumL]; omega
theorem ctT_num {zs ts : List Int} (hz : ∀ z ∈ zs, 1 ≤ z ∧ z ≤ 16384) (hs : sumL zs ≤ 16384) (ht : ∀ t ∈ ts, 0 ≤ t ∧ t < zs.length) : ∀ (s k : Nat), Acc s k → k + ts.length ≤ 1000 → ∃ q, Num .f32 (ctT zs ts s) q := by
  induction ts with
  | nil => intro s k h _; obtain ⟨q, hq, -⟩ := h; exact ⟨q, hq⟩
  | cons t ts ih =>
    intro s k h hk
    simp only [List.length_cons] at hk
    have h1 := ht t (by simp)
    have hj : t.toNat < zs.length := by omega
    have hc := hz _ (List.getElem_mem hj)
    have hD : zs.getD t.toNat 0 = zs[t.toNat] := by simp [List.getD, hj]
    obtain ⟨-, a, ra, ra0, -⟩ := rat_num hc.1 (le_sumL hz _ hj) hs
    obtain ⟨-, x, rx, rb⟩ := cost_num ra ra0
    obtain ⟨-, h'⟩ := acc_step h rx rb (by omega)
    rw [ctT, hD]
    exact ih (fun y hy => ht y (List.mem_cons_of_mem _ hy)) _ (k + 1) h' (by omega)
theorem ctV_num (n : Int) (zs ts : List Int) : ∃ q, Num .f32 (ctV n zs ts) q := by
  unfold ctV ctOk
  split
  · rename_i h
    simp only [Bool.and_eq_true] at h
    obtain ⟨h1, h2⟩ := h
    obtain ⟨-, -, hln, hz, hs⟩ := cts_parts h1
    obtain ⟨htl, htx⟩ := txt_ptC h2
    exact ctT_num hz hs (fun t ht => by have := htx t ht; omega) 0 0 acc_zero (by omega)
  · exact ⟨0, num_zero .f32⟩
set_option maxHeartbeats 2000000 in
theorem specCost_any (n : Int) (v : Value) (zs : List Int) (vt : Value) (ts : List Int) (w : World) (h : RI w v zs) (ht : RI w vt ts) :
    Calls Try.prog 11 #[.agg #[.int .i64 n, v], vt] w fun e w' => e = .returned (.tuple #[.float .f32 (ctV n zs ts), .bool (ctOk n zs ts)]) ∧ Below w.heap.size w w' := by
  obtain ⟨ao, cap, rfl⟩ := h.shape
  obtain ⟨aot, capt, rfl⟩ := ht.shape
  have hb : ∀ o, Below w.heap.size w (w.alloc o) := fun o => by go_grown
  have g := h.below (hb (.cells #[.int .i64 n, .slice ao zs.length cap] 27))
  have gt : ∀ m, RI ((w.alloc (.cells #[.int .i64 n, .slice ao zs.length cap] 27)).drewN m) (.slice aot ts.length capt) ts := fun m => ht.below (bnext (hb _) (below_drewN _ m))
  cases hc : cts n zs
  · have hv : ctV n zs ts = 0 := by simp [ctV, ctOk, hc]
    have ho : ctOk n zs ts = false := by simp [ctOk, hc]
    rw [hv, ho]
    clear gt
    go_enter Try.func11, Try.ntmps11
    go_wp2_with fail
    refine (l05Counts_any n _ zs _ _ g (by simp [go_sem]) (by simp [go_sem])).mono ?_
    rw [hc]
    rintro e w' ⟨rfl, m, rfl⟩
    go_wp2
    go_ret2
    exact ⟨rfl, bnext (hb _) (below_drewN _ _)⟩
  · cases hx : txt ts n
    · have hv : ctV n zs ts = 0 := by simp [ctV, ctOk, hx]
      have ho : ctOk n zs ts = false := by simp [ctOk, hx]
      rw [hv, ho]
      go_enter Try.func11, Try.ntmps11
      go_wp2_with fail
      refine (l05Counts_any n _ zs _ _ g (by simp [go_sem]) (by simp [go_sem])).mono ?_
      rw [hc]
      rintro e w' ⟨rfl, m, rfl⟩
      have gtm := gt m
      clear gt
      go_wp2_with (go_at_call 35; refine (l05Text_any _ ts _ _ gtm).mono ?_; rw [hx]; rintro e w' ⟨rfl, rfl⟩)
      go_ret2
      exact ⟨rfl, bnext (hb _) (below_drewN _ _)⟩
    · have hv := Lib.hid (show ctV n zs ts = ctT zs ts 0 by simp [ctV, ctOk, hx, hc])
      have ho : ctOk n zs ts = true := by simp [ctOk, hc, hx]
      rw [ho]
      obtain ⟨hn1, hn2, hln, hz, hs⟩ := cts_parts hc
      obtain ⟨htl, htx⟩ := txt_ptC hx
      have hsm : Small 1099511627776 zs := fun y hy => by have := hz y hy; omega
      go_enter Try.func11, Try.ntmps11
      go_wp2_with fail
      refine (l05Counts_any n _ zs _ _ g (by simp [go_sem]) (by simp [go_sem])).mono ?_
      rw [hc]
      rintro e w' ⟨rfl, m, rfl⟩
      have gtm := gt m
      clear gt
      go_wp2_with (first | (go_at_call 35; refine (l05Text_any _ ts _ _ gtm).mono ?_; rw [hx]; rintro e w' ⟨rfl, rfl⟩) | (go_at_call 36; refine (l05Total_any n _ zs w.heap.size _ (g.below (below_drewN _ m)) (by simp [go_sem]) hsm (by omega)).mono ?_; rintro e w' ⟨rfl, rfl⟩))
      have hB : Below w.heap.size w ((w.alloc (.cells #[.int .i64 n, .slice ao zs.length cap] 27)).drewN m) := bnext (hb _) (below_drewN _ m)
      have c1 : ((w.alloc (.cells #[.int .i64 n, .slice ao zs.length cap] 27)).drewN m).cell? ⟨w.heap.size, 1, none⟩ = some (.slice ao zs.length cap) := by simp [go_sem]
      have gm := g.below (below_drewN _ m)
      have hlw : w.heap.size < ((w.alloc (.cells #[.int .i64 n, .slice ao zs.length cap] 27)).drewN m).heap.size := by simp
      generalize (w.alloc (.cells #[.int .i64 n, .slice ao zs.length cap] 27)).drewN m = W at *
      obtain ⟨_, ao_, cap_, e_, k1, k2, k3⟩ := gm
      simp only [Value.slice.injEq, true_and] at e_
      obtain ⟨rfl, rfl⟩ := e_
      obtain ⟨_, ao_, cap_, e_, l1, l2, l3⟩ := gtm
      simp only [Value.slice.injEq, true_and] at e_
      obtain ⟨rfl, rfl⟩ := e_
      have Hz := Lib.hid hz
      have Htx := Lib.hid htx
      have Hs := Lib.hid hs
      have Hln := Lib.hid hln
      have hzl : zs.length ≤ 16 := by omega
      clear g h ht hc hx hsm hb hz htx hs hln ho
      go_wp2
      go_loopw [7, 22] (fun s i wr => ∃ (k sw : Nat), k ≤ ts.length ∧ i = .int .i64 k ∧ s = .float .f32 sw ∧ Acc sw k ∧ ctT zs (ts.drop k) sw = ctT zs ts 0 ∧ ∃ q, wr = W.drewN q) (fun _ i _ => ts.length - (intOf i).toNat)
      case atStart => exact ⟨0, 0, Nat.zero_le _, rfl, rfl, acc_zero, rfl, 0, rfl⟩
      case round =>
        obtain ⟨k, sw, hk, rfl, rfl, hacc, hall, q, rfl⟩ := hrel
        have Hall := Lib.hid hall
        clear hall
        by_cases hlt : k < ts.length
        · obtain ⟨bt, offt, rfl, hct⟩ := l3 k hlt
          have Hd := Lib.hid (List.drop_eq_getElem_cons hlt)
          have hzt := Htx.out _ (List.getElem_mem hlt)
          clear l3
          generalize ts[k] = z at hct Hd hzt
          obtain ⟨hz0, hzn⟩ := hzt
          obtain ⟨j, rfl⟩ := Int.eq_ofNat_of_zero_le hz0
          have hj : j < zs.length := by have := Hln.out; omega
          obtain ⟨bc, offc, rfl, hcc⟩ := k3 j hj
          clear k3
          have hcb := Hz.out _ (List.getElem_mem hj)
          have hcs := le_sumL Hz.out j hj
          have hgD : zs.getD (j : Int).toNat 0 = zs[j] := by simp [List.getD, hj]
          have HgD := Lib.hid hgD
          clear hgD
          generalize zs[j] = c at hcc hcb hcs HgD
          obtain ⟨r1, a, ra, ra0, -⟩ := rat_num hcb.1 hcs Hs.out
          obtain ⟨r2, x, rx, rb⟩ := cost_num ra ra0
          obtain ⟨r3, hacc'⟩ := acc_step hacc rx rb (by omega)
          have o0 := run_neg (P := Try.prog)
          have o1 := run_op (P := Try.prog) r1
          have o2 := run_op (P := Try.prog) r2
          have o3 := run_op (P := Try.prog) r3
          clear hacc r1 r2 r3 rx rb
          have cw : ∀ p, (W.drewN q).cell? p = W.cell? p := fun _ => rfl
          rw [← cw] at c1 hct hcc
          have hW := Lib.hid (show ∀ n', ∃ q', (W.drewN q).drewN n' = W.drewN q' from fun n' => ⟨q + n', by simp⟩)
          clear cw hlw hB
          generalize W.drewN q = Wq at *
          go_wp2
          go_quiet ((go_at_call 37; exact Calls.quiet_of (qi (l01Log_any _ a ra ra0 _))))
          go_wp2
          go_roundw
          case rel => exact ⟨k + 1, _, by omega, by go_num, rfl, hacc', by rw [← Hall.out, Hd.out, ctT, HgD.out], hW.out _⟩
          case measure => simp [intOf]; omega
        · obtain ⟨sq, hsq, -⟩ := id hacc
          have hf := fin_num hsq
          have hnb : nbV sw = sw := by unfold nbV; rw [hf]; rfl
          have hfin : ctT zs ts 0 = sw := by rw [← Hall.out, List.drop_of_length_le (by omega)]; rfl
          clear Hall k3 l3
          go_wp2_with (go_at_call 38; refine (number_any _ _).mono ?_; rw [hf, hnb]; rintro e w' ⟨rfl, n', rfl⟩)
          go_ret2
          exact ⟨by rw [hv.out, hfin]; rfl, bnext hB (below_drewN _ _)⟩
theorem log_below (x : Nat) (a : Rat) (h : Num .f32 x a) (h0 : 0 < a) (w : World) :
    Calls Try.prog 32 #[.float .f32 x] w fun e w' => e = .returned (.float .f32 (LOG x)) ∧ Below w.heap.size w w' :=
  (log_any x a h h0 w).mono fun _ _ ⟨he, n, hn⟩ => ⟨he, by rw [hn]; exact below_drewN _ _⟩
set_option maxHeartbeats 4000000 in
theorem implCost_any (n : Int) (v : Value) (zs : List Int) (vt : Value) (ts : List Int) (w : World) (h : RI w v zs) (ht : RI w vt ts) :
    Calls Try.prog 10 #[.agg #[.int .i64 n, v], vt] w fun e w' => e = .returned (.tuple #[.float .f32 (ctV n zs ts), .bool (ctOk n zs ts)]) ∧ Below w.heap.size w w' := by
  obtain ⟨ao, cap, rfl⟩ := h.shape
  obtain ⟨aot, capt, rfl⟩ := ht.shape
  have hb : ∀ o, Below w.heap.size w (w.alloc o) := fun o => by go_grown
  have g := h.below (hb (.cells #[.int .i64 n, .slice ao zs.length cap] 27))
  cases hc : cts n zs
  · have hv : ctV n zs ts = 0 := by simp [ctV, ctOk, hc]
    have ho : ctOk n zs ts = false := by simp [ctOk, hc]
    rw [hv, ho]
    go_enter Try.func10, Try.ntmps10
    go_wp2_with fail
    refine (implCounts_any n _ zs _ g).mono ?_
    rw [hc]
    rintro e w1 ⟨rfl, b1⟩
    go_wp2
    go_ret2
    exact ⟨rfl, bnext (hb _) b1⟩
  · have gt := ht.below (hb (.cells #[.int .i64 n, .slice ao zs.length cap] 27))
    cases hx : txt ts n
    · have hv : ctV n zs ts = 0 := by simp [ctV, ctOk, hx]
      have ho : ctOk n zs ts = false := by simp [ctOk, hx]
      rw [hv, ho]
      go_enter Try.func10, Try.ntmps10
      go_wp2_with fail
      refine (implCounts_any n _ zs _ g).mono ?_
      rw [hc]
      rintro e w1 ⟨rfl, b1⟩
      have k0 : w1.cell? ⟨w.heap.size, 0, none⟩ = some (.int .i64 n) := cnext b1 (by simp [go_sem])
      go_wp2_with (go_at_call 12; refine (isText_any _ ts _ _ (gt.below b1)).mono ?_; rw [hx]; rintro e w' ⟨rfl, rfl⟩)
      go_ret2
      exact ⟨rfl, bnext (hb _) b1⟩
    · have hv := Lib.hid (show ctV n zs ts = ctT zs ts 0 by simp [ctV, ctOk, hx, hc])
      have ho : ctOk n zs ts = true := by simp [ctOk, hc, hx]
      rw [ho]
      obtain ⟨hn1, hn2, hln, hz, hs⟩ := cts_parts hc
      obtain ⟨htl, htx⟩ := txt_ptC hx
      have hsm : Small 1099511627776 zs := fun y hy => by have := hz y hy; omega
      go_enter Try.func10, Try.ntmps10
      go_wp2_with fail
      refine (implCounts_any n _ zs _ g).mono ?_
      rw [hc]
      rintro e w1 ⟨rfl, b1⟩
      have k0 : w1.cell? ⟨w.heap.size, 0, none⟩ = some (.int .i64 n) := cnext b1 (by simp [go_sem])
      have k1 : w1.cell? ⟨w.heap.size, 1, none⟩ = some (.slice ao zs.length cap) := cnext b1 (by simp [go_sem])
      have hB : Below w.heap.size w w1 := bnext (hb _) b1
      have gm := g.below b1
      have gtm := gt.below b1
      have hlw : w.heap.size < w1.heap.size := by have := b1.size; simp at this; omega
      clear g gt b1 hb
      go_wp2_with (go_at_call 12; refine (isText_any _ ts _ _ gtm).mono ?_; rw [hx]; rintro e w' ⟨rfl, rfl⟩)
      obtain ⟨_, ao_, cap_, e_, q1, q2, k3⟩ := id gm
      simp only [Value.slice.injEq, true_and] at e_
      obtain ⟨rfl, rfl⟩ := e_
      obtain ⟨_, ao_, cap_, e_, l1, l2, l3⟩ := gtm
      simp only [Value.slice.injEq, true_and] at e_
      obtain ⟨rfl, rfl⟩ := e_
      have Hz := Lib.hid hz
      have Htx := Lib.hid htx
      have Hs := Lib.hid hs
      have Hln := Lib.hid hln
      have Hsm := Lib.hid hsm
      have Gm := Lib.hid gm
      have hzl : zs.length ≤ 16 := by omega
      clear h ht hc hx hsm hz htx hs hln ho gm
      go_loopw [6, 21] (fun s i wr => ∃ (k sw : Nat), k ≤ ts.length ∧ i = .int .i64 k ∧ s = .float .f32 sw ∧ Acc sw k ∧ ctT zs (ts.drop k) sw = ctT zs ts 0 ∧ Below w1.heap.size w1 wr) (fun _ i _ => ts.length - (intOf i).toNat)
      case atStart => exact ⟨0, 0, Nat.zero_le _, rfl, rfl, acc_zero, rfl, Below.refl _ _⟩
      case round =>
        obtain ⟨k, sw, hk, rfl, rfl, hacc, hall, hbr⟩ := hrel
        have Hall := Lib.hid hall
        clear hall
        by_cases hlt : k < ts.length
        · obtain ⟨bt, offt, rfl, hct⟩ := l3 k hlt
          have Hd := Lib.hid (List.drop_eq_getElem_cons hlt)
          have hzt := Htx.out _ (List.getElem_mem hlt)
          clear l3
          generalize ts[k] = z at hct Hd hzt
          obtain ⟨hz0, hzn⟩ := hzt
          obtain ⟨j, rfl⟩ := Int.eq_ofNat_of_zero_le hz0
          have hj : j < zs.length := by have := Hln.out; omega
          obtain ⟨bc, offc, rfl, hcc⟩ := k3 j hj
          clear k3
          have hcb := Hz.out _ (List.getElem_mem hj)
          have hcs := le_sumL Hz.out j hj
          have hgD : zs.getD (j : Int).toNat 0 = zs[j] := by simp [List.getD, hj]
          have HgD := Lib.hid hgD
          clear hgD
          generalize zs[j] = c at hcc hcb hcs HgD
          obtain ⟨r1, a, ra, ra0, -⟩ := rat_num hcb.1 hcs Hs.out
          obtain ⟨r2, x, rx, rb⟩ := cost_num ra ra0
          obtain ⟨r3, hacc'⟩ := acc_step hacc rx rb (by omega)
          have o0 := run_neg (P := Try.prog)
          have o1 := run_op (P := Try.prog) r1
          have o2 := run_op (P := Try.prog) r2
          have o3 := run_op (P := Try.prog) r3
          have Hra := Lib.hid ra
          have Hra0 := Lib.hid ra0
          clear hacc r1 r2 r3 rx rb ra ra0 hcb hcs
          have k0r := cnext hbr k0
          have k1r := cnext hbr k1
          have hctr := cnext hbr hct
          have hccr := cnext hbr hcc
          have hBr := bnext hB hbr
          have Gr := Lib.hid (Gm.out.below hbr)
          clear k0 k1 hct hcc
          have hszr : w.heap.size < wr.heap.size := by have := hbr.size; omega
          go_wp2_with fail
          go_region_held3 (fun W' => W'.cell? ⟨w.heap.size, 0, none⟩ = some (.int .i64 n) ∧ W'.cell? ⟨w.heap.size, 1, none⟩ = some (.slice (some ⟨bc, offc, none⟩) zs.length cap) ∧ W'.cell? ⟨bc, offc + j, none⟩ = some (.int .i64 c) ∧ Below wr.heap.size wr W')
            ((go_split_ands; refine ⟨?_, ?_, ?_, ?_⟩ <;> first | assumption | exact cnext (by assumption) (by assumption) | exact bnext (by assumption) (by assumption) | exact bnext (Below.drew (by assumption)) (by assumption) | exact Below.drew (Below.refl _ _) | exact Below.drew (by assumption)))
            (first
              | (go_at_call 33; with_reducible refine Calls.mono (total_any _ _ zs _ ?_ Hsm.out (by omega)) ?_; (exact Gr.out.below (by go_split_ands; first | assumption | exact Below.drew (Below.refl _ _))); rintro e w2 ⟨rfl, b2⟩)
              | (go_at_call 32; with_reducible refine Calls.mono (log_below _ a Hra.out Hra0.out _) ?_; rintro e w3 ⟨rfl, b3⟩))
          go_wp2
          go_roundw
          case rel => exact ⟨k + 1, _, by omega, by go_num, rfl, hacc', by rw [← Hall.out, Hd.out, ctT, HgD.out], by go_split_ands; exact bnext hbr (by assumption)⟩
          case measure => simp [intOf]; omega
        · have hfin : ctT zs ts 0 = sw := by rw [← Hall.out, List.drop_of_length_le (by omega)]; rfl
          go_wp2
          go_ret2
          exact ⟨by rw [hv.out, hfin]; rfl, bnext hB hbr⟩
end Go.Proofs.Ytbhconogaoghmaa
