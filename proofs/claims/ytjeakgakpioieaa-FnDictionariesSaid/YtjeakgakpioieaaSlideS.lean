/- SlidePairs of the reference: what it returns. No conditions but that the slices read. -/
import Derived.Test.YtjeakgakpioieaaSlide
namespace Go.Proofs.Ytjeakgakpioieaa
open Go.RowKit
set_option maxRecDepth 100000
set_option linter.unusedVariables false
set_option linter.unusedSimpArgs false

set_option maxHeartbeats 400000 in
theorem l00Min_any (a b : Nat) (w : World) :
    Calls Try.prog 30 #[.int .i64 a, .int .i64 b] w fun e w' => e = .returned (.int .i64 ((min a b : Nat) : Int)) ∧ w = w' := by
  by_cases h : a < b
  · have h1 : (a : Int) < (b : Int) := by omega
    have H := Lib.hid (show min a b = a by omega)
    go_enter Try.func30, Try.ntmps30
    go_wp2
    go_ret
    exact ⟨ret_i64 (by rw [H.out]), rfl⟩
  · have h1 : ¬ ((a : Int) < (b : Int)) := by omega
    have H := Lib.hid (show min a b = b by omega)
    go_enter Try.func30, Try.ntmps30
    go_wp2
    go_ret
    exact ⟨ret_i64 (by rw [H.out]), rfl⟩
set_option maxHeartbeats 4000000 in
theorem specSlide_any (v : Value) (zs : List Int) (n win : Int) (w : World) (h : RI w v zs) :
    Calls Try.prog 11 #[v, .int .i64 n, .int .i64 win] w fun e w' => ∃ v', e = .returned (.tuple #[v', .bool (slOk zs n win)]) ∧ OI w.heap.size w' v' (slZ zs n win) ∧ Below w.heap.size w w' := by
  have h0 := h
  obtain ⟨hz, ao, cap, rfl, h1, h2, h3⟩ := h
  clear h3
  by_cases ht : txt zs n = true
  · by_cases hw : inB win 1 64 = true
    · have hw' := inB_eq hw
      simp only [if_true] at hw'
      obtain ⟨hw1, hw2⟩ := hw'
      obtain ⟨W, rfl⟩ := Int.eq_ofNat_of_zero_le (show 0 ≤ win by omega)
      obtain ⟨hn1, hn2, hl, -⟩ := txt_parts' ht
      have Hok := Lib.hid (show slOk zs n W = true by simp [slOk, ht, hw])
      have HZ := Lib.hid (show slZ zs n W = slF zs W zs.length 0 [] by simp [slZ, slOk, ht, hw])
      have Ht := Lib.hid ht
      have Hw := Lib.hid hw
      have Hz := Lib.hid hz
      rw [HZ.out, Hok.out]
      clear ht hw hz
      go_enter Try.func11, Try.ntmps11
      go_wp2_with (first | (go_at_call 22; refine (l05Text_any _ zs _ _ h0).mono ?_; rw [Ht.out]; rintro e w' ⟨rfl, rfl⟩) | (go_at_call 29; refine (l00In_any _ _ _ _).mono ?_; rw [Hw.out]; rintro e w' ⟨rfl, rfl⟩))
      go_loopw [8, 10] (fun o a wr => ∃ (at' f : Nat) (out : List Int), a = .int .i64 at' ∧ at' ≤ zs.length ∧ zs.length - at' ≤ f ∧ slF zs W f at' out = slF zs W zs.length 0 [] ∧ out.length ≤ 3 * at' ∧ AllI64 out ∧ OwnI w.heap.size wr o out ∧ Below w.heap.size w wr) (fun _ a _ => zs.length - (intOf a).toNat)
      case atStart => exact ⟨0, zs.length, [], rfl, by omega, by omega, rfl, by simp, (by intro z hz; cases hz), own_empty w _ (Nat.le_refl _), by go_grown⟩
      case round =>
        obtain ⟨a, f, out, rfl, ha, hf, hq, hol, ho64, hown, hB⟩ := hrel
        obtain ⟨ao2, cap2, rfl⟩ := hown.shape
        have Hq := Lib.hid hq
        have Ho64 := Lib.hid ho64
        clear hq ho64
        by_cases hlt : a < zs.length
        · obtain ⟨b0, off, rfl, -, hcs⟩ := h0.2.cells (by omega)
          have hcw : ∀ i (_ : i < zs.length), wr.cell? ⟨b0, off + i, none⟩ = some (.int .i64 (gi zs i)) := fun i hi => by
            rw [gi_eq hi]; exact (hB.cell (p := ⟨b0, off + i, none⟩) (World.block_lt_of_cell? w _ (hcs i hi))).trans (hcs i hi)
          have Hc := Lib.hid hcw
          obtain ⟨wo, rfl⟩ : ∃ wo : World, wo = wr := ⟨_, rfl⟩
          have hbl0 := bl_le zs W a
          have hstep : slF zs W f a out = slF zs W (f - 1) (a + (bl zs W a).2 + 1) (out ++ [((bl zs W a).1 : Int), ((bl zs W a).2 : Int), gi zs (a + (bl zs W a).2)]) := by
            obtain ⟨f', rfl⟩ : ∃ f', f = f' + 1 := ⟨f - 1, by omega⟩
            rw [slF, if_pos hlt]; rfl
          rw [Hq.out] at hstep
          have Hstep := Lib.hid hstep
          have hg64 := gi_i64 Hz.out (a + (bl zs W a).2)
          have Hg64 := Lib.hid hg64
          clear hcw hcs hstep hg64
          go_wp2_with fail
          go_loopw [11, 12, 13] (fun bk lg bb wr => ∃ (back long b m : Nat), bk = .int .i64 back ∧ lg = .int .i64 long ∧ bb = .int .i64 b ∧ 1 ≤ b ∧ b ≤ min W a + 1 ∧ back < b ∧ long ≤ zs.length - 1 - a ∧ blF zs a (min W a + 1 - b) b back long = bl zs W a ∧ wr = wo.drewN m) (fun _ _ bb _ => 65 - (intOf bb).toNat)
          case atStart => exact ⟨0, 0, 1, 0, rfl, rfl, rfl, by omega, by omega, by omega, by omega, rfl, rfl⟩
          case round =>
            obtain ⟨back, long, b, m, rfl, rfl, rfl, hb1, hb2, hbk, hlg, hbl, rfl⟩ := hrel
            have Hbl := Lib.hid hbl
            clear hbl
            by_cases hbw : b ≤ min W a
            · have hbW : (b : Int) ≤ ((min W a : Nat) : Int) := by omega
              have hstep : blF zs a (min W a + 1 - b) b back long = if long < ml zs a b then blF zs a (min W a + 1 - (b + 1)) (b + 1) b (ml zs a b) else blF zs a (min W a + 1 - (b + 1)) (b + 1) back long := by
                rw [show min W a + 1 - b = (min W a + 1 - (b + 1)) + 1 by omega, blF]
              rw [Hbl.out] at hstep
              have Hs := Lib.hid hstep
              clear hstep
              go_wp2_with (go_at_call 30; refine (l00Min_any W a _).mono ?_; rintro e w' ⟨rfl, rfl⟩)
              go_loopw [14] (fun nn wr => ∃ (k m : Nat), nn = .int .i64 k ∧ k ≤ zs.length - 1 - a ∧ mlF zs a b (zs.length - 1 - a - k) k = ml zs a b ∧ wr = wo.drewN m) (fun nn _ => zs.length - (intOf nn).toNat)
              case atStart => exact ⟨0, m, rfl, by omega, rfl, rfl⟩
              case round =>
                obtain ⟨k, m, rfl, hk, hml, rfl⟩ := hrel
                by_cases hkl : a + k + 1 < zs.length
                · have c1 := Hc.out (a + k) (by omega)
                  have c2 := Hc.out (a + k - b) (by omega)
                  have q1 : (0 : Int) ≤ (a : Int) + k := by omega
                  have q2 : (a : Int) + k < zs.length := by omega
                  have q3 : (0 : Int) ≤ (a : Int) + k - b := by omega
                  have q4 : (a : Int) + k - b < zs.length := by omega
                  have q5 : ((a : Int) + k).toNat = a + k := by omega
                  have q6 : ((a : Int) + k - b).toNat = a + k - b := by omega
                  have d1 : decide ((a : Int) + k < zs.length - 1) = true := decide_eq_true (by omega)
                  have w1 : IntKind.i64.wrap ((a : Int) + k) = a + k := IntWalk.i64_in _ (by omega)
                  have w2 : IntKind.i64.wrap ((zs.length : Int) - 1) = zs.length - 1 := IntWalk.i64_in _ (by omega)
                  have w3 : IntKind.i64.wrap ((a : Int) + k - b) = a + k - b := IntWalk.i64_in _ (by omega)
                  by_cases he : gi zs (a + k) = gi zs (a + k - b)
                  · have hs := mlF_step hkl he
                    rw [hml] at hs
                    have Hml := Lib.hid hs
                    clear hs hml
                    rw [he] at c1
                    clear he
                    generalize gi zs (a + k - b) = x at *
                    go_wp2_with fail
                    go_quiet (fail)
                    clear w1 w2 w3 q5 q6 d1
                    go_wp2
                    go_roundw
                    case rel => exact ⟨k + 1, _, by go_num, by omega, Hml.out.symm, rfl⟩
                    case measure => simp [intOf] <;> omega
                  · have hs := mlF_stop (zs := zs) (a := a) (b := b) (k := k) fun h => he h.2
                    rw [hml] at hs
                    have hne : (gi zs (a + k - b) == gi zs (a + k)) = false := by simp; exact fun e => he e.symm
                    have Hml := Lib.hid hs
                    clear hs hml he
                    generalize gi zs (a + k - b) = x at *
                    generalize gi zs (a + k) = y at *
                    go_wp2_with fail
                    go_quiet (fail)
                    clear w1 w2 w3 q5 q6 d1
                    go_wp2
                    all_goals (
                      have hlt2 := Hs.out
                      have hmle := ml_le zs a b
                      by_cases hlong : long < ml zs a b
                      · rw [if_pos hlong] at hlt2
                        have Hl := Lib.hid hlt2
                        have hk2 : k = ml zs a b := Hml.out.symm
                        first
                        | (exfalso; omega)
                        | (go_roundw
                           case rel => exact ⟨b, k, b + 1, _, rfl, rfl, by go_num, by omega, by omega, by omega, by omega, by rw [hk2]; exact Hl.out.symm, rfl⟩
                           case measure => simp [intOf] <;> omega)
                      · rw [if_neg hlong] at hlt2
                        have Hl := Lib.hid hlt2
                        have hk2 : k = ml zs a b := Hml.out.symm
                        first
                        | (exfalso; omega)
                        | (go_roundw
                           case rel => exact ⟨back, long, b + 1, _, rfl, rfl, by go_num, by omega, by omega, by omega, by omega, Hl.out.symm, rfl⟩
                           case measure => simp [intOf] <;> omega))
                · have d1 : decide ((a : Int) + k < zs.length - 1) = false := decide_eq_false (by omega)
                  have w1 : IntKind.i64.wrap ((a : Int) + k) = a + k := IntWalk.i64_in _ (by omega)
                  have w2 : IntKind.i64.wrap ((zs.length : Int) - 1) = zs.length - 1 := IntWalk.i64_in _ (by omega)
                  have hs := mlF_stop (zs := zs) (a := a) (b := b) (k := k) fun h => hkl h.1
                  rw [hml] at hs
                  have Hml := Lib.hid hs
                  clear hs hml
                  go_wp2_with fail
                  go_quiet (fail)
                  clear w1 w2 d1
                  go_wp2
                  all_goals (
                    have hlt2 := Hs.out
                    have hmle := ml_le zs a b
                    by_cases hlong : long < ml zs a b
                    · rw [if_pos hlong] at hlt2
                      have Hl := Lib.hid hlt2
                      have hk2 : k = ml zs a b := Hml.out.symm
                      first
                      | (exfalso; omega)
                      | (go_roundw
                         case rel => exact ⟨b, k, b + 1, _, rfl, rfl, by go_num, by omega, by omega, by omega, by omega, by rw [hk2]; exact Hl.out.symm, rfl⟩
                         case measure => simp [intOf] <;> omega)
                    · rw [if_neg hlong] at hlt2
                      have Hl := Lib.hid hlt2
                      have hk2 : k = ml zs a b := Hml.out.symm
                      first
                      | (exfalso; omega)
                      | (go_roundw
                         case rel => exact ⟨back, long, b + 1, _, rfl, rfl, by go_num, by omega, by omega, by omega, by omega, Hl.out.symm, rfl⟩
                         case measure => simp [intOf] <;> omega))
            · have hbl := Hbl.out
              rw [show min W a + 1 - b = 0 by omega, blF] at hbl
              have h5 : (bl zs W a).1 = back := by rw [← hbl]
              have h6 : (bl zs W a).2 = long := by rw [← hbl]
              have hstep := Hstep.out
              have hg64 := Hg64.out
              rw [h5, h6] at hstep
              rw [h6] at hg64
              have c1 := Hc.out (a + long) (by omega)
              have Hst := Lib.hid hstep
              have Hg := Lib.hid hg64
              have q1 : (0 : Int) ≤ (a : Int) + long := by omega
              have q2 : (a : Int) + long < zs.length := by omega
              have hown' : OwnI w.heap.size (wo.drewN m) (.slice ao2 out.length cap2) out := own_below (below_drewN _ _) hown
              have hB' := bnext hB (below_drewN wo m)
              generalize gi zs (a + long) = x at *
              clear hstep hg64 hbl h5 h6 hown hB
              have hbW : ¬ ((b : Int) ≤ ((min W a : Nat) : Int)) := by omega
              go_wp2_with (first | (go_at_call 30; refine (l00Min_any W a _).mono ?_; rintro e w' ⟨rfl, rfl⟩) | (at_builtin; go_must (refine app_ints rfl _ _ rfl w.heap.size w.heap.size (Nat.le_refl _) (.slice ao2 out.length cap2) out rfl hown' hB' _ _ [(back : Int), (long : Int), x] rfl rfl (by simp; omega) hB'.size ?_)))
              intro v' w' hown1 hB1 hg1
              obtain ⟨ao3, cap3, rfl⟩ := hown1.shape
              clear hg1 hown' hB'
              go_wp2
              go_roundw
              case rel => exact ⟨a + long + 1, f - 1, out ++ [(back : Int), (long : Int), x], by go_num, by omega, by omega, Hst.out.symm, by simp; omega, i64_app Ho64.out (i64_3 (i64_nat _ (by omega)) (i64_nat _ (by omega)) Hg.out), hown1, hB1⟩
              case measure => simp [intOf] <;> omega
        · have hq := Hq.out
          have hslf : slF zs W f a out = out := by cases f with
            | zero => rfl
            | succ f => rw [slF, if_neg hlt]
          rw [hslf] at hq
          have Hq2 := Lib.hid hq
          clear hq hslf
          go_wp2
          go_ret2
          rw [← Hq2.out]
          exact ⟨_, rfl, hown.oi Ho64.out, hB⟩
    · have hw : inB win 1 64 = false := by simpa using hw
      have Hok := Lib.hid (show slOk zs n win = false by simp [slOk, hw])
      have HZ := Lib.hid (show slZ zs n win = [] by simp [slZ, Hok.out])
      rw [HZ.out, Hok.out]
      go_enter Try.func11, Try.ntmps11
      go_wp2_with (first | (go_at_call 22; refine (l05Text_any _ zs _ _ h0).mono ?_; rw [ht]; rintro e w' ⟨rfl, rfl⟩) | (go_at_call 29; refine (l00In_any _ _ _ _).mono ?_; rw [hw]; rintro e w' ⟨rfl, rfl⟩))
      go_ret2
      exact ⟨_, rfl, OI.nil _ _, Below.refl _ _⟩
  · have ht : txt zs n = false := by simpa using ht
    have Hok := Lib.hid (show slOk zs n win = false by simp [slOk, ht])
    have HZ := Lib.hid (show slZ zs n win = [] by simp [slZ, Hok.out])
    rw [HZ.out, Hok.out]
    go_enter Try.func11, Try.ntmps11
    go_wp2_with (first | (go_at_call 22; refine (l05Text_any _ zs _ _ h0).mono ?_; rw [ht]; rintro e w' ⟨rfl, rfl⟩) | (go_at_call 29; refine (l00In_any _ _ _ _).mono ?_; rintro e w' ⟨rfl, rfl⟩))
    go_ret2
    exact ⟨_, rfl, OI.nil _ _, Below.refl _ _⟩
end Go.Proofs.Ytjeakgakpioieaa
