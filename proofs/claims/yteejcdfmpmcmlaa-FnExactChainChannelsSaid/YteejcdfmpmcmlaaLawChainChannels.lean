/- 'laws.FnExactChainChannels' returns true for all arguments: the program's function and the reference's return the same, and change no argument. No conditions. -/
import Derived.Test.YteejcdfmpmcmlaaChnI
import Derived.Test.YteejcdfmpmcmlaaState
import Derived.Test.YteejcdfmpmcmlaaLaws
import Derived.Test.YteejcdfmpmcmlaaFrame
import Derived.Deep.RegionHeld3
import Derived.Handy
import Derived.Test.YteejcdfmpmcmlaaStC
namespace Go.Proofs.Yteejcdfmpmcmlaa.fnExactChainChannels
open Go.ChangeShapes Go.WideShapes Go.ChangeAt Go.RowKit
set_option maxRecDepth 100000
set_option linter.unusedVariables false
set_option linter.unusedSimpArgs false

set_option maxRecDepth 100000 in
set_option maxHeartbeats 4000000 in
theorem walk (n0 m0 : Int) (v0 : Value) (z0 : List Nat) (n1 m1 : Int) (v1 : Value) (z1 : List Nat) (w : World) (h0 : Rg eF w v0 z0) (h1 : Rg eF w v1 z1) :
    Calls Try.prog 4 #[.agg #[.int .i64 n0, .int .i64 m0, v0], .agg #[.int .i64 n1, .int .i64 m1, v1]] w fun e w' => e = .returned (.bool true) ∧ Below w.heap.size w w' := by
  obtain ⟨ao0, cap0, rfl⟩ := h0.shape
  have hlen0 := h0.len
  obtain ⟨ao1, cap1, rfl⟩ := h1.shape
  have hlen1 := h1.len
  by_cases hl0 : z0.length ≤ 1048576
  · by_cases hl1 : z1.length ≤ 1048576 - z0.length
    · go_enter Try.func4, Try.ntmps4
      go_wp2_with fail
      refine (szChannel_any (n0) (m0) _ z0 _ _ (h0.below (by go_grown)) (by omega) (by omega)).mono ?_; rw [if_neg (by omega)]; rintro e W1 ⟨rfl, b2⟩
      have s1 : St w W1 [((⟨w.heap.size, 0, none⟩ : Addr), Value.int .i64 n0), ((⟨w.heap.size, 1, none⟩ : Addr), Value.int .i64 m0), ((⟨w.heap.size, 2, none⟩ : Addr), Value.slice ao0 z0.length cap0), ((⟨w.heap.size + 1, 0, none⟩ : Addr), Value.int .i64 n1), ((⟨w.heap.size + 1, 1, none⟩ : Addr), Value.int .i64 m1), ((⟨w.heap.size + 1, 2, none⟩ : Addr), Value.slice ao1 z1.length cap1)] [] := ⟨bnext (by go_grown) b2, ⟨cnext b2 (by simp [go_sem]), cnext b2 (by simp [go_sem]), cnext b2 (by simp [go_sem]), cnext b2 (by simp [go_sem]), cnext b2 (by simp [go_sem]), cnext b2 (by simp [go_sem]), trivial⟩, trivial, fun _ _ _ h => by cases h⟩
      obtain ⟨kc0, kc1, kc2, kc3, kc4, kc5, -⟩ := s1.cs
      go_wp2_with fail
      refine (szChannel_any (n1) (m1) _ z1 _ _ (h1.below s1.bt) (by omega) (by omega)).mono ?_; rw [if_neg (by omega)]; rintro e W3 ⟨rfl, b4⟩
      clear kc0 kc1 kc2 kc3 kc4 kc5
      have s2 := s1.below b4
      obtain ⟨kc0, kc1, kc2, kc3, kc4, kc5, -⟩ := s2.cs
      go_upto_region 8 with fail
      go_cut [6, 7] from 27 to 34 (fun vm5 bm5 wx => ∃ (gwm5 : Nat) (vwm5 : Value), vm5 = .pointer (some ⟨gwm5, 0, none⟩) ∧ bm5 = .bool (coOk n0 m0 z0 n1 m1 z1) ∧ (∃ ao cp, vwm5 = .slice ao (coZ n0 m0 z0 n1 m1 z1).length cp) ∧ St w wx [((⟨gwm5, 0, none⟩ : Addr), Value.int .i64 (cgN (coOk n0 m0 z0 n1 m1 z1) n0)), ((⟨gwm5, 1, none⟩ : Addr), Value.int .i64 (cgN (coOk n0 m0 z0 n1 m1 z1) m1)), ((⟨gwm5, 2, none⟩ : Addr), vwm5), ((⟨w.heap.size, 0, none⟩ : Addr), Value.int .i64 n0), ((⟨w.heap.size, 1, none⟩ : Addr), Value.int .i64 m0), ((⟨w.heap.size, 2, none⟩ : Addr), Value.slice ao0 z0.length cap0), ((⟨w.heap.size + 1, 0, none⟩ : Addr), Value.int .i64 n1), ((⟨w.heap.size + 1, 1, none⟩ : Addr), Value.int .i64 m1), ((⟨w.heap.size + 1, 2, none⟩ : Addr), Value.slice ao1 z1.length cap1)] [(vwm5, (coZ n0 m0 z0 n1 m1 z1).map eF)])
      case first =>
        have hdm5 : Below W3.heap.size W3 W3.drew := below_drewN _ 1
        refine wp_region_held_tail 10 (S := fun W' => W'.cell? (⟨w.heap.size, 0, none⟩ : Addr) = some (Value.int .i64 n0) ∧ W'.cell? (⟨w.heap.size, 1, none⟩ : Addr) = some (Value.int .i64 m0) ∧ W'.cell? (⟨w.heap.size, 2, none⟩ : Addr) = some (Value.slice ao0 z0.length cap0) ∧ W'.cell? (⟨w.heap.size + 1, 0, none⟩ : Addr) = some (Value.int .i64 n1) ∧ W'.cell? (⟨w.heap.size + 1, 1, none⟩ : Addr) = some (Value.int .i64 m1) ∧ W'.cell? (⟨w.heap.size + 1, 2, none⟩ : Addr) = some (Value.slice ao1 z1.length cap1) ∧ Below W3.heap.size W3 W') (by kernel_rfl) (by decide +kernel) ?_ (fun hHeld => ?_)
        · exact ⟨cnext hdm5 kc0, cnext hdm5 kc1, cnext hdm5 kc2, cnext hdm5 kc3, cnext hdm5 kc4, cnext hdm5 kc5, hdm5⟩
        simp only [List.take_succ_cons, List.take_zero, List.drop_succ_cons, List.drop_zero, List.length_cons, List.length_nil, Nat.reduceAdd]
        refine wpAnyH_tk (i := 0) (v := ?_) (some 28) rfl rfl (by kernel_rfl) (by decide +kernel) (by decide +kernel) (fun _ _ _ h => h) (by kernel_rfl) ?_ hHeld ?_
        rotate_left
        · (intro w hSw; (try dsimp only at hSw); go_simp <;> with_reducible rfl)
        (try simp only [Act.put, List.setIfInBounds_toArray, List.set_cons_zero, List.set_cons_succ])
        refine wpAnyH_tk (i := 2) (v := ?_) (some 30) rfl rfl (by kernel_rfl) (by decide +kernel) (by decide +kernel) (fun _ _ _ h => h) (by kernel_rfl) ?_ hHeld ?_
        rotate_left
        · (intro w hSw; (try dsimp only at hSw); go_simp <;> with_reducible rfl)
        (try simp only [Act.put, List.setIfInBounds_toArray, List.set_cons_zero, List.set_cons_succ])
        refine wpAnyH_ready (rs := [1, 8]) (by kernel_rfl) (by simp) ?_
        refine (AllReadyH.cons rfl (fun K hK => ?_) (AllReadyH.cons rfl (fun K hK => ?_) AllReadyH.nil))
        · go_simp
          with_reducible refine Calls.mono (toChannel_any (n0) (m0) _ z0 _ (h0.below (bnext s2.bt hHeld.2.2.2.2.2.2)) (by omega)) ?_
          rintro e wT0m5 ⟨t0m5, rfl, o0m5, hbwT0m5⟩
          have hqwT0m5 := bnext hHeld.2.2.2.2.2.2 hbwT0m5
          obtain ⟨a0m5, c0m5, rfl⟩ := o0m5.rg.shape
          try go_wp2_with fail
          refine hK.out _ _ ?_ (fun hHeld => ?_)
          · exact ⟨cnext hbwT0m5 hHeld.1, cnext hbwT0m5 hHeld.2.1, cnext hbwT0m5 hHeld.2.2.1, cnext hbwT0m5 hHeld.2.2.2.1, cnext hbwT0m5 hHeld.2.2.2.2.1, cnext hbwT0m5 hHeld.2.2.2.2.2.1, bnext hHeld.2.2.2.2.2.2 hbwT0m5⟩
          clear hK K
          (try simp only [Act.put, List.setIfInBounds_toArray, List.set_cons_zero, List.set_cons_succ])
          refine wpAnyH_ready (rs := [3, 8]) (by kernel_rfl) (by simp) ?_
          refine (AllReadyH.cons rfl (fun K hK => ?_) (AllReadyH.cons rfl (fun K hK => ?_) AllReadyH.nil))
          · go_simp
            with_reducible refine Calls.mono (toChannel_any (n1) (m1) _ z1 _ (h1.below (bnext s2.bt hHeld.2.2.2.2.2.2)) (by omega)) ?_
            rintro e wT1m5 ⟨t1m5, rfl, o1m5, hbwT1m5⟩
            have hqwT1m5 := bnext hHeld.2.2.2.2.2.2 hbwT1m5
            obtain ⟨a1m5, c1m5, rfl⟩ := o1m5.rg.shape
            try go_wp2_with fail
            refine hK.out _ _ ?_ (fun hHeld => ?_)
            · exact ⟨cnext hbwT1m5 hHeld.1, cnext hbwT1m5 hHeld.2.1, cnext hbwT1m5 hHeld.2.2.1, cnext hbwT1m5 hHeld.2.2.2.1, cnext hbwT1m5 hHeld.2.2.2.2.1, cnext hbwT1m5 hHeld.2.2.2.2.2.1, bnext hHeld.2.2.2.2.2.2 hbwT1m5⟩
            clear hK K
            (try simp only [Act.put, List.setIfInBounds_toArray, List.set_cons_zero, List.set_cons_succ])
            refine wpAnyH_ready (rs := [4, 8]) (by kernel_rfl) (by simp) ?_
            refine (AllReadyH.cons rfl (fun K hK => ?_) (AllReadyH.cons rfl (fun K hK => ?_) AllReadyH.nil))
            · go_simp
              with_reducible refine Calls.mono (specCo_any (n0) (m0) _ z0 (n1) (m1) _ z1 _ (Og.rg (Og.below hbwT1m5 o0m5)) (Og.rg o1m5)) ?_
              rintro e wFm5 ⟨tm5, rfl, om5, hbwFm5⟩
              have hqwFm5 := bnext hHeld.2.2.2.2.2.2 hbwFm5
              obtain ⟨am5, cm5, rfl⟩ := om5.rg.shape
              try go_wp2_with fail
              refine hK.out _ _ ?_ (fun hHeld => ?_)
              · exact ⟨cnext hbwFm5 hHeld.1, cnext hbwFm5 hHeld.2.1, cnext hbwFm5 hHeld.2.2.1, cnext hbwFm5 hHeld.2.2.2.1, cnext hbwFm5 hHeld.2.2.2.2.1, cnext hbwFm5 hHeld.2.2.2.2.2.1, bnext hHeld.2.2.2.2.2.2 hbwFm5⟩
              clear hK K
              (try simp only [Act.put, List.setIfInBounds_toArray, List.set_cons_zero, List.set_cons_succ])
              refine wpAnyH_tk (i := 5) (v := ?_) (some 27) rfl rfl (by kernel_rfl) (by decide +kernel) (by decide +kernel) (fun _ _ _ h => h) (by kernel_rfl) ?_ hHeld ?_
              rotate_left
              · (intro w hSw; (try dsimp only at hSw); go_simp <;> with_reducible rfl)
              (try simp only [Act.put, List.setIfInBounds_toArray, List.set_cons_zero, List.set_cons_succ])
              refine wpAnyH_tk (i := 6) (v := ?_) (some 33) rfl rfl (by kernel_rfl) (by decide +kernel) (by decide +kernel) (fun _ _ _ h => h) (by kernel_rfl) ?_ hHeld ?_
              rotate_left
              · (intro w hSw; (try dsimp only at hSw); go_simp <;> with_reducible rfl)
              (try simp only [Act.put, List.setIfInBounds_toArray, List.set_cons_zero, List.set_cons_succ])
              refine wpAnyH_tk (i := 7) (v := ?_) (some 34) rfl rfl (by kernel_rfl) (by decide +kernel) (by decide +kernel) (fun _ _ _ h => h) (by kernel_rfl) ?_ hHeld ?_
              rotate_left
              · (intro w hSw; (try dsimp only at hSw); go_simp <;> with_reducible rfl)
              (try simp only [Act.put, List.setIfInBounds_toArray, List.set_cons_zero, List.set_cons_succ])
              refine wpAnyH_ready (rs := [8]) (by kernel_rfl) (by simp) ?_
              refine (AllReadyH.cons rfl (fun K hK => ?_) AllReadyH.nil)
              · go_simp
                obtain ⟨wZm5, hwZ⟩ : ∃ W, W = World.alloc wFm5 (.cells #[.int .i64 0, .int .i64 0, .slice none 0 0] 28) := ⟨_, rfl⟩
                rw [← hwZ]
                have hbwZm5 : Below wFm5.heap.size wFm5 wZm5 := hwZ ▸ alloc_belowS wFm5 (.cells #[.int .i64 0, .int .i64 0, .slice none 0 0] 28)
                have hzwZm5 : wZm5.heap[wFm5.heap.size]? = some (.cells #[.int .i64 0, .int .i64 0, .slice none 0 0] 28 (0, 0)) := by rw [hwZ]; exact heap_alloc_new _ _
                have hqwZm5 := bnext hHeld.2.2.2.2.2.2 hbwZm5
                clear hwZ
                refine hK.out _ _ ?_ (fun hHeld => ?_)
                · exact ⟨cnext hbwZm5 hHeld.1, cnext hbwZm5 hHeld.2.1, cnext hbwZm5 hHeld.2.2.1, cnext hbwZm5 hHeld.2.2.2.1, cnext hbwZm5 hHeld.2.2.2.2.1, cnext hbwZm5 hHeld.2.2.2.2.2.1, bnext hHeld.2.2.2.2.2.2 hbwZm5⟩
                clear hK K
                (try simp only [Act.put, List.setIfInBounds_toArray, List.set_cons_zero, List.set_cons_succ])
                refine wpAnyH_ready (rs := [9]) (by kernel_rfl) (by simp) ?_
                refine (AllReadyH.cons rfl (fun K hK => ?_) AllReadyH.nil)
                · have hzF := hzwZm5
                  have hoF := om5
                  have hoF := Og.below hbwZm5 hoF
                  have hcF : Below W3.heap.size W3 wT1m5 := hqwT1m5
                  have hbF : Below W3.heap.size W3 wZm5 := hqwZm5
                  have hgF : W3.heap.size ≤ wFm5.heap.size := hqwFm5.size
                  have hvF := og_behind om5 (Nat.le_refl _)
                  have sF := Lib.hid (St.made s2 hbF hgF hzF (hoF.mono hcF.size) hvF (Value.int .i64 (cgN (coOk n0 m0 z0 n1 m1 z1) n0)) (Value.int .i64 (cgN (coOk n0 m0 z0 n1 m1 z1) m1)))
                  obtain ⟨-, -, -, g0, g1, g2, g3, g4, g5, -⟩ := sF.out.cs
                  have hb9 := ((hbF.setCell (p := ⟨wFm5.heap.size, 0, none⟩) hgF (Value.int .i64 (cgN (coOk n0 m0 z0 n1 m1 z1) n0))).setCell (p := ⟨wFm5.heap.size, 1, none⟩) hgF (Value.int .i64 (cgN (coOk n0 m0 z0 n1 m1 z1) m1))).setCell (p := ⟨wFm5.heap.size, 2, none⟩) hgF (.slice am5 (coZ n0 m0 z0 n1 m1 z1).length cm5)
                  obtain ⟨f0, f1, f2, e0, e1, e2⟩ := cells3 hzF
                  go_simp
                  refine hK.out _ _ ?_ (fun hHeld => ?_)
                  · exact ⟨g0, g1, g2, g3, g4, g5, hb9⟩
                  clear hK K
                  (try simp only [Act.put, List.setIfInBounds_toArray, List.set_cons_zero, List.set_cons_succ])
                  refine wpAnyH_done (by kernel_rfl) ?_ _
                  show wpList _ _ _ _ _ _
                  clear hHeld hzF hoF hvF
                  go_wp2
                  go_meet
                  case rel => exact ⟨wFm5.heap.size, _, rfl, rfl, ⟨_, _, rfl⟩, sF.out⟩
            · go_simp
              obtain ⟨wZm5, hwZ⟩ : ∃ W, W = World.alloc wT1m5 (.cells #[.int .i64 0, .int .i64 0, .slice none 0 0] 28) := ⟨_, rfl⟩
              rw [← hwZ]
              have hbwZm5 : Below wT1m5.heap.size wT1m5 wZm5 := hwZ ▸ alloc_belowS wT1m5 (.cells #[.int .i64 0, .int .i64 0, .slice none 0 0] 28)
              have hzwZm5 : wZm5.heap[wT1m5.heap.size]? = some (.cells #[.int .i64 0, .int .i64 0, .slice none 0 0] 28 (0, 0)) := by rw [hwZ]; exact heap_alloc_new _ _
              have hqwZm5 := bnext hHeld.2.2.2.2.2.2 hbwZm5
              clear hwZ
              refine hK.out _ _ ?_ (fun hHeld => ?_)
              · exact ⟨cnext hbwZm5 hHeld.1, cnext hbwZm5 hHeld.2.1, cnext hbwZm5 hHeld.2.2.1, cnext hbwZm5 hHeld.2.2.2.1, cnext hbwZm5 hHeld.2.2.2.2.1, cnext hbwZm5 hHeld.2.2.2.2.2.1, bnext hHeld.2.2.2.2.2.2 hbwZm5⟩
              clear hK K
              (try simp only [Act.put, List.setIfInBounds_toArray, List.set_cons_zero, List.set_cons_succ])
              refine wpAnyH_ready (rs := [4]) (by kernel_rfl) (by simp) ?_
              refine (AllReadyH.cons rfl (fun K hK => ?_) AllReadyH.nil)
              · go_simp
                with_reducible refine Calls.mono (specCo_any (n0) (m0) _ z0 (n1) (m1) _ z1 _ (Og.rg (Og.below hbwZm5 (Og.below hbwT1m5 o0m5))) (Og.rg (Og.below hbwZm5 o1m5))) ?_
                rintro e wFm5 ⟨tm5, rfl, om5, hbwFm5⟩
                have hqwFm5 := bnext hHeld.2.2.2.2.2.2 hbwFm5
                obtain ⟨am5, cm5, rfl⟩ := om5.rg.shape
                try go_wp2_with fail
                refine hK.out _ _ ?_ (fun hHeld => ?_)
                · exact ⟨cnext hbwFm5 hHeld.1, cnext hbwFm5 hHeld.2.1, cnext hbwFm5 hHeld.2.2.1, cnext hbwFm5 hHeld.2.2.2.1, cnext hbwFm5 hHeld.2.2.2.2.1, cnext hbwFm5 hHeld.2.2.2.2.2.1, bnext hHeld.2.2.2.2.2.2 hbwFm5⟩
                clear hK K
                (try simp only [Act.put, List.setIfInBounds_toArray, List.set_cons_zero, List.set_cons_succ])
                refine wpAnyH_tk (i := 5) (v := ?_) (some 27) rfl rfl (by kernel_rfl) (by decide +kernel) (by decide +kernel) (fun _ _ _ h => h) (by kernel_rfl) ?_ hHeld ?_
                rotate_left
                · (intro w hSw; (try dsimp only at hSw); go_simp <;> with_reducible rfl)
                (try simp only [Act.put, List.setIfInBounds_toArray, List.set_cons_zero, List.set_cons_succ])
                refine wpAnyH_tk (i := 6) (v := ?_) (some 33) rfl rfl (by kernel_rfl) (by decide +kernel) (by decide +kernel) (fun _ _ _ h => h) (by kernel_rfl) ?_ hHeld ?_
                rotate_left
                · (intro w hSw; (try dsimp only at hSw); go_simp <;> with_reducible rfl)
                (try simp only [Act.put, List.setIfInBounds_toArray, List.set_cons_zero, List.set_cons_succ])
                refine wpAnyH_tk (i := 7) (v := ?_) (some 34) rfl rfl (by kernel_rfl) (by decide +kernel) (by decide +kernel) (fun _ _ _ h => h) (by kernel_rfl) ?_ hHeld ?_
                rotate_left
                · (intro w hSw; (try dsimp only at hSw); go_simp <;> with_reducible rfl)
                (try simp only [Act.put, List.setIfInBounds_toArray, List.set_cons_zero, List.set_cons_succ])
                refine wpAnyH_ready (rs := [9]) (by kernel_rfl) (by simp) ?_
                refine (AllReadyH.cons rfl (fun K hK => ?_) AllReadyH.nil)
                · have hzF := hzwZm5
                  have hzF := blkS hbwFm5 hzF
                  have hoF := om5
                  have hcF : Below W3.heap.size W3 wZm5 := hqwZm5
                  have hbF : Below W3.heap.size W3 wFm5 := hqwFm5
                  have hgF : W3.heap.size ≤ wT1m5.heap.size := hqwT1m5.size
                  have hvF := og_before om5 (blkS_lt (hzwZm5))
                  have sF := Lib.hid (St.made s2 hbF hgF hzF (hoF.mono hcF.size) hvF (Value.int .i64 (cgN (coOk n0 m0 z0 n1 m1 z1) n0)) (Value.int .i64 (cgN (coOk n0 m0 z0 n1 m1 z1) m1)))
                  obtain ⟨-, -, -, g0, g1, g2, g3, g4, g5, -⟩ := sF.out.cs
                  have hb9 := ((hbF.setCell (p := ⟨wT1m5.heap.size, 0, none⟩) hgF (Value.int .i64 (cgN (coOk n0 m0 z0 n1 m1 z1) n0))).setCell (p := ⟨wT1m5.heap.size, 1, none⟩) hgF (Value.int .i64 (cgN (coOk n0 m0 z0 n1 m1 z1) m1))).setCell (p := ⟨wT1m5.heap.size, 2, none⟩) hgF (.slice am5 (coZ n0 m0 z0 n1 m1 z1).length cm5)
                  obtain ⟨f0, f1, f2, e0, e1, e2⟩ := cells3 hzF
                  go_simp
                  refine hK.out _ _ ?_ (fun hHeld => ?_)
                  · exact ⟨g0, g1, g2, g3, g4, g5, hb9⟩
                  clear hK K
                  (try simp only [Act.put, List.setIfInBounds_toArray, List.set_cons_zero, List.set_cons_succ])
                  refine wpAnyH_done (by kernel_rfl) ?_ _
                  show wpList _ _ _ _ _ _
                  clear hHeld hzF hoF hvF
                  go_wp2
                  go_meet
                  case rel => exact ⟨wT1m5.heap.size, _, rfl, rfl, ⟨_, _, rfl⟩, sF.out⟩
          · go_simp
            obtain ⟨wZm5, hwZ⟩ : ∃ W, W = World.alloc wT0m5 (.cells #[.int .i64 0, .int .i64 0, .slice none 0 0] 28) := ⟨_, rfl⟩
            rw [← hwZ]
            have hbwZm5 : Below wT0m5.heap.size wT0m5 wZm5 := hwZ ▸ alloc_belowS wT0m5 (.cells #[.int .i64 0, .int .i64 0, .slice none 0 0] 28)
            have hzwZm5 : wZm5.heap[wT0m5.heap.size]? = some (.cells #[.int .i64 0, .int .i64 0, .slice none 0 0] 28 (0, 0)) := by rw [hwZ]; exact heap_alloc_new _ _
            have hqwZm5 := bnext hHeld.2.2.2.2.2.2 hbwZm5
            clear hwZ
            refine hK.out _ _ ?_ (fun hHeld => ?_)
            · exact ⟨cnext hbwZm5 hHeld.1, cnext hbwZm5 hHeld.2.1, cnext hbwZm5 hHeld.2.2.1, cnext hbwZm5 hHeld.2.2.2.1, cnext hbwZm5 hHeld.2.2.2.2.1, cnext hbwZm5 hHeld.2.2.2.2.2.1, bnext hHeld.2.2.2.2.2.2 hbwZm5⟩
            clear hK K
            (try simp only [Act.put, List.setIfInBounds_toArray, List.set_cons_zero, List.set_cons_succ])
            refine wpAnyH_ready (rs := [3]) (by kernel_rfl) (by simp) ?_
            refine (AllReadyH.cons rfl (fun K hK => ?_) AllReadyH.nil)
            · go_simp
              with_reducible refine Calls.mono (toChannel_any (n1) (m1) _ z1 _ (h1.below (bnext s2.bt hHeld.2.2.2.2.2.2)) (by omega)) ?_
              rintro e wT1m5 ⟨t1m5, rfl, o1m5, hbwT1m5⟩
              have hqwT1m5 := bnext hHeld.2.2.2.2.2.2 hbwT1m5
              obtain ⟨a1m5, c1m5, rfl⟩ := o1m5.rg.shape
              try go_wp2_with fail
              refine hK.out _ _ ?_ (fun hHeld => ?_)
              · exact ⟨cnext hbwT1m5 hHeld.1, cnext hbwT1m5 hHeld.2.1, cnext hbwT1m5 hHeld.2.2.1, cnext hbwT1m5 hHeld.2.2.2.1, cnext hbwT1m5 hHeld.2.2.2.2.1, cnext hbwT1m5 hHeld.2.2.2.2.2.1, bnext hHeld.2.2.2.2.2.2 hbwT1m5⟩
              clear hK K
              (try simp only [Act.put, List.setIfInBounds_toArray, List.set_cons_zero, List.set_cons_succ])
              refine wpAnyH_ready (rs := [4]) (by kernel_rfl) (by simp) ?_
              refine (AllReadyH.cons rfl (fun K hK => ?_) AllReadyH.nil)
              · go_simp
                with_reducible refine Calls.mono (specCo_any (n0) (m0) _ z0 (n1) (m1) _ z1 _ (Og.rg (Og.below hbwT1m5 (Og.below hbwZm5 o0m5))) (Og.rg o1m5)) ?_
                rintro e wFm5 ⟨tm5, rfl, om5, hbwFm5⟩
                have hqwFm5 := bnext hHeld.2.2.2.2.2.2 hbwFm5
                obtain ⟨am5, cm5, rfl⟩ := om5.rg.shape
                try go_wp2_with fail
                refine hK.out _ _ ?_ (fun hHeld => ?_)
                · exact ⟨cnext hbwFm5 hHeld.1, cnext hbwFm5 hHeld.2.1, cnext hbwFm5 hHeld.2.2.1, cnext hbwFm5 hHeld.2.2.2.1, cnext hbwFm5 hHeld.2.2.2.2.1, cnext hbwFm5 hHeld.2.2.2.2.2.1, bnext hHeld.2.2.2.2.2.2 hbwFm5⟩
                clear hK K
                (try simp only [Act.put, List.setIfInBounds_toArray, List.set_cons_zero, List.set_cons_succ])
                refine wpAnyH_tk (i := 5) (v := ?_) (some 27) rfl rfl (by kernel_rfl) (by decide +kernel) (by decide +kernel) (fun _ _ _ h => h) (by kernel_rfl) ?_ hHeld ?_
                rotate_left
                · (intro w hSw; (try dsimp only at hSw); go_simp <;> with_reducible rfl)
                (try simp only [Act.put, List.setIfInBounds_toArray, List.set_cons_zero, List.set_cons_succ])
                refine wpAnyH_tk (i := 6) (v := ?_) (some 33) rfl rfl (by kernel_rfl) (by decide +kernel) (by decide +kernel) (fun _ _ _ h => h) (by kernel_rfl) ?_ hHeld ?_
                rotate_left
                · (intro w hSw; (try dsimp only at hSw); go_simp <;> with_reducible rfl)
                (try simp only [Act.put, List.setIfInBounds_toArray, List.set_cons_zero, List.set_cons_succ])
                refine wpAnyH_tk (i := 7) (v := ?_) (some 34) rfl rfl (by kernel_rfl) (by decide +kernel) (by decide +kernel) (fun _ _ _ h => h) (by kernel_rfl) ?_ hHeld ?_
                rotate_left
                · (intro w hSw; (try dsimp only at hSw); go_simp <;> with_reducible rfl)
                (try simp only [Act.put, List.setIfInBounds_toArray, List.set_cons_zero, List.set_cons_succ])
                refine wpAnyH_ready (rs := [9]) (by kernel_rfl) (by simp) ?_
                refine (AllReadyH.cons rfl (fun K hK => ?_) AllReadyH.nil)
                · have hzF := hzwZm5
                  have hzF := blkS hbwT1m5 hzF
                  have hzF := blkS hbwFm5 hzF
                  have hoF := om5
                  have hcF : Below W3.heap.size W3 wT1m5 := hqwT1m5
                  have hbF : Below W3.heap.size W3 wFm5 := hqwFm5
                  have hgF : W3.heap.size ≤ wT0m5.heap.size := hqwT0m5.size
                  have hvF := og_before om5 (blkS_lt (blkS hbwT1m5 (hzwZm5)))
                  have sF := Lib.hid (St.made s2 hbF hgF hzF (hoF.mono hcF.size) hvF (Value.int .i64 (cgN (coOk n0 m0 z0 n1 m1 z1) n0)) (Value.int .i64 (cgN (coOk n0 m0 z0 n1 m1 z1) m1)))
                  obtain ⟨-, -, -, g0, g1, g2, g3, g4, g5, -⟩ := sF.out.cs
                  have hb9 := ((hbF.setCell (p := ⟨wT0m5.heap.size, 0, none⟩) hgF (Value.int .i64 (cgN (coOk n0 m0 z0 n1 m1 z1) n0))).setCell (p := ⟨wT0m5.heap.size, 1, none⟩) hgF (Value.int .i64 (cgN (coOk n0 m0 z0 n1 m1 z1) m1))).setCell (p := ⟨wT0m5.heap.size, 2, none⟩) hgF (.slice am5 (coZ n0 m0 z0 n1 m1 z1).length cm5)
                  obtain ⟨f0, f1, f2, e0, e1, e2⟩ := cells3 hzF
                  go_simp
                  refine hK.out _ _ ?_ (fun hHeld => ?_)
                  · exact ⟨g0, g1, g2, g3, g4, g5, hb9⟩
                  clear hK K
                  (try simp only [Act.put, List.setIfInBounds_toArray, List.set_cons_zero, List.set_cons_succ])
                  refine wpAnyH_done (by kernel_rfl) ?_ _
                  show wpList _ _ _ _ _ _
                  clear hHeld hzF hoF hvF
                  go_wp2
                  go_meet
                  case rel => exact ⟨wT0m5.heap.size, _, rfl, rfl, ⟨_, _, rfl⟩, sF.out⟩
        · go_simp
          obtain ⟨wZm5, hwZ⟩ : ∃ W, W = (World.alloc W3 (.cells #[.int .i64 0, .int .i64 0, .slice none 0 0] 28)).drew := ⟨_, rfl⟩
          rw [← hwZ]
          have hbwZm5 : Below W3.heap.size W3 wZm5 := hwZ ▸ (alloc_belowS W3 (.cells #[.int .i64 0, .int .i64 0, .slice none 0 0] 28)).drew
          have hzwZm5 : wZm5.heap[W3.heap.size]? = some (.cells #[.int .i64 0, .int .i64 0, .slice none 0 0] 28 (0, 0)) := by rw [hwZ]; exact heap_alloc_new W3 _
          have hqwZm5 := hbwZm5
          clear hwZ
          refine hK.out _ _ ?_ (fun hHeld => ?_)
          · exact ⟨cnext hbwZm5 kc0, cnext hbwZm5 kc1, cnext hbwZm5 kc2, cnext hbwZm5 kc3, cnext hbwZm5 kc4, cnext hbwZm5 kc5, hbwZm5⟩
          clear hK K
          (try simp only [Act.put, List.setIfInBounds_toArray, List.set_cons_zero, List.set_cons_succ])
          refine wpAnyH_ready (rs := [1]) (by kernel_rfl) (by simp) ?_
          refine (AllReadyH.cons rfl (fun K hK => ?_) AllReadyH.nil)
          · go_simp
            with_reducible refine Calls.mono (toChannel_any (n0) (m0) _ z0 _ (h0.below (bnext s2.bt hHeld.2.2.2.2.2.2)) (by omega)) ?_
            rintro e wT0m5 ⟨t0m5, rfl, o0m5, hbwT0m5⟩
            have hqwT0m5 := bnext hHeld.2.2.2.2.2.2 hbwT0m5
            obtain ⟨a0m5, c0m5, rfl⟩ := o0m5.rg.shape
            try go_wp2_with fail
            refine hK.out _ _ ?_ (fun hHeld => ?_)
            · exact ⟨cnext hbwT0m5 hHeld.1, cnext hbwT0m5 hHeld.2.1, cnext hbwT0m5 hHeld.2.2.1, cnext hbwT0m5 hHeld.2.2.2.1, cnext hbwT0m5 hHeld.2.2.2.2.1, cnext hbwT0m5 hHeld.2.2.2.2.2.1, bnext hHeld.2.2.2.2.2.2 hbwT0m5⟩
            clear hK K
            (try simp only [Act.put, List.setIfInBounds_toArray, List.set_cons_zero, List.set_cons_succ])
            refine wpAnyH_ready (rs := [3]) (by kernel_rfl) (by simp) ?_
            refine (AllReadyH.cons rfl (fun K hK => ?_) AllReadyH.nil)
            · go_simp
              with_reducible refine Calls.mono (toChannel_any (n1) (m1) _ z1 _ (h1.below (bnext s2.bt hHeld.2.2.2.2.2.2)) (by omega)) ?_
              rintro e wT1m5 ⟨t1m5, rfl, o1m5, hbwT1m5⟩
              have hqwT1m5 := bnext hHeld.2.2.2.2.2.2 hbwT1m5
              obtain ⟨a1m5, c1m5, rfl⟩ := o1m5.rg.shape
              try go_wp2_with fail
              refine hK.out _ _ ?_ (fun hHeld => ?_)
              · exact ⟨cnext hbwT1m5 hHeld.1, cnext hbwT1m5 hHeld.2.1, cnext hbwT1m5 hHeld.2.2.1, cnext hbwT1m5 hHeld.2.2.2.1, cnext hbwT1m5 hHeld.2.2.2.2.1, cnext hbwT1m5 hHeld.2.2.2.2.2.1, bnext hHeld.2.2.2.2.2.2 hbwT1m5⟩
              clear hK K
              (try simp only [Act.put, List.setIfInBounds_toArray, List.set_cons_zero, List.set_cons_succ])
              refine wpAnyH_ready (rs := [4]) (by kernel_rfl) (by simp) ?_
              refine (AllReadyH.cons rfl (fun K hK => ?_) AllReadyH.nil)
              · go_simp
                with_reducible refine Calls.mono (specCo_any (n0) (m0) _ z0 (n1) (m1) _ z1 _ (Og.rg (Og.below hbwT1m5 o0m5)) (Og.rg o1m5)) ?_
                rintro e wFm5 ⟨tm5, rfl, om5, hbwFm5⟩
                have hqwFm5 := bnext hHeld.2.2.2.2.2.2 hbwFm5
                obtain ⟨am5, cm5, rfl⟩ := om5.rg.shape
                try go_wp2_with fail
                refine hK.out _ _ ?_ (fun hHeld => ?_)
                · exact ⟨cnext hbwFm5 hHeld.1, cnext hbwFm5 hHeld.2.1, cnext hbwFm5 hHeld.2.2.1, cnext hbwFm5 hHeld.2.2.2.1, cnext hbwFm5 hHeld.2.2.2.2.1, cnext hbwFm5 hHeld.2.2.2.2.2.1, bnext hHeld.2.2.2.2.2.2 hbwFm5⟩
                clear hK K
                (try simp only [Act.put, List.setIfInBounds_toArray, List.set_cons_zero, List.set_cons_succ])
                refine wpAnyH_tk (i := 5) (v := ?_) (some 27) rfl rfl (by kernel_rfl) (by decide +kernel) (by decide +kernel) (fun _ _ _ h => h) (by kernel_rfl) ?_ hHeld ?_
                rotate_left
                · (intro w hSw; (try dsimp only at hSw); go_simp <;> with_reducible rfl)
                (try simp only [Act.put, List.setIfInBounds_toArray, List.set_cons_zero, List.set_cons_succ])
                refine wpAnyH_tk (i := 6) (v := ?_) (some 33) rfl rfl (by kernel_rfl) (by decide +kernel) (by decide +kernel) (fun _ _ _ h => h) (by kernel_rfl) ?_ hHeld ?_
                rotate_left
                · (intro w hSw; (try dsimp only at hSw); go_simp <;> with_reducible rfl)
                (try simp only [Act.put, List.setIfInBounds_toArray, List.set_cons_zero, List.set_cons_succ])
                refine wpAnyH_tk (i := 7) (v := ?_) (some 34) rfl rfl (by kernel_rfl) (by decide +kernel) (by decide +kernel) (fun _ _ _ h => h) (by kernel_rfl) ?_ hHeld ?_
                rotate_left
                · (intro w hSw; (try dsimp only at hSw); go_simp <;> with_reducible rfl)
                (try simp only [Act.put, List.setIfInBounds_toArray, List.set_cons_zero, List.set_cons_succ])
                refine wpAnyH_ready (rs := [9]) (by kernel_rfl) (by simp) ?_
                refine (AllReadyH.cons rfl (fun K hK => ?_) AllReadyH.nil)
                · have hzF := hzwZm5
                  have hzF := blkS hbwT0m5 hzF
                  have hzF := blkS hbwT1m5 hzF
                  have hzF := blkS hbwFm5 hzF
                  have hoF := om5
                  have hcF : Below W3.heap.size W3 wT1m5 := hqwT1m5
                  have hbF : Below W3.heap.size W3 wFm5 := hqwFm5
                  have hgF : W3.heap.size ≤ W3.heap.size := Nat.le_refl _
                  have hvF := og_before om5 (blkS_lt (blkS hbwT1m5 (blkS hbwT0m5 (hzwZm5))))
                  have sF := Lib.hid (St.made s2 hbF hgF hzF (hoF.mono hcF.size) hvF (Value.int .i64 (cgN (coOk n0 m0 z0 n1 m1 z1) n0)) (Value.int .i64 (cgN (coOk n0 m0 z0 n1 m1 z1) m1)))
                  obtain ⟨-, -, -, g0, g1, g2, g3, g4, g5, -⟩ := sF.out.cs
                  have hb9 := ((hbF.setCell (p := ⟨W3.heap.size, 0, none⟩) hgF (Value.int .i64 (cgN (coOk n0 m0 z0 n1 m1 z1) n0))).setCell (p := ⟨W3.heap.size, 1, none⟩) hgF (Value.int .i64 (cgN (coOk n0 m0 z0 n1 m1 z1) m1))).setCell (p := ⟨W3.heap.size, 2, none⟩) hgF (.slice am5 (coZ n0 m0 z0 n1 m1 z1).length cm5)
                  obtain ⟨f0, f1, f2, e0, e1, e2⟩ := cells3 hzF
                  go_simp
                  refine hK.out _ _ ?_ (fun hHeld => ?_)
                  · exact ⟨g0, g1, g2, g3, g4, g5, hb9⟩
                  clear hK K
                  (try simp only [Act.put, List.setIfInBounds_toArray, List.set_cons_zero, List.set_cons_succ])
                  refine wpAnyH_done (by kernel_rfl) ?_ _
                  show wpList _ _ _ _ _ _
                  clear hHeld hzF hoF hvF
                  go_wp2
                  go_meet
                  case rel => exact ⟨W3.heap.size, _, rfl, rfl, ⟨_, _, rfl⟩, sF.out⟩
      case rest =>
        obtain ⟨gwm5, vwm5, rfl, rfl, ⟨ao6, cp7, rfl⟩, s3⟩ := hcut
        clear kc0 kc1 kc2 kc3 kc4 kc5
        obtain ⟨kc0, kc1, kc2, kc3, kc4, kc5, kc6, kc7, kc8, -⟩ := s3.cs
        go_wp2_with fail
        refine (toChannel_any (n0) (m0) _ z0 _ (h0.below s3.bt) (by omega)).mono ?_; rintro e W8 ⟨t9, rfl, o10, b11⟩
        obtain ⟨ao12, cp13, rfl⟩ := o10.rg.shape
        clear kc0 kc1 kc2 kc3 kc4 kc5 kc6 kc7 kc8
        have s4 := s3.push b11 o10
        obtain ⟨kc0, kc1, kc2, kc3, kc4, kc5, kc6, kc7, kc8, -⟩ := s4.cs
        clear kc0 kc1 kc2 kc3 kc4 kc5 kc6 kc7 kc8
        have s5 := s4.box3 (Value.int .i64 (n0)) (Value.int .i64 (m0)) ((Value.slice ao12 (z0).length cp13)) 28
        obtain ⟨kc0, kc1, kc2, kc3, kc4, kc5, kc6, kc7, kc8, kc9, kc10, kc11, -⟩ := s5.cs
        go_wp2_with fail
        refine (toChannel_any (n1) (m1) _ z1 _ (h1.below s5.bt) (by omega)).mono ?_; rintro e W14 ⟨t15, rfl, o16, b17⟩
        obtain ⟨ao18, cp19, rfl⟩ := o16.rg.shape
        clear kc0 kc1 kc2 kc3 kc4 kc5 kc6 kc7 kc8 kc9 kc10 kc11
        have s6 := s5.push b17 o16
        obtain ⟨kc0, kc1, kc2, kc3, kc4, kc5, kc6, kc7, kc8, kc9, kc10, kc11, -⟩ := s6.cs
        clear kc0 kc1 kc2 kc3 kc4 kc5 kc6 kc7 kc8 kc9 kc10 kc11
        have s7 := s6.box3 (Value.int .i64 (n1)) (Value.int .i64 (m1)) ((Value.slice ao18 (z1).length cp19)) 28
        obtain ⟨kc0, kc1, kc2, kc3, kc4, kc5, kc6, kc7, kc8, kc9, kc10, kc11, kc12, kc13, kc14, -⟩ := s7.cs
        go_wp2_with fail
        refine (implCo_any (n0) (m0) _ z0 (n1) (m1) _ z1 _ (s7.of (List.mem_of_getElem? (i := 1) rfl)).rg (s7.of (List.mem_of_getElem? (i := 0) rfl)).rg).mono ?_; rintro e W20 ⟨g22, rfl, o23, b21⟩
        obtain ⟨ao24, cp25, rfl⟩ := o23.rg.shape
        clear kc0 kc1 kc2 kc3 kc4 kc5 kc6 kc7 kc8 kc9 kc10 kc11 kc12 kc13 kc14
        have s8 := s7.push b21 o23
        obtain ⟨kc0, kc1, kc2, kc3, kc4, kc5, kc6, kc7, kc8, kc9, kc10, kc11, kc12, kc13, kc14, -⟩ := s8.cs
        clear kc0 kc1 kc2 kc3 kc4 kc5 kc6 kc7 kc8 kc9 kc10 kc11 kc12 kc13 kc14
        have s9 := s8.box3 (Value.int .i64 (cgN (coOk n0 m0 z0 n1 m1 z1) n0)) (Value.int .i64 (cgN (coOk n0 m0 z0 n1 m1 z1) m1)) ((Value.slice ao24 (coZ n0 m0 z0 n1 m1 z1).length cp25)) 28
        obtain ⟨kc0, kc1, kc2, kc3, kc4, kc5, kc6, kc7, kc8, kc9, kc10, kc11, kc12, kc13, kc14, kc15, kc16, kc17, -⟩ := s9.cs
        go_wp2_with fail
        refine (eqChannel_same (cgN (coOk n0 m0 z0 n1 m1 z1) n0) (cgN (coOk n0 m0 z0 n1 m1 z1) m1) _ _ (coZ n0 m0 z0 n1 m1 z1) _ (s9.of (List.mem_of_getElem? (i := 0) rfl)).rg (s9.of (List.mem_of_getElem? (i := 3) rfl)).rg).mono ?_; rintro e W27 ⟨rfl, b26⟩
        clear kc0 kc1 kc2 kc3 kc4 kc5 kc6 kc7 kc8 kc9 kc10 kc11 kc12 kc13 kc14 kc15 kc16 kc17
        have s10 := s9.below b26
        obtain ⟨kc0, kc1, kc2, kc3, kc4, kc5, kc6, kc7, kc8, kc9, kc10, kc11, kc12, kc13, kc14, kc15, kc16, kc17, -⟩ := s10.cs
        go_wp2_with fail
        go_region_held3 (fun W' => W'.cell? (⟨W20.heap.size, 0, none⟩ : Addr) = some (Value.int .i64 (cgN (coOk n0 m0 z0 n1 m1 z1) n0)) ∧ W'.cell? (⟨W20.heap.size, 1, none⟩ : Addr) = some (Value.int .i64 (cgN (coOk n0 m0 z0 n1 m1 z1) m1)) ∧ W'.cell? (⟨W20.heap.size, 2, none⟩ : Addr) = some ((Value.slice ao24 (coZ n0 m0 z0 n1 m1 z1).length cp25)) ∧ W'.cell? (⟨W14.heap.size, 0, none⟩ : Addr) = some (Value.int .i64 (n1)) ∧ W'.cell? (⟨W14.heap.size, 1, none⟩ : Addr) = some (Value.int .i64 (m1)) ∧ W'.cell? (⟨W14.heap.size, 2, none⟩ : Addr) = some ((Value.slice ao18 (z1).length cp19)) ∧ W'.cell? (⟨W8.heap.size, 0, none⟩ : Addr) = some (Value.int .i64 (n0)) ∧ W'.cell? (⟨W8.heap.size, 1, none⟩ : Addr) = some (Value.int .i64 (m0)) ∧ W'.cell? (⟨W8.heap.size, 2, none⟩ : Addr) = some ((Value.slice ao12 (z0).length cp13)) ∧ W'.cell? (⟨gwm5, 0, none⟩ : Addr) = some (Value.int .i64 (cgN (coOk n0 m0 z0 n1 m1 z1) n0)) ∧ W'.cell? (⟨gwm5, 1, none⟩ : Addr) = some (Value.int .i64 (cgN (coOk n0 m0 z0 n1 m1 z1) m1)) ∧ W'.cell? (⟨gwm5, 2, none⟩ : Addr) = some ((Value.slice ao6 (coZ n0 m0 z0 n1 m1 z1).length cp7)) ∧ W'.cell? (⟨w.heap.size, 0, none⟩ : Addr) = some (Value.int .i64 n0) ∧ W'.cell? (⟨w.heap.size, 1, none⟩ : Addr) = some (Value.int .i64 m0) ∧ W'.cell? (⟨w.heap.size, 2, none⟩ : Addr) = some (Value.slice ao0 z0.length cap0) ∧ W'.cell? (⟨w.heap.size + 1, 0, none⟩ : Addr) = some (Value.int .i64 n1) ∧ W'.cell? (⟨w.heap.size + 1, 1, none⟩ : Addr) = some (Value.int .i64 m1) ∧ W'.cell? (⟨w.heap.size + 1, 2, none⟩ : Addr) = some (Value.slice ao1 z1.length cap1) ∧ St w W' [((⟨W20.heap.size, 0, none⟩ : Addr), Value.int .i64 (cgN (coOk n0 m0 z0 n1 m1 z1) n0)), ((⟨W20.heap.size, 1, none⟩ : Addr), Value.int .i64 (cgN (coOk n0 m0 z0 n1 m1 z1) m1)), ((⟨W20.heap.size, 2, none⟩ : Addr), (Value.slice ao24 (coZ n0 m0 z0 n1 m1 z1).length cp25)), ((⟨W14.heap.size, 0, none⟩ : Addr), Value.int .i64 (n1)), ((⟨W14.heap.size, 1, none⟩ : Addr), Value.int .i64 (m1)), ((⟨W14.heap.size, 2, none⟩ : Addr), (Value.slice ao18 (z1).length cp19)), ((⟨W8.heap.size, 0, none⟩ : Addr), Value.int .i64 (n0)), ((⟨W8.heap.size, 1, none⟩ : Addr), Value.int .i64 (m0)), ((⟨W8.heap.size, 2, none⟩ : Addr), (Value.slice ao12 (z0).length cp13)), ((⟨gwm5, 0, none⟩ : Addr), Value.int .i64 (cgN (coOk n0 m0 z0 n1 m1 z1) n0)), ((⟨gwm5, 1, none⟩ : Addr), Value.int .i64 (cgN (coOk n0 m0 z0 n1 m1 z1) m1)), ((⟨gwm5, 2, none⟩ : Addr), (Value.slice ao6 (coZ n0 m0 z0 n1 m1 z1).length cp7)), ((⟨w.heap.size, 0, none⟩ : Addr), Value.int .i64 n0), ((⟨w.heap.size, 1, none⟩ : Addr), Value.int .i64 m0), ((⟨w.heap.size, 2, none⟩ : Addr), Value.slice ao0 z0.length cap0), ((⟨w.heap.size + 1, 0, none⟩ : Addr), Value.int .i64 n1), ((⟨w.heap.size + 1, 1, none⟩ : Addr), Value.int .i64 m1), ((⟨w.heap.size + 1, 2, none⟩ : Addr), Value.slice ao1 z1.length cap1)] [((Value.slice ao24 (coZ n0 m0 z0 n1 m1 z1).length cp25), (coZ n0 m0 z0 n1 m1 z1).map eF), ((Value.slice ao18 (z1).length cp19), (z1).map eF), ((Value.slice ao12 (z0).length cp13), (z0).map eF), ((Value.slice ao6 (coZ n0 m0 z0 n1 m1 z1).length cp7), (coZ n0 m0 z0 n1 m1 z1).map eF)])
          ((go_split_ands; refine ⟨?_, ?_, ?_, ?_, ?_, ?_, ?_, ?_, ?_, ?_, ?_, ?_, ?_, ?_, ?_, ?_, ?_, ?_, ?_⟩ <;> first | assumption | exact cnext (by assumption) (by assumption) | exact St.below (by assumption) (by assumption) | exact St.below (St.drew (by assumption)) (by assumption) | exact St.drew (by assumption) | exact St.drewN (by assumption) _))
          (first
            | (go_at_call 9; with_reducible refine Calls.mono (toChannel_any (n0) (m0) _ z0 _ ?_ (by omega)) ?_; (exact Rg.below (St.bt (ks := [((⟨W20.heap.size, 0, none⟩ : Addr), Value.int .i64 (cgN (coOk n0 m0 z0 n1 m1 z1) n0)), ((⟨W20.heap.size, 1, none⟩ : Addr), Value.int .i64 (cgN (coOk n0 m0 z0 n1 m1 z1) m1)), ((⟨W20.heap.size, 2, none⟩ : Addr), (Value.slice ao24 (coZ n0 m0 z0 n1 m1 z1).length cp25)), ((⟨W14.heap.size, 0, none⟩ : Addr), Value.int .i64 (n1)), ((⟨W14.heap.size, 1, none⟩ : Addr), Value.int .i64 (m1)), ((⟨W14.heap.size, 2, none⟩ : Addr), (Value.slice ao18 (z1).length cp19)), ((⟨W8.heap.size, 0, none⟩ : Addr), Value.int .i64 (n0)), ((⟨W8.heap.size, 1, none⟩ : Addr), Value.int .i64 (m0)), ((⟨W8.heap.size, 2, none⟩ : Addr), (Value.slice ao12 (z0).length cp13)), ((⟨gwm5, 0, none⟩ : Addr), Value.int .i64 (cgN (coOk n0 m0 z0 n1 m1 z1) n0)), ((⟨gwm5, 1, none⟩ : Addr), Value.int .i64 (cgN (coOk n0 m0 z0 n1 m1 z1) m1)), ((⟨gwm5, 2, none⟩ : Addr), (Value.slice ao6 (coZ n0 m0 z0 n1 m1 z1).length cp7)), ((⟨w.heap.size, 0, none⟩ : Addr), Value.int .i64 n0), ((⟨w.heap.size, 1, none⟩ : Addr), Value.int .i64 m0), ((⟨w.heap.size, 2, none⟩ : Addr), Value.slice ao0 z0.length cap0), ((⟨w.heap.size + 1, 0, none⟩ : Addr), Value.int .i64 n1), ((⟨w.heap.size + 1, 1, none⟩ : Addr), Value.int .i64 m1), ((⟨w.heap.size + 1, 2, none⟩ : Addr), Value.slice ao1 z1.length cap1)]) (l := [((Value.slice ao24 (coZ n0 m0 z0 n1 m1 z1).length cp25), (coZ n0 m0 z0 n1 m1 z1).map eF), ((Value.slice ao18 (z1).length cp19), (z1).map eF), ((Value.slice ao12 (z0).length cp13), (z0).map eF), ((Value.slice ao6 (coZ n0 m0 z0 n1 m1 z1).length cp7), (coZ n0 m0 z0 n1 m1 z1).map eF)]) (by go_split_ands; first | assumption | exact St.drew (by assumption))) h0); rintro e W28 ⟨t29, rfl, o30, b31⟩; have qo30 := Og.shapeF o30; obtain ⟨ao32, cp33, rfl⟩ := qo30)
            | (go_at_call 13; with_reducible refine Calls.mono (eqChannel_same (n0) (m0) _ _ z0 _ ?_ ?_) ?_; (exact Og.rg (St.of (ks := [((⟨W20.heap.size, 0, none⟩ : Addr), Value.int .i64 (cgN (coOk n0 m0 z0 n1 m1 z1) n0)), ((⟨W20.heap.size, 1, none⟩ : Addr), Value.int .i64 (cgN (coOk n0 m0 z0 n1 m1 z1) m1)), ((⟨W20.heap.size, 2, none⟩ : Addr), (Value.slice ao24 (coZ n0 m0 z0 n1 m1 z1).length cp25)), ((⟨W14.heap.size, 0, none⟩ : Addr), Value.int .i64 (n1)), ((⟨W14.heap.size, 1, none⟩ : Addr), Value.int .i64 (m1)), ((⟨W14.heap.size, 2, none⟩ : Addr), (Value.slice ao18 (z1).length cp19)), ((⟨W8.heap.size, 0, none⟩ : Addr), Value.int .i64 (n0)), ((⟨W8.heap.size, 1, none⟩ : Addr), Value.int .i64 (m0)), ((⟨W8.heap.size, 2, none⟩ : Addr), (Value.slice ao12 (z0).length cp13)), ((⟨gwm5, 0, none⟩ : Addr), Value.int .i64 (cgN (coOk n0 m0 z0 n1 m1 z1) n0)), ((⟨gwm5, 1, none⟩ : Addr), Value.int .i64 (cgN (coOk n0 m0 z0 n1 m1 z1) m1)), ((⟨gwm5, 2, none⟩ : Addr), (Value.slice ao6 (coZ n0 m0 z0 n1 m1 z1).length cp7)), ((⟨w.heap.size, 0, none⟩ : Addr), Value.int .i64 n0), ((⟨w.heap.size, 1, none⟩ : Addr), Value.int .i64 m0), ((⟨w.heap.size, 2, none⟩ : Addr), Value.slice ao0 z0.length cap0), ((⟨w.heap.size + 1, 0, none⟩ : Addr), Value.int .i64 n1), ((⟨w.heap.size + 1, 1, none⟩ : Addr), Value.int .i64 m1), ((⟨w.heap.size + 1, 2, none⟩ : Addr), Value.slice ao1 z1.length cap1)]) (l := [((Value.slice ao24 (coZ n0 m0 z0 n1 m1 z1).length cp25), (coZ n0 m0 z0 n1 m1 z1).map eF), ((Value.slice ao18 (z1).length cp19), (z1).map eF), ((Value.slice ao12 (z0).length cp13), (z0).map eF), ((Value.slice ao6 (coZ n0 m0 z0 n1 m1 z1).length cp7), (coZ n0 m0 z0 n1 m1 z1).map eF)]) (by go_split_ands; first | assumption | exact St.drew (by assumption)) (List.mem_of_getElem? (i := 2) rfl))); (exact o30.rg); rintro e W34 ⟨rfl, b35⟩))
        have s11 : St w W34 [((⟨W20.heap.size, 0, none⟩ : Addr), Value.int .i64 (cgN (coOk n0 m0 z0 n1 m1 z1) n0)), ((⟨W20.heap.size, 1, none⟩ : Addr), Value.int .i64 (cgN (coOk n0 m0 z0 n1 m1 z1) m1)), ((⟨W20.heap.size, 2, none⟩ : Addr), (Value.slice ao24 (coZ n0 m0 z0 n1 m1 z1).length cp25)), ((⟨W14.heap.size, 0, none⟩ : Addr), Value.int .i64 (n1)), ((⟨W14.heap.size, 1, none⟩ : Addr), Value.int .i64 (m1)), ((⟨W14.heap.size, 2, none⟩ : Addr), (Value.slice ao18 (z1).length cp19)), ((⟨W8.heap.size, 0, none⟩ : Addr), Value.int .i64 (n0)), ((⟨W8.heap.size, 1, none⟩ : Addr), Value.int .i64 (m0)), ((⟨W8.heap.size, 2, none⟩ : Addr), (Value.slice ao12 (z0).length cp13)), ((⟨gwm5, 0, none⟩ : Addr), Value.int .i64 (cgN (coOk n0 m0 z0 n1 m1 z1) n0)), ((⟨gwm5, 1, none⟩ : Addr), Value.int .i64 (cgN (coOk n0 m0 z0 n1 m1 z1) m1)), ((⟨gwm5, 2, none⟩ : Addr), (Value.slice ao6 (coZ n0 m0 z0 n1 m1 z1).length cp7)), ((⟨w.heap.size, 0, none⟩ : Addr), Value.int .i64 n0), ((⟨w.heap.size, 1, none⟩ : Addr), Value.int .i64 m0), ((⟨w.heap.size, 2, none⟩ : Addr), Value.slice ao0 z0.length cap0), ((⟨w.heap.size + 1, 0, none⟩ : Addr), Value.int .i64 n1), ((⟨w.heap.size + 1, 1, none⟩ : Addr), Value.int .i64 m1), ((⟨w.heap.size + 1, 2, none⟩ : Addr), Value.slice ao1 z1.length cap1)] [((Value.slice ao24 (coZ n0 m0 z0 n1 m1 z1).length cp25), (coZ n0 m0 z0 n1 m1 z1).map eF), ((Value.slice ao18 (z1).length cp19), (z1).map eF), ((Value.slice ao12 (z0).length cp13), (z0).map eF), ((Value.slice ao6 (coZ n0 m0 z0 n1 m1 z1).length cp7), (coZ n0 m0 z0 n1 m1 z1).map eF)] := by go_split_ands; assumption
        clear kc0 kc1 kc2 kc3 kc4 kc5 kc6 kc7 kc8 kc9 kc10 kc11 kc12 kc13 kc14 kc15 kc16 kc17
        obtain ⟨kc0, kc1, kc2, kc3, kc4, kc5, kc6, kc7, kc8, kc9, kc10, kc11, kc12, kc13, kc14, kc15, kc16, kc17, -⟩ := s11.cs
        go_wp2_with fail
        go_region_held3 (fun W' => W'.cell? (⟨W20.heap.size, 0, none⟩ : Addr) = some (Value.int .i64 (cgN (coOk n0 m0 z0 n1 m1 z1) n0)) ∧ W'.cell? (⟨W20.heap.size, 1, none⟩ : Addr) = some (Value.int .i64 (cgN (coOk n0 m0 z0 n1 m1 z1) m1)) ∧ W'.cell? (⟨W20.heap.size, 2, none⟩ : Addr) = some ((Value.slice ao24 (coZ n0 m0 z0 n1 m1 z1).length cp25)) ∧ W'.cell? (⟨W14.heap.size, 0, none⟩ : Addr) = some (Value.int .i64 (n1)) ∧ W'.cell? (⟨W14.heap.size, 1, none⟩ : Addr) = some (Value.int .i64 (m1)) ∧ W'.cell? (⟨W14.heap.size, 2, none⟩ : Addr) = some ((Value.slice ao18 (z1).length cp19)) ∧ W'.cell? (⟨W8.heap.size, 0, none⟩ : Addr) = some (Value.int .i64 (n0)) ∧ W'.cell? (⟨W8.heap.size, 1, none⟩ : Addr) = some (Value.int .i64 (m0)) ∧ W'.cell? (⟨W8.heap.size, 2, none⟩ : Addr) = some ((Value.slice ao12 (z0).length cp13)) ∧ W'.cell? (⟨gwm5, 0, none⟩ : Addr) = some (Value.int .i64 (cgN (coOk n0 m0 z0 n1 m1 z1) n0)) ∧ W'.cell? (⟨gwm5, 1, none⟩ : Addr) = some (Value.int .i64 (cgN (coOk n0 m0 z0 n1 m1 z1) m1)) ∧ W'.cell? (⟨gwm5, 2, none⟩ : Addr) = some ((Value.slice ao6 (coZ n0 m0 z0 n1 m1 z1).length cp7)) ∧ W'.cell? (⟨w.heap.size, 0, none⟩ : Addr) = some (Value.int .i64 n0) ∧ W'.cell? (⟨w.heap.size, 1, none⟩ : Addr) = some (Value.int .i64 m0) ∧ W'.cell? (⟨w.heap.size, 2, none⟩ : Addr) = some (Value.slice ao0 z0.length cap0) ∧ W'.cell? (⟨w.heap.size + 1, 0, none⟩ : Addr) = some (Value.int .i64 n1) ∧ W'.cell? (⟨w.heap.size + 1, 1, none⟩ : Addr) = some (Value.int .i64 m1) ∧ W'.cell? (⟨w.heap.size + 1, 2, none⟩ : Addr) = some (Value.slice ao1 z1.length cap1) ∧ St w W' [((⟨W20.heap.size, 0, none⟩ : Addr), Value.int .i64 (cgN (coOk n0 m0 z0 n1 m1 z1) n0)), ((⟨W20.heap.size, 1, none⟩ : Addr), Value.int .i64 (cgN (coOk n0 m0 z0 n1 m1 z1) m1)), ((⟨W20.heap.size, 2, none⟩ : Addr), (Value.slice ao24 (coZ n0 m0 z0 n1 m1 z1).length cp25)), ((⟨W14.heap.size, 0, none⟩ : Addr), Value.int .i64 (n1)), ((⟨W14.heap.size, 1, none⟩ : Addr), Value.int .i64 (m1)), ((⟨W14.heap.size, 2, none⟩ : Addr), (Value.slice ao18 (z1).length cp19)), ((⟨W8.heap.size, 0, none⟩ : Addr), Value.int .i64 (n0)), ((⟨W8.heap.size, 1, none⟩ : Addr), Value.int .i64 (m0)), ((⟨W8.heap.size, 2, none⟩ : Addr), (Value.slice ao12 (z0).length cp13)), ((⟨gwm5, 0, none⟩ : Addr), Value.int .i64 (cgN (coOk n0 m0 z0 n1 m1 z1) n0)), ((⟨gwm5, 1, none⟩ : Addr), Value.int .i64 (cgN (coOk n0 m0 z0 n1 m1 z1) m1)), ((⟨gwm5, 2, none⟩ : Addr), (Value.slice ao6 (coZ n0 m0 z0 n1 m1 z1).length cp7)), ((⟨w.heap.size, 0, none⟩ : Addr), Value.int .i64 n0), ((⟨w.heap.size, 1, none⟩ : Addr), Value.int .i64 m0), ((⟨w.heap.size, 2, none⟩ : Addr), Value.slice ao0 z0.length cap0), ((⟨w.heap.size + 1, 0, none⟩ : Addr), Value.int .i64 n1), ((⟨w.heap.size + 1, 1, none⟩ : Addr), Value.int .i64 m1), ((⟨w.heap.size + 1, 2, none⟩ : Addr), Value.slice ao1 z1.length cap1)] [((Value.slice ao24 (coZ n0 m0 z0 n1 m1 z1).length cp25), (coZ n0 m0 z0 n1 m1 z1).map eF), ((Value.slice ao18 (z1).length cp19), (z1).map eF), ((Value.slice ao12 (z0).length cp13), (z0).map eF), ((Value.slice ao6 (coZ n0 m0 z0 n1 m1 z1).length cp7), (coZ n0 m0 z0 n1 m1 z1).map eF)])
          ((go_split_ands; refine ⟨?_, ?_, ?_, ?_, ?_, ?_, ?_, ?_, ?_, ?_, ?_, ?_, ?_, ?_, ?_, ?_, ?_, ?_, ?_⟩ <;> first | assumption | exact cnext (by assumption) (by assumption) | exact St.below (by assumption) (by assumption) | exact St.below (St.drew (by assumption)) (by assumption) | exact St.drew (by assumption) | exact St.drewN (by assumption) _))
          (first
            | (go_at_call 9; with_reducible refine Calls.mono (toChannel_any (n1) (m1) _ z1 _ ?_ (by omega)) ?_; (exact Rg.below (St.bt (ks := [((⟨W20.heap.size, 0, none⟩ : Addr), Value.int .i64 (cgN (coOk n0 m0 z0 n1 m1 z1) n0)), ((⟨W20.heap.size, 1, none⟩ : Addr), Value.int .i64 (cgN (coOk n0 m0 z0 n1 m1 z1) m1)), ((⟨W20.heap.size, 2, none⟩ : Addr), (Value.slice ao24 (coZ n0 m0 z0 n1 m1 z1).length cp25)), ((⟨W14.heap.size, 0, none⟩ : Addr), Value.int .i64 (n1)), ((⟨W14.heap.size, 1, none⟩ : Addr), Value.int .i64 (m1)), ((⟨W14.heap.size, 2, none⟩ : Addr), (Value.slice ao18 (z1).length cp19)), ((⟨W8.heap.size, 0, none⟩ : Addr), Value.int .i64 (n0)), ((⟨W8.heap.size, 1, none⟩ : Addr), Value.int .i64 (m0)), ((⟨W8.heap.size, 2, none⟩ : Addr), (Value.slice ao12 (z0).length cp13)), ((⟨gwm5, 0, none⟩ : Addr), Value.int .i64 (cgN (coOk n0 m0 z0 n1 m1 z1) n0)), ((⟨gwm5, 1, none⟩ : Addr), Value.int .i64 (cgN (coOk n0 m0 z0 n1 m1 z1) m1)), ((⟨gwm5, 2, none⟩ : Addr), (Value.slice ao6 (coZ n0 m0 z0 n1 m1 z1).length cp7)), ((⟨w.heap.size, 0, none⟩ : Addr), Value.int .i64 n0), ((⟨w.heap.size, 1, none⟩ : Addr), Value.int .i64 m0), ((⟨w.heap.size, 2, none⟩ : Addr), Value.slice ao0 z0.length cap0), ((⟨w.heap.size + 1, 0, none⟩ : Addr), Value.int .i64 n1), ((⟨w.heap.size + 1, 1, none⟩ : Addr), Value.int .i64 m1), ((⟨w.heap.size + 1, 2, none⟩ : Addr), Value.slice ao1 z1.length cap1)]) (l := [((Value.slice ao24 (coZ n0 m0 z0 n1 m1 z1).length cp25), (coZ n0 m0 z0 n1 m1 z1).map eF), ((Value.slice ao18 (z1).length cp19), (z1).map eF), ((Value.slice ao12 (z0).length cp13), (z0).map eF), ((Value.slice ao6 (coZ n0 m0 z0 n1 m1 z1).length cp7), (coZ n0 m0 z0 n1 m1 z1).map eF)]) (by go_split_ands; first | assumption | exact St.drew (by assumption))) h1); rintro e W36 ⟨t37, rfl, o38, b39⟩; have qo38 := Og.shapeF o38; obtain ⟨ao40, cp41, rfl⟩ := qo38)
            | (go_at_call 13; with_reducible refine Calls.mono (eqChannel_same (n1) (m1) _ _ z1 _ ?_ ?_) ?_; (exact Og.rg (St.of (ks := [((⟨W20.heap.size, 0, none⟩ : Addr), Value.int .i64 (cgN (coOk n0 m0 z0 n1 m1 z1) n0)), ((⟨W20.heap.size, 1, none⟩ : Addr), Value.int .i64 (cgN (coOk n0 m0 z0 n1 m1 z1) m1)), ((⟨W20.heap.size, 2, none⟩ : Addr), (Value.slice ao24 (coZ n0 m0 z0 n1 m1 z1).length cp25)), ((⟨W14.heap.size, 0, none⟩ : Addr), Value.int .i64 (n1)), ((⟨W14.heap.size, 1, none⟩ : Addr), Value.int .i64 (m1)), ((⟨W14.heap.size, 2, none⟩ : Addr), (Value.slice ao18 (z1).length cp19)), ((⟨W8.heap.size, 0, none⟩ : Addr), Value.int .i64 (n0)), ((⟨W8.heap.size, 1, none⟩ : Addr), Value.int .i64 (m0)), ((⟨W8.heap.size, 2, none⟩ : Addr), (Value.slice ao12 (z0).length cp13)), ((⟨gwm5, 0, none⟩ : Addr), Value.int .i64 (cgN (coOk n0 m0 z0 n1 m1 z1) n0)), ((⟨gwm5, 1, none⟩ : Addr), Value.int .i64 (cgN (coOk n0 m0 z0 n1 m1 z1) m1)), ((⟨gwm5, 2, none⟩ : Addr), (Value.slice ao6 (coZ n0 m0 z0 n1 m1 z1).length cp7)), ((⟨w.heap.size, 0, none⟩ : Addr), Value.int .i64 n0), ((⟨w.heap.size, 1, none⟩ : Addr), Value.int .i64 m0), ((⟨w.heap.size, 2, none⟩ : Addr), Value.slice ao0 z0.length cap0), ((⟨w.heap.size + 1, 0, none⟩ : Addr), Value.int .i64 n1), ((⟨w.heap.size + 1, 1, none⟩ : Addr), Value.int .i64 m1), ((⟨w.heap.size + 1, 2, none⟩ : Addr), Value.slice ao1 z1.length cap1)]) (l := [((Value.slice ao24 (coZ n0 m0 z0 n1 m1 z1).length cp25), (coZ n0 m0 z0 n1 m1 z1).map eF), ((Value.slice ao18 (z1).length cp19), (z1).map eF), ((Value.slice ao12 (z0).length cp13), (z0).map eF), ((Value.slice ao6 (coZ n0 m0 z0 n1 m1 z1).length cp7), (coZ n0 m0 z0 n1 m1 z1).map eF)]) (by go_split_ands; first | assumption | exact St.drew (by assumption)) (List.mem_of_getElem? (i := 1) rfl))); (exact o38.rg); rintro e W42 ⟨rfl, b43⟩))
        have s12 : St w W42 [((⟨W20.heap.size, 0, none⟩ : Addr), Value.int .i64 (cgN (coOk n0 m0 z0 n1 m1 z1) n0)), ((⟨W20.heap.size, 1, none⟩ : Addr), Value.int .i64 (cgN (coOk n0 m0 z0 n1 m1 z1) m1)), ((⟨W20.heap.size, 2, none⟩ : Addr), (Value.slice ao24 (coZ n0 m0 z0 n1 m1 z1).length cp25)), ((⟨W14.heap.size, 0, none⟩ : Addr), Value.int .i64 (n1)), ((⟨W14.heap.size, 1, none⟩ : Addr), Value.int .i64 (m1)), ((⟨W14.heap.size, 2, none⟩ : Addr), (Value.slice ao18 (z1).length cp19)), ((⟨W8.heap.size, 0, none⟩ : Addr), Value.int .i64 (n0)), ((⟨W8.heap.size, 1, none⟩ : Addr), Value.int .i64 (m0)), ((⟨W8.heap.size, 2, none⟩ : Addr), (Value.slice ao12 (z0).length cp13)), ((⟨gwm5, 0, none⟩ : Addr), Value.int .i64 (cgN (coOk n0 m0 z0 n1 m1 z1) n0)), ((⟨gwm5, 1, none⟩ : Addr), Value.int .i64 (cgN (coOk n0 m0 z0 n1 m1 z1) m1)), ((⟨gwm5, 2, none⟩ : Addr), (Value.slice ao6 (coZ n0 m0 z0 n1 m1 z1).length cp7)), ((⟨w.heap.size, 0, none⟩ : Addr), Value.int .i64 n0), ((⟨w.heap.size, 1, none⟩ : Addr), Value.int .i64 m0), ((⟨w.heap.size, 2, none⟩ : Addr), Value.slice ao0 z0.length cap0), ((⟨w.heap.size + 1, 0, none⟩ : Addr), Value.int .i64 n1), ((⟨w.heap.size + 1, 1, none⟩ : Addr), Value.int .i64 m1), ((⟨w.heap.size + 1, 2, none⟩ : Addr), Value.slice ao1 z1.length cap1)] [((Value.slice ao24 (coZ n0 m0 z0 n1 m1 z1).length cp25), (coZ n0 m0 z0 n1 m1 z1).map eF), ((Value.slice ao18 (z1).length cp19), (z1).map eF), ((Value.slice ao12 (z0).length cp13), (z0).map eF), ((Value.slice ao6 (coZ n0 m0 z0 n1 m1 z1).length cp7), (coZ n0 m0 z0 n1 m1 z1).map eF)] := by go_split_ands; assumption
        clear kc0 kc1 kc2 kc3 kc4 kc5 kc6 kc7 kc8 kc9 kc10 kc11 kc12 kc13 kc14 kc15 kc16 kc17
        obtain ⟨kc0, kc1, kc2, kc3, kc4, kc5, kc6, kc7, kc8, kc9, kc10, kc11, kc12, kc13, kc14, kc15, kc16, kc17, -⟩ := s12.cs
        go_wp2_with fail
        refine (markChannel_any (n0) (m0) _ (z0) _ (1) _ (s12.of (List.mem_of_getElem? (i := 2) rfl)) (by omega) (by omega) (by omega)).mono ?_; rintro e W44 ⟨rfl, o45, r46⟩
        clear kc0 kc1 kc2 kc3 kc4 kc5 kc6 kc7 kc8 kc9 kc10 kc11 kc12 kc13 kc14 kc15 kc16 kc17
        have s13 : St w W44 [((⟨W20.heap.size, 0, none⟩ : Addr), Value.int .i64 (cgN (coOk n0 m0 z0 n1 m1 z1) n0)), ((⟨W20.heap.size, 1, none⟩ : Addr), Value.int .i64 (cgN (coOk n0 m0 z0 n1 m1 z1) m1)), ((⟨W20.heap.size, 2, none⟩ : Addr), (Value.slice ao24 (coZ n0 m0 z0 n1 m1 z1).length cp25)), ((⟨W14.heap.size, 0, none⟩ : Addr), Value.int .i64 (n1)), ((⟨W14.heap.size, 1, none⟩ : Addr), Value.int .i64 (m1)), ((⟨W14.heap.size, 2, none⟩ : Addr), (Value.slice ao18 (z1).length cp19)), ((⟨W8.heap.size, 0, none⟩ : Addr), Value.int .i64 (n0)), ((⟨W8.heap.size, 1, none⟩ : Addr), Value.int .i64 (m0)), ((⟨W8.heap.size, 2, none⟩ : Addr), (Value.slice ao12 (z0).length cp13)), ((⟨gwm5, 0, none⟩ : Addr), Value.int .i64 (cgN (coOk n0 m0 z0 n1 m1 z1) n0)), ((⟨gwm5, 1, none⟩ : Addr), Value.int .i64 (cgN (coOk n0 m0 z0 n1 m1 z1) m1)), ((⟨gwm5, 2, none⟩ : Addr), (Value.slice ao6 (coZ n0 m0 z0 n1 m1 z1).length cp7)), ((⟨w.heap.size, 0, none⟩ : Addr), Value.int .i64 n0), ((⟨w.heap.size, 1, none⟩ : Addr), Value.int .i64 m0), ((⟨w.heap.size, 2, none⟩ : Addr), Value.slice ao0 z0.length cap0), ((⟨w.heap.size + 1, 0, none⟩ : Addr), Value.int .i64 n1), ((⟨w.heap.size + 1, 1, none⟩ : Addr), Value.int .i64 m1), ((⟨w.heap.size + 1, 2, none⟩ : Addr), Value.slice ao1 z1.length cap1)] [((Value.slice ao24 (coZ n0 m0 z0 n1 m1 z1).length cp25), (coZ n0 m0 z0 n1 m1 z1).map eF), ((Value.slice ao18 (z1).length cp19), (z1).map eF), ((Value.slice ao12 (z0).length cp13), ((marksF (1) (z0).length)).map eF), ((Value.slice ao6 (coZ n0 m0 z0 n1 m1 z1).length cp7), (coZ n0 m0 z0 n1 m1 z1).map eF)] := s12.mark 2 rfl r46 o45
        obtain ⟨kc0, kc1, kc2, kc3, kc4, kc5, kc6, kc7, kc8, kc9, kc10, kc11, kc12, kc13, kc14, kc15, kc16, kc17, -⟩ := s13.cs
        go_wp2_with fail
        refine (markChannel_any (n1) (m1) _ (z1) _ (1 + ((z0).length : Int)) _ (s13.of (List.mem_of_getElem? (i := 1) rfl)) (by omega) (by omega) (by omega)).mono ?_; rintro e W47 ⟨rfl, o48, r49⟩
        clear kc0 kc1 kc2 kc3 kc4 kc5 kc6 kc7 kc8 kc9 kc10 kc11 kc12 kc13 kc14 kc15 kc16 kc17
        have s14 : St w W47 [((⟨W20.heap.size, 0, none⟩ : Addr), Value.int .i64 (cgN (coOk n0 m0 z0 n1 m1 z1) n0)), ((⟨W20.heap.size, 1, none⟩ : Addr), Value.int .i64 (cgN (coOk n0 m0 z0 n1 m1 z1) m1)), ((⟨W20.heap.size, 2, none⟩ : Addr), (Value.slice ao24 (coZ n0 m0 z0 n1 m1 z1).length cp25)), ((⟨W14.heap.size, 0, none⟩ : Addr), Value.int .i64 (n1)), ((⟨W14.heap.size, 1, none⟩ : Addr), Value.int .i64 (m1)), ((⟨W14.heap.size, 2, none⟩ : Addr), (Value.slice ao18 (z1).length cp19)), ((⟨W8.heap.size, 0, none⟩ : Addr), Value.int .i64 (n0)), ((⟨W8.heap.size, 1, none⟩ : Addr), Value.int .i64 (m0)), ((⟨W8.heap.size, 2, none⟩ : Addr), (Value.slice ao12 (z0).length cp13)), ((⟨gwm5, 0, none⟩ : Addr), Value.int .i64 (cgN (coOk n0 m0 z0 n1 m1 z1) n0)), ((⟨gwm5, 1, none⟩ : Addr), Value.int .i64 (cgN (coOk n0 m0 z0 n1 m1 z1) m1)), ((⟨gwm5, 2, none⟩ : Addr), (Value.slice ao6 (coZ n0 m0 z0 n1 m1 z1).length cp7)), ((⟨w.heap.size, 0, none⟩ : Addr), Value.int .i64 n0), ((⟨w.heap.size, 1, none⟩ : Addr), Value.int .i64 m0), ((⟨w.heap.size, 2, none⟩ : Addr), Value.slice ao0 z0.length cap0), ((⟨w.heap.size + 1, 0, none⟩ : Addr), Value.int .i64 n1), ((⟨w.heap.size + 1, 1, none⟩ : Addr), Value.int .i64 m1), ((⟨w.heap.size + 1, 2, none⟩ : Addr), Value.slice ao1 z1.length cap1)] [((Value.slice ao24 (coZ n0 m0 z0 n1 m1 z1).length cp25), (coZ n0 m0 z0 n1 m1 z1).map eF), ((Value.slice ao18 (z1).length cp19), ((marksF (1 + ((z0).length : Int)) (z1).length)).map eF), ((Value.slice ao12 (z0).length cp13), ((marksF (1) (z0).length)).map eF), ((Value.slice ao6 (coZ n0 m0 z0 n1 m1 z1).length cp7), (coZ n0 m0 z0 n1 m1 z1).map eF)] := s13.mark 1 rfl r49 o48
        obtain ⟨kc0, kc1, kc2, kc3, kc4, kc5, kc6, kc7, kc8, kc9, kc10, kc11, kc12, kc13, kc14, kc15, kc16, kc17, -⟩ := s14.cs
        go_wp2_with fail
        refine (eqChannel_same (cgN (coOk n0 m0 z0 n1 m1 z1) n0) (cgN (coOk n0 m0 z0 n1 m1 z1) m1) _ _ (coZ n0 m0 z0 n1 m1 z1) _ (s14.of (List.mem_of_getElem? (i := 0) rfl)).rg (s14.of (List.mem_of_getElem? (i := 3) rfl)).rg).mono ?_; rintro e W51 ⟨rfl, b50⟩
        clear kc0 kc1 kc2 kc3 kc4 kc5 kc6 kc7 kc8 kc9 kc10 kc11 kc12 kc13 kc14 kc15 kc16 kc17
        have s15 := s14.below b50
        obtain ⟨kc0, kc1, kc2, kc3, kc4, kc5, kc6, kc7, kc8, kc9, kc10, kc11, kc12, kc13, kc14, kc15, kc16, kc17, -⟩ := s15.cs
        go_wp2_with fail
        refine (markChannel_any (cgN (coOk n0 m0 z0 n1 m1 z1) n0) (cgN (coOk n0 m0 z0 n1 m1 z1) m1) _ (coZ n0 m0 z0 n1 m1 z1) _ (1) _ (s15.of (List.mem_of_getElem? (i := 0) rfl)) (coZ_len n0 m0 z0 n1 m1 z1) (by omega) (by omega)).mono ?_; rintro e W52 ⟨rfl, o53, r54⟩
        clear kc0 kc1 kc2 kc3 kc4 kc5 kc6 kc7 kc8 kc9 kc10 kc11 kc12 kc13 kc14 kc15 kc16 kc17
        have s16 : St w W52 [((⟨W20.heap.size, 0, none⟩ : Addr), Value.int .i64 (cgN (coOk n0 m0 z0 n1 m1 z1) n0)), ((⟨W20.heap.size, 1, none⟩ : Addr), Value.int .i64 (cgN (coOk n0 m0 z0 n1 m1 z1) m1)), ((⟨W20.heap.size, 2, none⟩ : Addr), (Value.slice ao24 (coZ n0 m0 z0 n1 m1 z1).length cp25)), ((⟨W14.heap.size, 0, none⟩ : Addr), Value.int .i64 (n1)), ((⟨W14.heap.size, 1, none⟩ : Addr), Value.int .i64 (m1)), ((⟨W14.heap.size, 2, none⟩ : Addr), (Value.slice ao18 (z1).length cp19)), ((⟨W8.heap.size, 0, none⟩ : Addr), Value.int .i64 (n0)), ((⟨W8.heap.size, 1, none⟩ : Addr), Value.int .i64 (m0)), ((⟨W8.heap.size, 2, none⟩ : Addr), (Value.slice ao12 (z0).length cp13)), ((⟨gwm5, 0, none⟩ : Addr), Value.int .i64 (cgN (coOk n0 m0 z0 n1 m1 z1) n0)), ((⟨gwm5, 1, none⟩ : Addr), Value.int .i64 (cgN (coOk n0 m0 z0 n1 m1 z1) m1)), ((⟨gwm5, 2, none⟩ : Addr), (Value.slice ao6 (coZ n0 m0 z0 n1 m1 z1).length cp7)), ((⟨w.heap.size, 0, none⟩ : Addr), Value.int .i64 n0), ((⟨w.heap.size, 1, none⟩ : Addr), Value.int .i64 m0), ((⟨w.heap.size, 2, none⟩ : Addr), Value.slice ao0 z0.length cap0), ((⟨w.heap.size + 1, 0, none⟩ : Addr), Value.int .i64 n1), ((⟨w.heap.size + 1, 1, none⟩ : Addr), Value.int .i64 m1), ((⟨w.heap.size + 1, 2, none⟩ : Addr), Value.slice ao1 z1.length cap1)] [((Value.slice ao24 (coZ n0 m0 z0 n1 m1 z1).length cp25), ((marksF (1) (coZ n0 m0 z0 n1 m1 z1).length)).map eF), ((Value.slice ao18 (z1).length cp19), ((marksF (1 + ((z0).length : Int)) (z1).length)).map eF), ((Value.slice ao12 (z0).length cp13), ((marksF (1) (z0).length)).map eF), ((Value.slice ao6 (coZ n0 m0 z0 n1 m1 z1).length cp7), (coZ n0 m0 z0 n1 m1 z1).map eF)] := s15.mark 0 rfl r54 o53
        obtain ⟨kc0, kc1, kc2, kc3, kc4, kc5, kc6, kc7, kc8, kc9, kc10, kc11, kc12, kc13, kc14, kc15, kc16, kc17, -⟩ := s16.cs
        go_wp2_with fail
        refine (heldChannel_same (cgN (coOk n0 m0 z0 n1 m1 z1) n0) (cgN (coOk n0 m0 z0 n1 m1 z1) m1) _ (coZ n0 m0 z0 n1 m1 z1).length (1) _ (s16.of (List.mem_of_getElem? (i := 0) rfl)).rg (coZ_len n0 m0 z0 n1 m1 z1) (by omega) (by omega)).mono ?_; rintro e W55 ⟨rfl, b56⟩
        clear kc0 kc1 kc2 kc3 kc4 kc5 kc6 kc7 kc8 kc9 kc10 kc11 kc12 kc13 kc14 kc15 kc16 kc17
        have s17 := s16.below b56
        obtain ⟨kc0, kc1, kc2, kc3, kc4, kc5, kc6, kc7, kc8, kc9, kc10, kc11, kc12, kc13, kc14, kc15, kc16, kc17, -⟩ := s17.cs
        go_upto_region 31 with fail
        go_cut [15, 16] from 94 to 101 (fun vm57 bm57 wx => ∃ (gwm57 : Nat) (vwm57 : Value), vm57 = .pointer (some ⟨gwm57, 0, none⟩) ∧ bm57 = .bool (coOk n0 m0 z0 n1 m1 z1) ∧ (∃ ao cp, vwm57 = .slice ao (coZ n0 m0 z0 n1 m1 z1).length cp) ∧ St w wx [((⟨gwm57, 0, none⟩ : Addr), Value.int .i64 (cgN (coOk n0 m0 z0 n1 m1 z1) n0)), ((⟨gwm57, 1, none⟩ : Addr), Value.int .i64 (cgN (coOk n0 m0 z0 n1 m1 z1) m1)), ((⟨gwm57, 2, none⟩ : Addr), vwm57), ((⟨W20.heap.size, 0, none⟩ : Addr), Value.int .i64 (cgN (coOk n0 m0 z0 n1 m1 z1) n0)), ((⟨W20.heap.size, 1, none⟩ : Addr), Value.int .i64 (cgN (coOk n0 m0 z0 n1 m1 z1) m1)), ((⟨W20.heap.size, 2, none⟩ : Addr), (Value.slice ao24 (coZ n0 m0 z0 n1 m1 z1).length cp25)), ((⟨W14.heap.size, 0, none⟩ : Addr), Value.int .i64 (n1)), ((⟨W14.heap.size, 1, none⟩ : Addr), Value.int .i64 (m1)), ((⟨W14.heap.size, 2, none⟩ : Addr), (Value.slice ao18 (z1).length cp19)), ((⟨W8.heap.size, 0, none⟩ : Addr), Value.int .i64 (n0)), ((⟨W8.heap.size, 1, none⟩ : Addr), Value.int .i64 (m0)), ((⟨W8.heap.size, 2, none⟩ : Addr), (Value.slice ao12 (z0).length cp13)), ((⟨gwm5, 0, none⟩ : Addr), Value.int .i64 (cgN (coOk n0 m0 z0 n1 m1 z1) n0)), ((⟨gwm5, 1, none⟩ : Addr), Value.int .i64 (cgN (coOk n0 m0 z0 n1 m1 z1) m1)), ((⟨gwm5, 2, none⟩ : Addr), (Value.slice ao6 (coZ n0 m0 z0 n1 m1 z1).length cp7)), ((⟨w.heap.size, 0, none⟩ : Addr), Value.int .i64 n0), ((⟨w.heap.size, 1, none⟩ : Addr), Value.int .i64 m0), ((⟨w.heap.size, 2, none⟩ : Addr), Value.slice ao0 z0.length cap0), ((⟨w.heap.size + 1, 0, none⟩ : Addr), Value.int .i64 n1), ((⟨w.heap.size + 1, 1, none⟩ : Addr), Value.int .i64 m1), ((⟨w.heap.size + 1, 2, none⟩ : Addr), Value.slice ao1 z1.length cap1)] [(vwm57, (coZ n0 m0 z0 n1 m1 z1).map eF), ((Value.slice ao24 (coZ n0 m0 z0 n1 m1 z1).length cp25), ((marksF (1) (coZ n0 m0 z0 n1 m1 z1).length)).map eF), ((Value.slice ao18 (z1).length cp19), ((marksF (1 + ((z0).length : Int)) (z1).length)).map eF), ((Value.slice ao12 (z0).length cp13), ((marksF (1) (z0).length)).map eF), ((Value.slice ao6 (coZ n0 m0 z0 n1 m1 z1).length cp7), (coZ n0 m0 z0 n1 m1 z1).map eF)])
        case first =>
          have hdm57 : Below W55.heap.size W55 W55.drew := below_drewN _ 1
          refine wp_region_held_tail 10 (S := fun W' => W'.cell? (⟨W20.heap.size, 0, none⟩ : Addr) = some (Value.int .i64 (cgN (coOk n0 m0 z0 n1 m1 z1) n0)) ∧ W'.cell? (⟨W20.heap.size, 1, none⟩ : Addr) = some (Value.int .i64 (cgN (coOk n0 m0 z0 n1 m1 z1) m1)) ∧ W'.cell? (⟨W20.heap.size, 2, none⟩ : Addr) = some ((Value.slice ao24 (coZ n0 m0 z0 n1 m1 z1).length cp25)) ∧ W'.cell? (⟨W14.heap.size, 0, none⟩ : Addr) = some (Value.int .i64 (n1)) ∧ W'.cell? (⟨W14.heap.size, 1, none⟩ : Addr) = some (Value.int .i64 (m1)) ∧ W'.cell? (⟨W14.heap.size, 2, none⟩ : Addr) = some ((Value.slice ao18 (z1).length cp19)) ∧ W'.cell? (⟨W8.heap.size, 0, none⟩ : Addr) = some (Value.int .i64 (n0)) ∧ W'.cell? (⟨W8.heap.size, 1, none⟩ : Addr) = some (Value.int .i64 (m0)) ∧ W'.cell? (⟨W8.heap.size, 2, none⟩ : Addr) = some ((Value.slice ao12 (z0).length cp13)) ∧ W'.cell? (⟨gwm5, 0, none⟩ : Addr) = some (Value.int .i64 (cgN (coOk n0 m0 z0 n1 m1 z1) n0)) ∧ W'.cell? (⟨gwm5, 1, none⟩ : Addr) = some (Value.int .i64 (cgN (coOk n0 m0 z0 n1 m1 z1) m1)) ∧ W'.cell? (⟨gwm5, 2, none⟩ : Addr) = some ((Value.slice ao6 (coZ n0 m0 z0 n1 m1 z1).length cp7)) ∧ W'.cell? (⟨w.heap.size, 0, none⟩ : Addr) = some (Value.int .i64 n0) ∧ W'.cell? (⟨w.heap.size, 1, none⟩ : Addr) = some (Value.int .i64 m0) ∧ W'.cell? (⟨w.heap.size, 2, none⟩ : Addr) = some (Value.slice ao0 z0.length cap0) ∧ W'.cell? (⟨w.heap.size + 1, 0, none⟩ : Addr) = some (Value.int .i64 n1) ∧ W'.cell? (⟨w.heap.size + 1, 1, none⟩ : Addr) = some (Value.int .i64 m1) ∧ W'.cell? (⟨w.heap.size + 1, 2, none⟩ : Addr) = some (Value.slice ao1 z1.length cap1) ∧ Below W55.heap.size W55 W') (by kernel_rfl) (by decide +kernel) ?_ (fun hHeld => ?_)
          · exact ⟨cnext hdm57 kc0, cnext hdm57 kc1, cnext hdm57 kc2, cnext hdm57 kc3, cnext hdm57 kc4, cnext hdm57 kc5, cnext hdm57 kc6, cnext hdm57 kc7, cnext hdm57 kc8, cnext hdm57 kc9, cnext hdm57 kc10, cnext hdm57 kc11, cnext hdm57 kc12, cnext hdm57 kc13, cnext hdm57 kc14, cnext hdm57 kc15, cnext hdm57 kc16, cnext hdm57 kc17, hdm57⟩
          simp only [List.take_succ_cons, List.take_zero, List.drop_succ_cons, List.drop_zero, List.length_cons, List.length_nil, Nat.reduceAdd]
          refine wpAnyH_tk (i := 0) (v := ?_) (some 95) rfl rfl (by kernel_rfl) (by decide +kernel) (by decide +kernel) (fun _ _ _ h => h) (by kernel_rfl) ?_ hHeld ?_
          rotate_left
          · (intro w hSw; (try dsimp only at hSw); go_simp <;> with_reducible rfl)
          (try simp only [Act.put, List.setIfInBounds_toArray, List.set_cons_zero, List.set_cons_succ])
          refine wpAnyH_tk (i := 2) (v := ?_) (some 97) rfl rfl (by kernel_rfl) (by decide +kernel) (by decide +kernel) (fun _ _ _ h => h) (by kernel_rfl) ?_ hHeld ?_
          rotate_left
          · (intro w hSw; (try dsimp only at hSw); go_simp <;> with_reducible rfl)
          (try simp only [Act.put, List.setIfInBounds_toArray, List.set_cons_zero, List.set_cons_succ])
          refine wpAnyH_ready (rs := [1, 8]) (by kernel_rfl) (by simp) ?_
          refine (AllReadyH.cons rfl (fun K hK => ?_) (AllReadyH.cons rfl (fun K hK => ?_) AllReadyH.nil))
          · go_simp
            with_reducible refine Calls.mono (toChannel_any (n0) (m0) _ z0 _ (h0.below (bnext s17.bt hHeld.2.2.2.2.2.2.2.2.2.2.2.2.2.2.2.2.2.2)) (by omega)) ?_
            rintro e wT0m57 ⟨t0m57, rfl, o0m57, hbwT0m57⟩
            have hqwT0m57 := bnext hHeld.2.2.2.2.2.2.2.2.2.2.2.2.2.2.2.2.2.2 hbwT0m57
            obtain ⟨a0m57, c0m57, rfl⟩ := o0m57.rg.shape
            try go_wp2_with fail
            refine hK.out _ _ ?_ (fun hHeld => ?_)
            · exact ⟨cnext hbwT0m57 hHeld.1, cnext hbwT0m57 hHeld.2.1, cnext hbwT0m57 hHeld.2.2.1, cnext hbwT0m57 hHeld.2.2.2.1, cnext hbwT0m57 hHeld.2.2.2.2.1, cnext hbwT0m57 hHeld.2.2.2.2.2.1, cnext hbwT0m57 hHeld.2.2.2.2.2.2.1, cnext hbwT0m57 hHeld.2.2.2.2.2.2.2.1, cnext hbwT0m57 hHeld.2.2.2.2.2.2.2.2.1, cnext hbwT0m57 hHeld.2.2.2.2.2.2.2.2.2.1, cnext hbwT0m57 hHeld.2.2.2.2.2.2.2.2.2.2.1, cnext hbwT0m57 hHeld.2.2.2.2.2.2.2.2.2.2.2.1, cnext hbwT0m57 hHeld.2.2.2.2.2.2.2.2.2.2.2.2.1, cnext hbwT0m57 hHeld.2.2.2.2.2.2.2.2.2.2.2.2.2.1, cnext hbwT0m57 hHeld.2.2.2.2.2.2.2.2.2.2.2.2.2.2.1, cnext hbwT0m57 hHeld.2.2.2.2.2.2.2.2.2.2.2.2.2.2.2.1, cnext hbwT0m57 hHeld.2.2.2.2.2.2.2.2.2.2.2.2.2.2.2.2.1, cnext hbwT0m57 hHeld.2.2.2.2.2.2.2.2.2.2.2.2.2.2.2.2.2.1, bnext hHeld.2.2.2.2.2.2.2.2.2.2.2.2.2.2.2.2.2.2 hbwT0m57⟩
            clear hK K
            (try simp only [Act.put, List.setIfInBounds_toArray, List.set_cons_zero, List.set_cons_succ])
            refine wpAnyH_ready (rs := [3, 8]) (by kernel_rfl) (by simp) ?_
            refine (AllReadyH.cons rfl (fun K hK => ?_) (AllReadyH.cons rfl (fun K hK => ?_) AllReadyH.nil))
            · go_simp
              with_reducible refine Calls.mono (toChannel_any (n1) (m1) _ z1 _ (h1.below (bnext s17.bt hHeld.2.2.2.2.2.2.2.2.2.2.2.2.2.2.2.2.2.2)) (by omega)) ?_
              rintro e wT1m57 ⟨t1m57, rfl, o1m57, hbwT1m57⟩
              have hqwT1m57 := bnext hHeld.2.2.2.2.2.2.2.2.2.2.2.2.2.2.2.2.2.2 hbwT1m57
              obtain ⟨a1m57, c1m57, rfl⟩ := o1m57.rg.shape
              try go_wp2_with fail
              refine hK.out _ _ ?_ (fun hHeld => ?_)
              · exact ⟨cnext hbwT1m57 hHeld.1, cnext hbwT1m57 hHeld.2.1, cnext hbwT1m57 hHeld.2.2.1, cnext hbwT1m57 hHeld.2.2.2.1, cnext hbwT1m57 hHeld.2.2.2.2.1, cnext hbwT1m57 hHeld.2.2.2.2.2.1, cnext hbwT1m57 hHeld.2.2.2.2.2.2.1, cnext hbwT1m57 hHeld.2.2.2.2.2.2.2.1, cnext hbwT1m57 hHeld.2.2.2.2.2.2.2.2.1, cnext hbwT1m57 hHeld.2.2.2.2.2.2.2.2.2.1, cnext hbwT1m57 hHeld.2.2.2.2.2.2.2.2.2.2.1, cnext hbwT1m57 hHeld.2.2.2.2.2.2.2.2.2.2.2.1, cnext hbwT1m57 hHeld.2.2.2.2.2.2.2.2.2.2.2.2.1, cnext hbwT1m57 hHeld.2.2.2.2.2.2.2.2.2.2.2.2.2.1, cnext hbwT1m57 hHeld.2.2.2.2.2.2.2.2.2.2.2.2.2.2.1, cnext hbwT1m57 hHeld.2.2.2.2.2.2.2.2.2.2.2.2.2.2.2.1, cnext hbwT1m57 hHeld.2.2.2.2.2.2.2.2.2.2.2.2.2.2.2.2.1, cnext hbwT1m57 hHeld.2.2.2.2.2.2.2.2.2.2.2.2.2.2.2.2.2.1, bnext hHeld.2.2.2.2.2.2.2.2.2.2.2.2.2.2.2.2.2.2 hbwT1m57⟩
              clear hK K
              (try simp only [Act.put, List.setIfInBounds_toArray, List.set_cons_zero, List.set_cons_succ])
              refine wpAnyH_ready (rs := [4, 8]) (by kernel_rfl) (by simp) ?_
              refine (AllReadyH.cons rfl (fun K hK => ?_) (AllReadyH.cons rfl (fun K hK => ?_) AllReadyH.nil))
              · go_simp
                with_reducible refine Calls.mono (implCo_any (n0) (m0) _ z0 (n1) (m1) _ z1 _ (Og.rg (Og.below hbwT1m57 o0m57)) (Og.rg o1m57)) ?_
                rintro e wFm57 ⟨tm57, rfl, om57, hbwFm57⟩
                have hqwFm57 := bnext hHeld.2.2.2.2.2.2.2.2.2.2.2.2.2.2.2.2.2.2 hbwFm57
                obtain ⟨am57, cm57, rfl⟩ := om57.rg.shape
                try go_wp2_with fail
                refine hK.out _ _ ?_ (fun hHeld => ?_)
                · exact ⟨cnext hbwFm57 hHeld.1, cnext hbwFm57 hHeld.2.1, cnext hbwFm57 hHeld.2.2.1, cnext hbwFm57 hHeld.2.2.2.1, cnext hbwFm57 hHeld.2.2.2.2.1, cnext hbwFm57 hHeld.2.2.2.2.2.1, cnext hbwFm57 hHeld.2.2.2.2.2.2.1, cnext hbwFm57 hHeld.2.2.2.2.2.2.2.1, cnext hbwFm57 hHeld.2.2.2.2.2.2.2.2.1, cnext hbwFm57 hHeld.2.2.2.2.2.2.2.2.2.1, cnext hbwFm57 hHeld.2.2.2.2.2.2.2.2.2.2.1, cnext hbwFm57 hHeld.2.2.2.2.2.2.2.2.2.2.2.1, cnext hbwFm57 hHeld.2.2.2.2.2.2.2.2.2.2.2.2.1, cnext hbwFm57 hHeld.2.2.2.2.2.2.2.2.2.2.2.2.2.1, cnext hbwFm57 hHeld.2.2.2.2.2.2.2.2.2.2.2.2.2.2.1, cnext hbwFm57 hHeld.2.2.2.2.2.2.2.2.2.2.2.2.2.2.2.1, cnext hbwFm57 hHeld.2.2.2.2.2.2.2.2.2.2.2.2.2.2.2.2.1, cnext hbwFm57 hHeld.2.2.2.2.2.2.2.2.2.2.2.2.2.2.2.2.2.1, bnext hHeld.2.2.2.2.2.2.2.2.2.2.2.2.2.2.2.2.2.2 hbwFm57⟩
                clear hK K
                (try simp only [Act.put, List.setIfInBounds_toArray, List.set_cons_zero, List.set_cons_succ])
                refine wpAnyH_tk (i := 5) (v := ?_) (some 94) rfl rfl (by kernel_rfl) (by decide +kernel) (by decide +kernel) (fun _ _ _ h => h) (by kernel_rfl) ?_ hHeld ?_
                rotate_left
                · (intro w hSw; (try dsimp only at hSw); go_simp <;> with_reducible rfl)
                (try simp only [Act.put, List.setIfInBounds_toArray, List.set_cons_zero, List.set_cons_succ])
                refine wpAnyH_tk (i := 6) (v := ?_) (some 100) rfl rfl (by kernel_rfl) (by decide +kernel) (by decide +kernel) (fun _ _ _ h => h) (by kernel_rfl) ?_ hHeld ?_
                rotate_left
                · (intro w hSw; (try dsimp only at hSw); go_simp <;> with_reducible rfl)
                (try simp only [Act.put, List.setIfInBounds_toArray, List.set_cons_zero, List.set_cons_succ])
                refine wpAnyH_tk (i := 7) (v := ?_) (some 101) rfl rfl (by kernel_rfl) (by decide +kernel) (by decide +kernel) (fun _ _ _ h => h) (by kernel_rfl) ?_ hHeld ?_
                rotate_left
                · (intro w hSw; (try dsimp only at hSw); go_simp <;> with_reducible rfl)
                (try simp only [Act.put, List.setIfInBounds_toArray, List.set_cons_zero, List.set_cons_succ])
                refine wpAnyH_ready (rs := [8]) (by kernel_rfl) (by simp) ?_
                refine (AllReadyH.cons rfl (fun K hK => ?_) AllReadyH.nil)
                · go_simp
                  obtain ⟨wZm57, hwZ⟩ : ∃ W, W = World.alloc wFm57 (.cells #[.int .i64 0, .int .i64 0, .slice none 0 0] 28) := ⟨_, rfl⟩
                  rw [← hwZ]
                  have hbwZm57 : Below wFm57.heap.size wFm57 wZm57 := hwZ ▸ alloc_belowS wFm57 (.cells #[.int .i64 0, .int .i64 0, .slice none 0 0] 28)
                  have hzwZm57 : wZm57.heap[wFm57.heap.size]? = some (.cells #[.int .i64 0, .int .i64 0, .slice none 0 0] 28 (0, 0)) := by rw [hwZ]; exact heap_alloc_new _ _
                  have hqwZm57 := bnext hHeld.2.2.2.2.2.2.2.2.2.2.2.2.2.2.2.2.2.2 hbwZm57
                  clear hwZ
                  refine hK.out _ _ ?_ (fun hHeld => ?_)
                  · exact ⟨cnext hbwZm57 hHeld.1, cnext hbwZm57 hHeld.2.1, cnext hbwZm57 hHeld.2.2.1, cnext hbwZm57 hHeld.2.2.2.1, cnext hbwZm57 hHeld.2.2.2.2.1, cnext hbwZm57 hHeld.2.2.2.2.2.1, cnext hbwZm57 hHeld.2.2.2.2.2.2.1, cnext hbwZm57 hHeld.2.2.2.2.2.2.2.1, cnext hbwZm57 hHeld.2.2.2.2.2.2.2.2.1, cnext hbwZm57 hHeld.2.2.2.2.2.2.2.2.2.1, cnext hbwZm57 hHeld.2.2.2.2.2.2.2.2.2.2.1, cnext hbwZm57 hHeld.2.2.2.2.2.2.2.2.2.2.2.1, cnext hbwZm57 hHeld.2.2.2.2.2.2.2.2.2.2.2.2.1, cnext hbwZm57 hHeld.2.2.2.2.2.2.2.2.2.2.2.2.2.1, cnext hbwZm57 hHeld.2.2.2.2.2.2.2.2.2.2.2.2.2.2.1, cnext hbwZm57 hHeld.2.2.2.2.2.2.2.2.2.2.2.2.2.2.2.1, cnext hbwZm57 hHeld.2.2.2.2.2.2.2.2.2.2.2.2.2.2.2.2.1, cnext hbwZm57 hHeld.2.2.2.2.2.2.2.2.2.2.2.2.2.2.2.2.2.1, bnext hHeld.2.2.2.2.2.2.2.2.2.2.2.2.2.2.2.2.2.2 hbwZm57⟩
                  clear hK K
                  (try simp only [Act.put, List.setIfInBounds_toArray, List.set_cons_zero, List.set_cons_succ])
                  refine wpAnyH_ready (rs := [9]) (by kernel_rfl) (by simp) ?_
                  refine (AllReadyH.cons rfl (fun K hK => ?_) AllReadyH.nil)
                  · have hzF := hzwZm57
                    have hoF := om57
                    have hoF := Og.below hbwZm57 hoF
                    have hcF : Below W55.heap.size W55 wT1m57 := hqwT1m57
                    have hbF : Below W55.heap.size W55 wZm57 := hqwZm57
                    have hgF : W55.heap.size ≤ wFm57.heap.size := hqwFm57.size
                    have hvF := og_behind om57 (Nat.le_refl _)
                    have sF := Lib.hid (St.made s17 hbF hgF hzF (hoF.mono hcF.size) hvF (Value.int .i64 (cgN (coOk n0 m0 z0 n1 m1 z1) n0)) (Value.int .i64 (cgN (coOk n0 m0 z0 n1 m1 z1) m1)))
                    obtain ⟨-, -, -, g0, g1, g2, g3, g4, g5, g6, g7, g8, g9, g10, g11, g12, g13, g14, g15, g16, g17, -⟩ := sF.out.cs
                    have hb9 := ((hbF.setCell (p := ⟨wFm57.heap.size, 0, none⟩) hgF (Value.int .i64 (cgN (coOk n0 m0 z0 n1 m1 z1) n0))).setCell (p := ⟨wFm57.heap.size, 1, none⟩) hgF (Value.int .i64 (cgN (coOk n0 m0 z0 n1 m1 z1) m1))).setCell (p := ⟨wFm57.heap.size, 2, none⟩) hgF (.slice am57 (coZ n0 m0 z0 n1 m1 z1).length cm57)
                    obtain ⟨f0, f1, f2, e0, e1, e2⟩ := cells3 hzF
                    go_simp
                    refine hK.out _ _ ?_ (fun hHeld => ?_)
                    · exact ⟨g0, g1, g2, g3, g4, g5, g6, g7, g8, g9, g10, g11, g12, g13, g14, g15, g16, g17, hb9⟩
                    clear hK K
                    (try simp only [Act.put, List.setIfInBounds_toArray, List.set_cons_zero, List.set_cons_succ])
                    refine wpAnyH_done (by kernel_rfl) ?_ _
                    show wpList _ _ _ _ _ _
                    clear hHeld hzF hoF hvF
                    go_wp2
                    go_meet
                    case rel => exact ⟨wFm57.heap.size, _, rfl, rfl, ⟨_, _, rfl⟩, sF.out⟩
              · go_simp
                obtain ⟨wZm57, hwZ⟩ : ∃ W, W = World.alloc wT1m57 (.cells #[.int .i64 0, .int .i64 0, .slice none 0 0] 28) := ⟨_, rfl⟩
                rw [← hwZ]
                have hbwZm57 : Below wT1m57.heap.size wT1m57 wZm57 := hwZ ▸ alloc_belowS wT1m57 (.cells #[.int .i64 0, .int .i64 0, .slice none 0 0] 28)
                have hzwZm57 : wZm57.heap[wT1m57.heap.size]? = some (.cells #[.int .i64 0, .int .i64 0, .slice none 0 0] 28 (0, 0)) := by rw [hwZ]; exact heap_alloc_new _ _
                have hqwZm57 := bnext hHeld.2.2.2.2.2.2.2.2.2.2.2.2.2.2.2.2.2.2 hbwZm57
                clear hwZ
                refine hK.out _ _ ?_ (fun hHeld => ?_)
                · exact ⟨cnext hbwZm57 hHeld.1, cnext hbwZm57 hHeld.2.1, cnext hbwZm57 hHeld.2.2.1, cnext hbwZm57 hHeld.2.2.2.1, cnext hbwZm57 hHeld.2.2.2.2.1, cnext hbwZm57 hHeld.2.2.2.2.2.1, cnext hbwZm57 hHeld.2.2.2.2.2.2.1, cnext hbwZm57 hHeld.2.2.2.2.2.2.2.1, cnext hbwZm57 hHeld.2.2.2.2.2.2.2.2.1, cnext hbwZm57 hHeld.2.2.2.2.2.2.2.2.2.1, cnext hbwZm57 hHeld.2.2.2.2.2.2.2.2.2.2.1, cnext hbwZm57 hHeld.2.2.2.2.2.2.2.2.2.2.2.1, cnext hbwZm57 hHeld.2.2.2.2.2.2.2.2.2.2.2.2.1, cnext hbwZm57 hHeld.2.2.2.2.2.2.2.2.2.2.2.2.2.1, cnext hbwZm57 hHeld.2.2.2.2.2.2.2.2.2.2.2.2.2.2.1, cnext hbwZm57 hHeld.2.2.2.2.2.2.2.2.2.2.2.2.2.2.2.1, cnext hbwZm57 hHeld.2.2.2.2.2.2.2.2.2.2.2.2.2.2.2.2.1, cnext hbwZm57 hHeld.2.2.2.2.2.2.2.2.2.2.2.2.2.2.2.2.2.1, bnext hHeld.2.2.2.2.2.2.2.2.2.2.2.2.2.2.2.2.2.2 hbwZm57⟩
                clear hK K
                (try simp only [Act.put, List.setIfInBounds_toArray, List.set_cons_zero, List.set_cons_succ])
                refine wpAnyH_ready (rs := [4]) (by kernel_rfl) (by simp) ?_
                refine (AllReadyH.cons rfl (fun K hK => ?_) AllReadyH.nil)
                · go_simp
                  with_reducible refine Calls.mono (implCo_any (n0) (m0) _ z0 (n1) (m1) _ z1 _ (Og.rg (Og.below hbwZm57 (Og.below hbwT1m57 o0m57))) (Og.rg (Og.below hbwZm57 o1m57))) ?_
                  rintro e wFm57 ⟨tm57, rfl, om57, hbwFm57⟩
                  have hqwFm57 := bnext hHeld.2.2.2.2.2.2.2.2.2.2.2.2.2.2.2.2.2.2 hbwFm57
                  obtain ⟨am57, cm57, rfl⟩ := om57.rg.shape
                  try go_wp2_with fail
                  refine hK.out _ _ ?_ (fun hHeld => ?_)
                  · exact ⟨cnext hbwFm57 hHeld.1, cnext hbwFm57 hHeld.2.1, cnext hbwFm57 hHeld.2.2.1, cnext hbwFm57 hHeld.2.2.2.1, cnext hbwFm57 hHeld.2.2.2.2.1, cnext hbwFm57 hHeld.2.2.2.2.2.1, cnext hbwFm57 hHeld.2.2.2.2.2.2.1, cnext hbwFm57 hHeld.2.2.2.2.2.2.2.1, cnext hbwFm57 hHeld.2.2.2.2.2.2.2.2.1, cnext hbwFm57 hHeld.2.2.2.2.2.2.2.2.2.1, cnext hbwFm57 hHeld.2.2.2.2.2.2.2.2.2.2.1, cnext hbwFm57 hHeld.2.2.2.2.2.2.2.2.2.2.2.1, cnext hbwFm57 hHeld.2.2.2.2.2.2.2.2.2.2.2.2.1, cnext hbwFm57 hHeld.2.2.2.2.2.2.2.2.2.2.2.2.2.1, cnext hbwFm57 hHeld.2.2.2.2.2.2.2.2.2.2.2.2.2.2.1, cnext hbwFm57 hHeld.2.2.2.2.2.2.2.2.2.2.2.2.2.2.2.1, cnext hbwFm57 hHeld.2.2.2.2.2.2.2.2.2.2.2.2.2.2.2.2.1, cnext hbwFm57 hHeld.2.2.2.2.2.2.2.2.2.2.2.2.2.2.2.2.2.1, bnext hHeld.2.2.2.2.2.2.2.2.2.2.2.2.2.2.2.2.2.2 hbwFm57⟩
                  clear hK K
                  (try simp only [Act.put, List.setIfInBounds_toArray, List.set_cons_zero, List.set_cons_succ])
                  refine wpAnyH_tk (i := 5) (v := ?_) (some 94) rfl rfl (by kernel_rfl) (by decide +kernel) (by decide +kernel) (fun _ _ _ h => h) (by kernel_rfl) ?_ hHeld ?_
                  rotate_left
                  · (intro w hSw; (try dsimp only at hSw); go_simp <;> with_reducible rfl)
                  (try simp only [Act.put, List.setIfInBounds_toArray, List.set_cons_zero, List.set_cons_succ])
                  refine wpAnyH_tk (i := 6) (v := ?_) (some 100) rfl rfl (by kernel_rfl) (by decide +kernel) (by decide +kernel) (fun _ _ _ h => h) (by kernel_rfl) ?_ hHeld ?_
                  rotate_left
                  · (intro w hSw; (try dsimp only at hSw); go_simp <;> with_reducible rfl)
                  (try simp only [Act.put, List.setIfInBounds_toArray, List.set_cons_zero, List.set_cons_succ])
                  refine wpAnyH_tk (i := 7) (v := ?_) (some 101) rfl rfl (by kernel_rfl) (by decide +kernel) (by decide +kernel) (fun _ _ _ h => h) (by kernel_rfl) ?_ hHeld ?_
                  rotate_left
                  · (intro w hSw; (try dsimp only at hSw); go_simp <;> with_reducible rfl)
                  (try simp only [Act.put, List.setIfInBounds_toArray, List.set_cons_zero, List.set_cons_succ])
                  refine wpAnyH_ready (rs := [9]) (by kernel_rfl) (by simp) ?_
                  refine (AllReadyH.cons rfl (fun K hK => ?_) AllReadyH.nil)
                  · have hzF := hzwZm57
                    have hzF := blkS hbwFm57 hzF
                    have hoF := om57
                    have hcF : Below W55.heap.size W55 wZm57 := hqwZm57
                    have hbF : Below W55.heap.size W55 wFm57 := hqwFm57
                    have hgF : W55.heap.size ≤ wT1m57.heap.size := hqwT1m57.size
                    have hvF := og_before om57 (blkS_lt (hzwZm57))
                    have sF := Lib.hid (St.made s17 hbF hgF hzF (hoF.mono hcF.size) hvF (Value.int .i64 (cgN (coOk n0 m0 z0 n1 m1 z1) n0)) (Value.int .i64 (cgN (coOk n0 m0 z0 n1 m1 z1) m1)))
                    obtain ⟨-, -, -, g0, g1, g2, g3, g4, g5, g6, g7, g8, g9, g10, g11, g12, g13, g14, g15, g16, g17, -⟩ := sF.out.cs
                    have hb9 := ((hbF.setCell (p := ⟨wT1m57.heap.size, 0, none⟩) hgF (Value.int .i64 (cgN (coOk n0 m0 z0 n1 m1 z1) n0))).setCell (p := ⟨wT1m57.heap.size, 1, none⟩) hgF (Value.int .i64 (cgN (coOk n0 m0 z0 n1 m1 z1) m1))).setCell (p := ⟨wT1m57.heap.size, 2, none⟩) hgF (.slice am57 (coZ n0 m0 z0 n1 m1 z1).length cm57)
                    obtain ⟨f0, f1, f2, e0, e1, e2⟩ := cells3 hzF
                    go_simp
                    refine hK.out _ _ ?_ (fun hHeld => ?_)
                    · exact ⟨g0, g1, g2, g3, g4, g5, g6, g7, g8, g9, g10, g11, g12, g13, g14, g15, g16, g17, hb9⟩
                    clear hK K
                    (try simp only [Act.put, List.setIfInBounds_toArray, List.set_cons_zero, List.set_cons_succ])
                    refine wpAnyH_done (by kernel_rfl) ?_ _
                    show wpList _ _ _ _ _ _
                    clear hHeld hzF hoF hvF
                    go_wp2
                    go_meet
                    case rel => exact ⟨wT1m57.heap.size, _, rfl, rfl, ⟨_, _, rfl⟩, sF.out⟩
            · go_simp
              obtain ⟨wZm57, hwZ⟩ : ∃ W, W = World.alloc wT0m57 (.cells #[.int .i64 0, .int .i64 0, .slice none 0 0] 28) := ⟨_, rfl⟩
              rw [← hwZ]
              have hbwZm57 : Below wT0m57.heap.size wT0m57 wZm57 := hwZ ▸ alloc_belowS wT0m57 (.cells #[.int .i64 0, .int .i64 0, .slice none 0 0] 28)
              have hzwZm57 : wZm57.heap[wT0m57.heap.size]? = some (.cells #[.int .i64 0, .int .i64 0, .slice none 0 0] 28 (0, 0)) := by rw [hwZ]; exact heap_alloc_new _ _
              have hqwZm57 := bnext hHeld.2.2.2.2.2.2.2.2.2.2.2.2.2.2.2.2.2.2 hbwZm57
              clear hwZ
              refine hK.out _ _ ?_ (fun hHeld => ?_)
              · exact ⟨cnext hbwZm57 hHeld.1, cnext hbwZm57 hHeld.2.1, cnext hbwZm57 hHeld.2.2.1, cnext hbwZm57 hHeld.2.2.2.1, cnext hbwZm57 hHeld.2.2.2.2.1, cnext hbwZm57 hHeld.2.2.2.2.2.1, cnext hbwZm57 hHeld.2.2.2.2.2.2.1, cnext hbwZm57 hHeld.2.2.2.2.2.2.2.1, cnext hbwZm57 hHeld.2.2.2.2.2.2.2.2.1, cnext hbwZm57 hHeld.2.2.2.2.2.2.2.2.2.1, cnext hbwZm57 hHeld.2.2.2.2.2.2.2.2.2.2.1, cnext hbwZm57 hHeld.2.2.2.2.2.2.2.2.2.2.2.1, cnext hbwZm57 hHeld.2.2.2.2.2.2.2.2.2.2.2.2.1, cnext hbwZm57 hHeld.2.2.2.2.2.2.2.2.2.2.2.2.2.1, cnext hbwZm57 hHeld.2.2.2.2.2.2.2.2.2.2.2.2.2.2.1, cnext hbwZm57 hHeld.2.2.2.2.2.2.2.2.2.2.2.2.2.2.2.1, cnext hbwZm57 hHeld.2.2.2.2.2.2.2.2.2.2.2.2.2.2.2.2.1, cnext hbwZm57 hHeld.2.2.2.2.2.2.2.2.2.2.2.2.2.2.2.2.2.1, bnext hHeld.2.2.2.2.2.2.2.2.2.2.2.2.2.2.2.2.2.2 hbwZm57⟩
              clear hK K
              (try simp only [Act.put, List.setIfInBounds_toArray, List.set_cons_zero, List.set_cons_succ])
              refine wpAnyH_ready (rs := [3]) (by kernel_rfl) (by simp) ?_
              refine (AllReadyH.cons rfl (fun K hK => ?_) AllReadyH.nil)
              · go_simp
                with_reducible refine Calls.mono (toChannel_any (n1) (m1) _ z1 _ (h1.below (bnext s17.bt hHeld.2.2.2.2.2.2.2.2.2.2.2.2.2.2.2.2.2.2)) (by omega)) ?_
                rintro e wT1m57 ⟨t1m57, rfl, o1m57, hbwT1m57⟩
                have hqwT1m57 := bnext hHeld.2.2.2.2.2.2.2.2.2.2.2.2.2.2.2.2.2.2 hbwT1m57
                obtain ⟨a1m57, c1m57, rfl⟩ := o1m57.rg.shape
                try go_wp2_with fail
                refine hK.out _ _ ?_ (fun hHeld => ?_)
                · exact ⟨cnext hbwT1m57 hHeld.1, cnext hbwT1m57 hHeld.2.1, cnext hbwT1m57 hHeld.2.2.1, cnext hbwT1m57 hHeld.2.2.2.1, cnext hbwT1m57 hHeld.2.2.2.2.1, cnext hbwT1m57 hHeld.2.2.2.2.2.1, cnext hbwT1m57 hHeld.2.2.2.2.2.2.1, cnext hbwT1m57 hHeld.2.2.2.2.2.2.2.1, cnext hbwT1m57 hHeld.2.2.2.2.2.2.2.2.1, cnext hbwT1m57 hHeld.2.2.2.2.2.2.2.2.2.1, cnext hbwT1m57 hHeld.2.2.2.2.2.2.2.2.2.2.1, cnext hbwT1m57 hHeld.2.2.2.2.2.2.2.2.2.2.2.1, cnext hbwT1m57 hHeld.2.2.2.2.2.2.2.2.2.2.2.2.1, cnext hbwT1m57 hHeld.2.2.2.2.2.2.2.2.2.2.2.2.2.1, cnext hbwT1m57 hHeld.2.2.2.2.2.2.2.2.2.2.2.2.2.2.1, cnext hbwT1m57 hHeld.2.2.2.2.2.2.2.2.2.2.2.2.2.2.2.1, cnext hbwT1m57 hHeld.2.2.2.2.2.2.2.2.2.2.2.2.2.2.2.2.1, cnext hbwT1m57 hHeld.2.2.2.2.2.2.2.2.2.2.2.2.2.2.2.2.2.1, bnext hHeld.2.2.2.2.2.2.2.2.2.2.2.2.2.2.2.2.2.2 hbwT1m57⟩
                clear hK K
                (try simp only [Act.put, List.setIfInBounds_toArray, List.set_cons_zero, List.set_cons_succ])
                refine wpAnyH_ready (rs := [4]) (by kernel_rfl) (by simp) ?_
                refine (AllReadyH.cons rfl (fun K hK => ?_) AllReadyH.nil)
                · go_simp
                  with_reducible refine Calls.mono (implCo_any (n0) (m0) _ z0 (n1) (m1) _ z1 _ (Og.rg (Og.below hbwT1m57 (Og.below hbwZm57 o0m57))) (Og.rg o1m57)) ?_
                  rintro e wFm57 ⟨tm57, rfl, om57, hbwFm57⟩
                  have hqwFm57 := bnext hHeld.2.2.2.2.2.2.2.2.2.2.2.2.2.2.2.2.2.2 hbwFm57
                  obtain ⟨am57, cm57, rfl⟩ := om57.rg.shape
                  try go_wp2_with fail
                  refine hK.out _ _ ?_ (fun hHeld => ?_)
                  · exact ⟨cnext hbwFm57 hHeld.1, cnext hbwFm57 hHeld.2.1, cnext hbwFm57 hHeld.2.2.1, cnext hbwFm57 hHeld.2.2.2.1, cnext hbwFm57 hHeld.2.2.2.2.1, cnext hbwFm57 hHeld.2.2.2.2.2.1, cnext hbwFm57 hHeld.2.2.2.2.2.2.1, cnext hbwFm57 hHeld.2.2.2.2.2.2.2.1, cnext hbwFm57 hHeld.2.2.2.2.2.2.2.2.1, cnext hbwFm57 hHeld.2.2.2.2.2.2.2.2.2.1, cnext hbwFm57 hHeld.2.2.2.2.2.2.2.2.2.2.1, cnext hbwFm57 hHeld.2.2.2.2.2.2.2.2.2.2.2.1, cnext hbwFm57 hHeld.2.2.2.2.2.2.2.2.2.2.2.2.1, cnext hbwFm57 hHeld.2.2.2.2.2.2.2.2.2.2.2.2.2.1, cnext hbwFm57 hHeld.2.2.2.2.2.2.2.2.2.2.2.2.2.2.1, cnext hbwFm57 hHeld.2.2.2.2.2.2.2.2.2.2.2.2.2.2.2.1, cnext hbwFm57 hHeld.2.2.2.2.2.2.2.2.2.2.2.2.2.2.2.2.1, cnext hbwFm57 hHeld.2.2.2.2.2.2.2.2.2.2.2.2.2.2.2.2.2.1, bnext hHeld.2.2.2.2.2.2.2.2.2.2.2.2.2.2.2.2.2.2 hbwFm57⟩
                  clear hK K
                  (try simp only [Act.put, List.setIfInBounds_toArray, List.set_cons_zero, List.set_cons_succ])
                  refine wpAnyH_tk (i := 5) (v := ?_) (some 94) rfl rfl (by kernel_rfl) (by decide +kernel) (by decide +kernel) (fun _ _ _ h => h) (by kernel_rfl) ?_ hHeld ?_
                  rotate_left
                  · (intro w hSw; (try dsimp only at hSw); go_simp <;> with_reducible rfl)
                  (try simp only [Act.put, List.setIfInBounds_toArray, List.set_cons_zero, List.set_cons_succ])
                  refine wpAnyH_tk (i := 6) (v := ?_) (some 100) rfl rfl (by kernel_rfl) (by decide +kernel) (by decide +kernel) (fun _ _ _ h => h) (by kernel_rfl) ?_ hHeld ?_
                  rotate_left
                  · (intro w hSw; (try dsimp only at hSw); go_simp <;> with_reducible rfl)
                  (try simp only [Act.put, List.setIfInBounds_toArray, List.set_cons_zero, List.set_cons_succ])
                  refine wpAnyH_tk (i := 7) (v := ?_) (some 101) rfl rfl (by kernel_rfl) (by decide +kernel) (by decide +kernel) (fun _ _ _ h => h) (by kernel_rfl) ?_ hHeld ?_
                  rotate_left
                  · (intro w hSw; (try dsimp only at hSw); go_simp <;> with_reducible rfl)
                  (try simp only [Act.put, List.setIfInBounds_toArray, List.set_cons_zero, List.set_cons_succ])
                  refine wpAnyH_ready (rs := [9]) (by kernel_rfl) (by simp) ?_
                  refine (AllReadyH.cons rfl (fun K hK => ?_) AllReadyH.nil)
                  · have hzF := hzwZm57
                    have hzF := blkS hbwT1m57 hzF
                    have hzF := blkS hbwFm57 hzF
                    have hoF := om57
                    have hcF : Below W55.heap.size W55 wT1m57 := hqwT1m57
                    have hbF : Below W55.heap.size W55 wFm57 := hqwFm57
                    have hgF : W55.heap.size ≤ wT0m57.heap.size := hqwT0m57.size
                    have hvF := og_before om57 (blkS_lt (blkS hbwT1m57 (hzwZm57)))
                    have sF := Lib.hid (St.made s17 hbF hgF hzF (hoF.mono hcF.size) hvF (Value.int .i64 (cgN (coOk n0 m0 z0 n1 m1 z1) n0)) (Value.int .i64 (cgN (coOk n0 m0 z0 n1 m1 z1) m1)))
                    obtain ⟨-, -, -, g0, g1, g2, g3, g4, g5, g6, g7, g8, g9, g10, g11, g12, g13, g14, g15, g16, g17, -⟩ := sF.out.cs
                    have hb9 := ((hbF.setCell (p := ⟨wT0m57.heap.size, 0, none⟩) hgF (Value.int .i64 (cgN (coOk n0 m0 z0 n1 m1 z1) n0))).setCell (p := ⟨wT0m57.heap.size, 1, none⟩) hgF (Value.int .i64 (cgN (coOk n0 m0 z0 n1 m1 z1) m1))).setCell (p := ⟨wT0m57.heap.size, 2, none⟩) hgF (.slice am57 (coZ n0 m0 z0 n1 m1 z1).length cm57)
                    obtain ⟨f0, f1, f2, e0, e1, e2⟩ := cells3 hzF
                    go_simp
                    refine hK.out _ _ ?_ (fun hHeld => ?_)
                    · exact ⟨g0, g1, g2, g3, g4, g5, g6, g7, g8, g9, g10, g11, g12, g13, g14, g15, g16, g17, hb9⟩
                    clear hK K
                    (try simp only [Act.put, List.setIfInBounds_toArray, List.set_cons_zero, List.set_cons_succ])
                    refine wpAnyH_done (by kernel_rfl) ?_ _
                    show wpList _ _ _ _ _ _
                    clear hHeld hzF hoF hvF
                    go_wp2
                    go_meet
                    case rel => exact ⟨wT0m57.heap.size, _, rfl, rfl, ⟨_, _, rfl⟩, sF.out⟩
          · go_simp
            obtain ⟨wZm57, hwZ⟩ : ∃ W, W = (World.alloc W55 (.cells #[.int .i64 0, .int .i64 0, .slice none 0 0] 28)).drew := ⟨_, rfl⟩
            rw [← hwZ]
            have hbwZm57 : Below W55.heap.size W55 wZm57 := hwZ ▸ (alloc_belowS W55 (.cells #[.int .i64 0, .int .i64 0, .slice none 0 0] 28)).drew
            have hzwZm57 : wZm57.heap[W55.heap.size]? = some (.cells #[.int .i64 0, .int .i64 0, .slice none 0 0] 28 (0, 0)) := by rw [hwZ]; exact heap_alloc_new W55 _
            have hqwZm57 := hbwZm57
            clear hwZ
            refine hK.out _ _ ?_ (fun hHeld => ?_)
            · exact ⟨cnext hbwZm57 kc0, cnext hbwZm57 kc1, cnext hbwZm57 kc2, cnext hbwZm57 kc3, cnext hbwZm57 kc4, cnext hbwZm57 kc5, cnext hbwZm57 kc6, cnext hbwZm57 kc7, cnext hbwZm57 kc8, cnext hbwZm57 kc9, cnext hbwZm57 kc10, cnext hbwZm57 kc11, cnext hbwZm57 kc12, cnext hbwZm57 kc13, cnext hbwZm57 kc14, cnext hbwZm57 kc15, cnext hbwZm57 kc16, cnext hbwZm57 kc17, hbwZm57⟩
            clear hK K
            (try simp only [Act.put, List.setIfInBounds_toArray, List.set_cons_zero, List.set_cons_succ])
            refine wpAnyH_ready (rs := [1]) (by kernel_rfl) (by simp) ?_
            refine (AllReadyH.cons rfl (fun K hK => ?_) AllReadyH.nil)
            · go_simp
              with_reducible refine Calls.mono (toChannel_any (n0) (m0) _ z0 _ (h0.below (bnext s17.bt hHeld.2.2.2.2.2.2.2.2.2.2.2.2.2.2.2.2.2.2)) (by omega)) ?_
              rintro e wT0m57 ⟨t0m57, rfl, o0m57, hbwT0m57⟩
              have hqwT0m57 := bnext hHeld.2.2.2.2.2.2.2.2.2.2.2.2.2.2.2.2.2.2 hbwT0m57
              obtain ⟨a0m57, c0m57, rfl⟩ := o0m57.rg.shape
              try go_wp2_with fail
              refine hK.out _ _ ?_ (fun hHeld => ?_)
              · exact ⟨cnext hbwT0m57 hHeld.1, cnext hbwT0m57 hHeld.2.1, cnext hbwT0m57 hHeld.2.2.1, cnext hbwT0m57 hHeld.2.2.2.1, cnext hbwT0m57 hHeld.2.2.2.2.1, cnext hbwT0m57 hHeld.2.2.2.2.2.1, cnext hbwT0m57 hHeld.2.2.2.2.2.2.1, cnext hbwT0m57 hHeld.2.2.2.2.2.2.2.1, cnext hbwT0m57 hHeld.2.2.2.2.2.2.2.2.1, cnext hbwT0m57 hHeld.2.2.2.2.2.2.2.2.2.1, cnext hbwT0m57 hHeld.2.2.2.2.2.2.2.2.2.2.1, cnext hbwT0m57 hHeld.2.2.2.2.2.2.2.2.2.2.2.1, cnext hbwT0m57 hHeld.2.2.2.2.2.2.2.2.2.2.2.2.1, cnext hbwT0m57 hHeld.2.2.2.2.2.2.2.2.2.2.2.2.2.1, cnext hbwT0m57 hHeld.2.2.2.2.2.2.2.2.2.2.2.2.2.2.1, cnext hbwT0m57 hHeld.2.2.2.2.2.2.2.2.2.2.2.2.2.2.2.1, cnext hbwT0m57 hHeld.2.2.2.2.2.2.2.2.2.2.2.2.2.2.2.2.1, cnext hbwT0m57 hHeld.2.2.2.2.2.2.2.2.2.2.2.2.2.2.2.2.2.1, bnext hHeld.2.2.2.2.2.2.2.2.2.2.2.2.2.2.2.2.2.2 hbwT0m57⟩
              clear hK K
              (try simp only [Act.put, List.setIfInBounds_toArray, List.set_cons_zero, List.set_cons_succ])
              refine wpAnyH_ready (rs := [3]) (by kernel_rfl) (by simp) ?_
              refine (AllReadyH.cons rfl (fun K hK => ?_) AllReadyH.nil)
              · go_simp
                with_reducible refine Calls.mono (toChannel_any (n1) (m1) _ z1 _ (h1.below (bnext s17.bt hHeld.2.2.2.2.2.2.2.2.2.2.2.2.2.2.2.2.2.2)) (by omega)) ?_
                rintro e wT1m57 ⟨t1m57, rfl, o1m57, hbwT1m57⟩
                have hqwT1m57 := bnext hHeld.2.2.2.2.2.2.2.2.2.2.2.2.2.2.2.2.2.2 hbwT1m57
                obtain ⟨a1m57, c1m57, rfl⟩ := o1m57.rg.shape
                try go_wp2_with fail
                refine hK.out _ _ ?_ (fun hHeld => ?_)
                · exact ⟨cnext hbwT1m57 hHeld.1, cnext hbwT1m57 hHeld.2.1, cnext hbwT1m57 hHeld.2.2.1, cnext hbwT1m57 hHeld.2.2.2.1, cnext hbwT1m57 hHeld.2.2.2.2.1, cnext hbwT1m57 hHeld.2.2.2.2.2.1, cnext hbwT1m57 hHeld.2.2.2.2.2.2.1, cnext hbwT1m57 hHeld.2.2.2.2.2.2.2.1, cnext hbwT1m57 hHeld.2.2.2.2.2.2.2.2.1, cnext hbwT1m57 hHeld.2.2.2.2.2.2.2.2.2.1, cnext hbwT1m57 hHeld.2.2.2.2.2.2.2.2.2.2.1, cnext hbwT1m57 hHeld.2.2.2.2.2.2.2.2.2.2.2.1, cnext hbwT1m57 hHeld.2.2.2.2.2.2.2.2.2.2.2.2.1, cnext hbwT1m57 hHeld.2.2.2.2.2.2.2.2.2.2.2.2.2.1, cnext hbwT1m57 hHeld.2.2.2.2.2.2.2.2.2.2.2.2.2.2.1, cnext hbwT1m57 hHeld.2.2.2.2.2.2.2.2.2.2.2.2.2.2.2.1, cnext hbwT1m57 hHeld.2.2.2.2.2.2.2.2.2.2.2.2.2.2.2.2.1, cnext hbwT1m57 hHeld.2.2.2.2.2.2.2.2.2.2.2.2.2.2.2.2.2.1, bnext hHeld.2.2.2.2.2.2.2.2.2.2.2.2.2.2.2.2.2.2 hbwT1m57⟩
                clear hK K
                (try simp only [Act.put, List.setIfInBounds_toArray, List.set_cons_zero, List.set_cons_succ])
                refine wpAnyH_ready (rs := [4]) (by kernel_rfl) (by simp) ?_
                refine (AllReadyH.cons rfl (fun K hK => ?_) AllReadyH.nil)
                · go_simp
                  with_reducible refine Calls.mono (implCo_any (n0) (m0) _ z0 (n1) (m1) _ z1 _ (Og.rg (Og.below hbwT1m57 o0m57)) (Og.rg o1m57)) ?_
                  rintro e wFm57 ⟨tm57, rfl, om57, hbwFm57⟩
                  have hqwFm57 := bnext hHeld.2.2.2.2.2.2.2.2.2.2.2.2.2.2.2.2.2.2 hbwFm57
                  obtain ⟨am57, cm57, rfl⟩ := om57.rg.shape
                  try go_wp2_with fail
                  refine hK.out _ _ ?_ (fun hHeld => ?_)
                  · exact ⟨cnext hbwFm57 hHeld.1, cnext hbwFm57 hHeld.2.1, cnext hbwFm57 hHeld.2.2.1, cnext hbwFm57 hHeld.2.2.2.1, cnext hbwFm57 hHeld.2.2.2.2.1, cnext hbwFm57 hHeld.2.2.2.2.2.1, cnext hbwFm57 hHeld.2.2.2.2.2.2.1, cnext hbwFm57 hHeld.2.2.2.2.2.2.2.1, cnext hbwFm57 hHeld.2.2.2.2.2.2.2.2.1, cnext hbwFm57 hHeld.2.2.2.2.2.2.2.2.2.1, cnext hbwFm57 hHeld.2.2.2.2.2.2.2.2.2.2.1, cnext hbwFm57 hHeld.2.2.2.2.2.2.2.2.2.2.2.1, cnext hbwFm57 hHeld.2.2.2.2.2.2.2.2.2.2.2.2.1, cnext hbwFm57 hHeld.2.2.2.2.2.2.2.2.2.2.2.2.2.1, cnext hbwFm57 hHeld.2.2.2.2.2.2.2.2.2.2.2.2.2.2.1, cnext hbwFm57 hHeld.2.2.2.2.2.2.2.2.2.2.2.2.2.2.2.1, cnext hbwFm57 hHeld.2.2.2.2.2.2.2.2.2.2.2.2.2.2.2.2.1, cnext hbwFm57 hHeld.2.2.2.2.2.2.2.2.2.2.2.2.2.2.2.2.2.1, bnext hHeld.2.2.2.2.2.2.2.2.2.2.2.2.2.2.2.2.2.2 hbwFm57⟩
                  clear hK K
                  (try simp only [Act.put, List.setIfInBounds_toArray, List.set_cons_zero, List.set_cons_succ])
                  refine wpAnyH_tk (i := 5) (v := ?_) (some 94) rfl rfl (by kernel_rfl) (by decide +kernel) (by decide +kernel) (fun _ _ _ h => h) (by kernel_rfl) ?_ hHeld ?_
                  rotate_left
                  · (intro w hSw; (try dsimp only at hSw); go_simp <;> with_reducible rfl)
                  (try simp only [Act.put, List.setIfInBounds_toArray, List.set_cons_zero, List.set_cons_succ])
                  refine wpAnyH_tk (i := 6) (v := ?_) (some 100) rfl rfl (by kernel_rfl) (by decide +kernel) (by decide +kernel) (fun _ _ _ h => h) (by kernel_rfl) ?_ hHeld ?_
                  rotate_left
                  · (intro w hSw; (try dsimp only at hSw); go_simp <;> with_reducible rfl)
                  (try simp only [Act.put, List.setIfInBounds_toArray, List.set_cons_zero, List.set_cons_succ])
                  refine wpAnyH_tk (i := 7) (v := ?_) (some 101) rfl rfl (by kernel_rfl) (by decide +kernel) (by decide +kernel) (fun _ _ _ h => h) (by kernel_rfl) ?_ hHeld ?_
                  rotate_left
                  · (intro w hSw; (try dsimp only at hSw); go_simp <;> with_reducible rfl)
                  (try simp only [Act.put, List.setIfInBounds_toArray, List.set_cons_zero, List.set_cons_succ])
                  refine wpAnyH_ready (rs := [9]) (by kernel_rfl) (by simp) ?_
                  refine (AllReadyH.cons rfl (fun K hK => ?_) AllReadyH.nil)
                  · have hzF := hzwZm57
                    have hzF := blkS hbwT0m57 hzF
                    have hzF := blkS hbwT1m57 hzF
                    have hzF := blkS hbwFm57 hzF
                    have hoF := om57
                    have hcF : Below W55.heap.size W55 wT1m57 := hqwT1m57
                    have hbF : Below W55.heap.size W55 wFm57 := hqwFm57
                    have hgF : W55.heap.size ≤ W55.heap.size := Nat.le_refl _
                    have hvF := og_before om57 (blkS_lt (blkS hbwT1m57 (blkS hbwT0m57 (hzwZm57))))
                    have sF := Lib.hid (St.made s17 hbF hgF hzF (hoF.mono hcF.size) hvF (Value.int .i64 (cgN (coOk n0 m0 z0 n1 m1 z1) n0)) (Value.int .i64 (cgN (coOk n0 m0 z0 n1 m1 z1) m1)))
                    obtain ⟨-, -, -, g0, g1, g2, g3, g4, g5, g6, g7, g8, g9, g10, g11, g12, g13, g14, g15, g16, g17, -⟩ := sF.out.cs
                    have hb9 := ((hbF.setCell (p := ⟨W55.heap.size, 0, none⟩) hgF (Value.int .i64 (cgN (coOk n0 m0 z0 n1 m1 z1) n0))).setCell (p := ⟨W55.heap.size, 1, none⟩) hgF (Value.int .i64 (cgN (coOk n0 m0 z0 n1 m1 z1) m1))).setCell (p := ⟨W55.heap.size, 2, none⟩) hgF (.slice am57 (coZ n0 m0 z0 n1 m1 z1).length cm57)
                    obtain ⟨f0, f1, f2, e0, e1, e2⟩ := cells3 hzF
                    go_simp
                    refine hK.out _ _ ?_ (fun hHeld => ?_)
                    · exact ⟨g0, g1, g2, g3, g4, g5, g6, g7, g8, g9, g10, g11, g12, g13, g14, g15, g16, g17, hb9⟩
                    clear hK K
                    (try simp only [Act.put, List.setIfInBounds_toArray, List.set_cons_zero, List.set_cons_succ])
                    refine wpAnyH_done (by kernel_rfl) ?_ _
                    show wpList _ _ _ _ _ _
                    clear hHeld hzF hoF hvF
                    go_wp2
                    go_meet
                    case rel => exact ⟨W55.heap.size, _, rfl, rfl, ⟨_, _, rfl⟩, sF.out⟩
        case rest =>
          obtain ⟨gwm57, vwm57, rfl, rfl, ⟨ao58, cp59, rfl⟩, s18⟩ := hcut
          clear kc0 kc1 kc2 kc3 kc4 kc5 kc6 kc7 kc8 kc9 kc10 kc11 kc12 kc13 kc14 kc15 kc16 kc17
          obtain ⟨kc0, kc1, kc2, kc3, kc4, kc5, kc6, kc7, kc8, kc9, kc10, kc11, kc12, kc13, kc14, kc15, kc16, kc17, kc18, kc19, kc20, -⟩ := s18.cs
          go_wp2_with fail
          refine (eqChannel_same (cgN (coOk n0 m0 z0 n1 m1 z1) n0) (cgN (coOk n0 m0 z0 n1 m1 z1) m1) _ _ (coZ n0 m0 z0 n1 m1 z1) _ (s18.of (List.mem_of_getElem? (i := 0) rfl)).rg (s18.of (List.mem_of_getElem? (i := 4) rfl)).rg).mono ?_; rintro e W61 ⟨rfl, b60⟩
          clear kc0 kc1 kc2 kc3 kc4 kc5 kc6 kc7 kc8 kc9 kc10 kc11 kc12 kc13 kc14 kc15 kc16 kc17 kc18 kc19 kc20
          have s19 := s18.below b60
          obtain ⟨kc0, kc1, kc2, kc3, kc4, kc5, kc6, kc7, kc8, kc9, kc10, kc11, kc12, kc13, kc14, kc15, kc16, kc17, kc18, kc19, kc20, -⟩ := s19.cs
          go_wp2_with fail
          refine (heldChannel_same (cgN (coOk n0 m0 z0 n1 m1 z1) n0) (cgN (coOk n0 m0 z0 n1 m1 z1) m1) _ (coZ n0 m0 z0 n1 m1 z1).length (1) _ (s19.of (List.mem_of_getElem? (i := 1) rfl)).rg (coZ_len n0 m0 z0 n1 m1 z1) (by omega) (by omega)).mono ?_; rintro e W62 ⟨rfl, b63⟩
          clear kc0 kc1 kc2 kc3 kc4 kc5 kc6 kc7 kc8 kc9 kc10 kc11 kc12 kc13 kc14 kc15 kc16 kc17 kc18 kc19 kc20
          have s20 := s19.below b63
          obtain ⟨kc0, kc1, kc2, kc3, kc4, kc5, kc6, kc7, kc8, kc9, kc10, kc11, kc12, kc13, kc14, kc15, kc16, kc17, kc18, kc19, kc20, -⟩ := s20.cs
          go_wp2
          go_ret
          exact ⟨rfl, s20.bt⟩
    · go_enter Try.func4, Try.ntmps4
      go_wp2_with fail
      refine (szChannel_any (n0) (m0) _ z0 _ _ (h0.below (by go_grown)) (by omega) (by omega)).mono ?_; rw [if_neg (by omega)]; rintro e W64 ⟨rfl, b65⟩
      have s21 : St w W64 [((⟨w.heap.size, 0, none⟩ : Addr), Value.int .i64 n0), ((⟨w.heap.size, 1, none⟩ : Addr), Value.int .i64 m0), ((⟨w.heap.size, 2, none⟩ : Addr), Value.slice ao0 z0.length cap0), ((⟨w.heap.size + 1, 0, none⟩ : Addr), Value.int .i64 n1), ((⟨w.heap.size + 1, 1, none⟩ : Addr), Value.int .i64 m1), ((⟨w.heap.size + 1, 2, none⟩ : Addr), Value.slice ao1 z1.length cap1)] [] := ⟨bnext (by go_grown) b65, ⟨cnext b65 (by simp [go_sem]), cnext b65 (by simp [go_sem]), cnext b65 (by simp [go_sem]), cnext b65 (by simp [go_sem]), cnext b65 (by simp [go_sem]), cnext b65 (by simp [go_sem]), trivial⟩, trivial, fun _ _ _ h => by cases h⟩
      obtain ⟨kc0, kc1, kc2, kc3, kc4, kc5, -⟩ := s21.cs
      go_wp2_with fail
      refine (szChannel_any (n1) (m1) _ z1 _ _ (h1.below s21.bt) (by omega) (by omega)).mono ?_; rw [if_pos (by omega)]; rintro e W66 ⟨rfl, b67⟩
      clear kc0 kc1 kc2 kc3 kc4 kc5
      have s22 := s21.below b67
      obtain ⟨kc0, kc1, kc2, kc3, kc4, kc5, -⟩ := s22.cs
      go_wp2
      go_ret
      exact ⟨rfl, s22.bt⟩
  · go_enter Try.func4, Try.ntmps4
    go_wp2_with fail
    refine (szChannel_any (n0) (m0) _ z0 _ _ (h0.below (by go_grown)) (by omega) (by omega)).mono ?_; rw [if_pos (by omega)]; rintro e W68 ⟨rfl, b69⟩
    have s23 : St w W68 [((⟨w.heap.size, 0, none⟩ : Addr), Value.int .i64 n0), ((⟨w.heap.size, 1, none⟩ : Addr), Value.int .i64 m0), ((⟨w.heap.size, 2, none⟩ : Addr), Value.slice ao0 z0.length cap0), ((⟨w.heap.size + 1, 0, none⟩ : Addr), Value.int .i64 n1), ((⟨w.heap.size + 1, 1, none⟩ : Addr), Value.int .i64 m1), ((⟨w.heap.size + 1, 2, none⟩ : Addr), Value.slice ao1 z1.length cap1)] [] := ⟨bnext (by go_grown) b69, ⟨cnext b69 (by simp [go_sem]), cnext b69 (by simp [go_sem]), cnext b69 (by simp [go_sem]), cnext b69 (by simp [go_sem]), cnext b69 (by simp [go_sem]), cnext b69 (by simp [go_sem]), trivial⟩, trivial, fun _ _ _ h => by cases h⟩
    obtain ⟨kc0, kc1, kc2, kc3, kc4, kc5, -⟩ := s23.cs
    go_wp2
    go_ret
    exact ⟨rfl, s23.bt⟩

set_option maxRecDepth 100000 in
theorem lifted (os : Os) (started : os.Started) (H : Type) (enc : TypeId × Value → H) :
    ReturnsInHanded {} Try.checked os 4 .any (Rows.fnExactChainChannelsSpec.pre6 enc Try.prog Try.f4 Rows.fnExactChainChannelsRow.domain false) (Rows.fnExactChainChannelsSpec.post enc Try.prog Try.f4 false true false false) := by
  refine returnsInHanded_of_change (C := Try.checked) own started (by kernel_rfl) Try.func4
    (ChangeSpec.witness6 (enc := enc) (C := Try.checked) false ⟨#[], #[.agg #[.int .i64 0, .int .i64 0, .slice none 0 0], .agg #[.int .i64 0, .int .i64 0, .slice none 0 0]], []⟩ 8 (by kernel_rfl) (by kernel_rfl) (by kernel_rfl) (by kernel_rfl)) ?_
  intro W base args ds gs before hval0 hW hcnd _
  have hval : ∀ (j : Nat) t v, Try.f4.params[j]? = some t → args[j]? = some v → Value.okWide Try.prog W .any base t v := hval0
  have hW' := hW
  obtain ⟨p, q, hA0, hV, rfl, hfz, hnd⟩ := hW
  have hA : DataW.TrodAll enc Try.prog W 0 (fun _ => true) true Try.f4.params.toList args.toList ds p := hA0
  rw [Try.params4] at hA hval
  obtain ⟨v0, vs0, d0, ds0, p0, q0, hargs, rfl, rfl, h0, r0⟩ := trodAll_cons hA
  obtain ⟨v1, vs1, d1, ds1, p1, q1, rfl, rfl, rfl, h1, r1⟩ := trodAll_cons r0
  obtain ⟨rfl, rfl, rfl⟩ := trodAll_nil r1
  obtain rfl : args = #[v0, v1] := by cases args; simp_all
  obtain ⟨rfl, rfl⟩ := trodVars_none hV
  have k0 := h0
  have lt0 : ∀ x ∈ p0, x.block < W.heap.size := by obtain ⟨m, hm⟩ := k0; exact DataW.trod_lt m _ _ _ hm
  obtain ⟨n0, m0, y0, z0, rfl, w0⟩ := view_Channel (hval 0 24 v0 rfl rfl) h0
  have k1 := h1
  have lt1 : ∀ x ∈ p1, x.block < W.heap.size := by obtain ⟨m, hm⟩ := k1; exact DataW.trod_lt m _ _ _ hm
  obtain ⟨n1, m1, y1, z1, rfl, w1⟩ := view_Channel (hval 1 24 v1 rfl rfl) h1
  clear hA0 hval0
  refine (walk n0 m0 y0 z0 n1 m1 y1 z1 W w0 w1).mono fun e W' ⟨he, bel⟩ => ?_
  subst he
  exact ⟨_, rfl, _, _, _, [], _, [], hW', trodAll_mk1 (shut_bool Try.underlying4 _), (trodAll_cons_mk (Below.trod laidOut (by kernel_rfl) (of_decide_eq_true (by kernel_rfl)) k0 bel lt0) (trodAll_cons_mk (Below.trod laidOut (by kernel_rfl) (of_decide_eq_true (by kernel_rfl)) k1 bel lt1) trodAll_mk0)), rfl, bel.frame _, fun h => by cases h⟩

theorem over : Rows.fnExactChainChannelsRow.holds Try.pinned (OpenSpec.ofChange Rows.fnExactChainChannelsSpec) :=
  OpenClaim.holds_of_wide 4 Try.f4 rfl rfl rfl rfl rfl rfl rfl ⟨rfl, rfl, rfl, rfl, rfl⟩ rfl rfl rfl rfl rfl (by kernel_rfl) Try.func4 (by kernel_rfl)
    (of_decide_eq_true (by kernel_rfl)) (by unfold Func.isWrapper; first | (rw [if_pos (by decide +kernel)]; kernel_rfl) | (rw [if_neg (by decide +kernel)]; exact ⟨rfl, rfl⟩))
    (fun os started H enc _ => lifted os started H enc)

theorem proved : Rows.FnExactChainChannelsSaid := over
end Go.Proofs.Yteejcdfmpmcmlaa.fnExactChainChannels
