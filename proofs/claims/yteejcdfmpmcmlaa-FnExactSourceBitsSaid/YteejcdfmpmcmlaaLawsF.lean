/- Slices of floats: what the statements' arguments read as, copies, comparisons, marks. No conditions but that the slices read. -/
import Derived.Test.YteejcdfmpmcmlaaSmf
import Derived.Test.YteejcdfmpmcmlaaMk
import Derived.Test.YteejcdfmpmcmlaaAppF
import Derived.Deep.RegionHeld3
import Derived.Test.YteejcdfmpmcmlaaPop
import Derived.Deep.QuietTactic
import Derived.Test.YteejcdfmpmcmlaaFrame
import Derived.Test.YteejcdfmpmcmlaaState
import Derived.Deep.Grids
namespace Go.Proofs.Yteejcdfmpmcmlaa
open Go.ChangeShapes Go.WideShapes Go.ChangeAt Go.RowKit
set_option maxRecDepth 100000
set_option linter.unusedVariables false
set_option linter.unusedSimpArgs false

def marksF (k : Int) (n : Nat) : List Nat := (List.range n).map fun (i : Nat) => I32 (k + (i : Int))
theorem marksF_len (k : Int) (n : Nat) : (marksF k n).length = n := by simp [marksF]
theorem marksF_get (k : Int) (n i : Nat) (h : i < (marksF k n).length) : (marksF k n)[i] = I32 (k + (i : Int)) := by simp [marksF]
theorem St.of {w W : World} {ks : List (Addr × Value)} {l : List (Value × List Value)} {v : Value} {zs : List Nat} (s : St w W ks l) (h : (v, zs.map eF) ∈ l) : Og eF w.heap.size W v zs := (s.env.get h).ofId

section
variable {H : Type} {enc : TypeId × Value → H} {W : World} {base : Nat} {v : Value} {d : DataW H} {p : List MemPlace}
theorem trod_flt {w : World} {spare : Nat → Bool} {held : Bool} {k : FloatKind} {fuel : Nat} {t : TypeId} {v : Value} {x : DataW H × List MemPlace} (ht : Try.prog.underlying t = some (.float k)) (h : DataW.trod enc Try.prog w base spare held fuel t [v] = some x) : ∃ b, v = .float k b := by
  cases fuel with
  | zero => cases h
  | succ n =>
    unfold DataW.trod at h
    rw [ht] at h
    cases v <;> simp at h
    rename_i k' b
    exact ⟨b, by rw [h.1.1]⟩
theorem shut_flt {P : Program} {w : World} {b0 : Nat} {spare : Nat → Bool} {held : Bool} {t : TypeId} {k : FloatKind} {n : Nat} (ht : P.underlying t = some (.float k)) (hw : (Lit.float k n).wf = true) : DataW.Trod enc P w b0 spare held t (.float k n) (.lit (.float k n)) [] :=
  ⟨1, by simp [DataW.trod, Value.cells, ht, hw]⟩
theorem open_flt {P : Program} {w : World} {r : Reach} {b0 b1 : Nat} {spare : Nat → Bool} {held : Bool} {t : TypeId} {k : FloatKind} {v : Value} {d : DataW H} {ps : List MemPlace} (ht : P.underlying t = some (.float k)) (hval : Value.okWide P w r b1 t v) (hd : DataW.Trod enc P w b0 spare held t v d ps) :
    ∃ b, v = .float k b ∧ d = .lit (.float k b) ∧ ps = [] ∧ (Lit.float k b).wf = true := by
  have hv : ∃ b, v = .float k b := by
    simp only [Value.okWide, ht, Cell.okWide] at hval
    cases v <;> simp_all [Cell.ok]
  obtain ⟨b, rfl⟩ := hv
  obtain ⟨fuel, hf⟩ := hd
  cases fuel with
  | zero => cases hf
  | succ n =>
    unfold DataW.trod at hf
    rw [ht] at hf
    simp [Value.cells] at hf
    exact ⟨b, rfl, hf.2.1.symm, hf.2.2, hf.1⟩
theorem flts_of {m : Nat} {y : DataW H × List MemPlace} (hf : DataW.trod enc Try.prog W 0 (fun _ => true) true m 22 [v] = some y) : ∃ zs, Rg eF W v zs := by
  rcases Go.Deep.open_slice1 Try.underlying22 (by kernel_rfl) hf with ⟨hcs, _⟩ | ⟨a, len, cap, m', n, V, D, Pl, hcs, hb, hl, hm, hmm, -, hx⟩
  · simp at hcs
    subst hcs
    exact ⟨[], none, 0, rfl, by simp, by unfold maxLen; omega, fun i hi => by simp at hi⟩
  · simp at hcs
    subst hcs
    simp only [if_true] at hmm
    subst hmm
    have hV : ∀ i, i < m' → ∃ b, V i = eF b := fun i hi => trod_flt (k := .f32) (by rw [Try.underlying39]) (hx i hi).2
    refine ⟨(List.range len).map fun i => match V i with | .float _ b => b | _ => 0, some a, m', by simp, by simpa using hl, hm, fun i hi => ?_⟩
    have hi' : i < len := by simpa using hi
    obtain ⟨b, off, spot⟩ := a
    have hspot : spot = none := by simpa [Addr.add] using World.cell?_spot (hx 0 (by omega)).1
    subst hspot
    refine ⟨b, off, rfl, ?_⟩
    have hc := (hx i (by omega)).1
    obtain ⟨q, hq⟩ := hV i (by omega)
    rw [Addr.add_lit] at hc
    rw [hc]; simp [hq]
theorem view_flts (hv : Value.okWide Try.prog W .any base 22 v) (h : DataW.Trod enc Try.prog W 0 (fun _ => true) true 22 v d p) : ∃ zs, Rg eF W v zs := by
  obtain ⟨a, len, cap, rfl⟩ := okWide_slice Try.underlying22 hv
  obtain ⟨fuel, hf⟩ := h
  simp only [Value.cells] at hf
  exact flts_of (m := fuel) (y := (d, p)) (by simpa using hf)
end

theorem run_store_f32 (P : Program) (w : World) (p : Addr) (m : Mode) (k : FloatKind) (b : Nat) : (store p (.float k b) m).run P w = stored P w p (.float k b) m := run_store P w p _ m rfl
attribute [local go_sem] run_store_f32
set_option maxHeartbeats 400000 in
theorem toF_any (v : Value) (zs : List Nat) (w : World) (h : Rg eF w v zs) (hl : zs.length ≤ 1048576) :
    Calls Try.prog 10 #[v] w fun e w' => ∃ v', e = .returned v' ∧ Og eF w.heap.size w' v' zs ∧ Below w.heap.size w w' := by
  obtain ⟨ao, cap, rfl, h1, h2, h3⟩ := h
  obtain ⟨i0, hi, hz0, hz1, hz2⟩ := info_parts info_flt
  go_enter Try.func10, Try.ntmps10
  go_wp2_with (at_make; refine wpList_make_full _ rfl _ _ 22 rfl w.heap.size 39 i0 (eF 0) 1 Try.underlying22 hi hz0 hz1 _ _ _ _ zs.length rfl rfl rfl rfl ?b1 ?b2 ?b3 ?_)
  case b1 => rw [hz2]; omega
  case b2 => unfold maxLen; omega
  case b3 => exact Nat.le_refl _
  intro w1 hown hgrow
  have hB : Below w.heap.size w w1 := grow_below hgrow
  have hown : w1.ownsRow w.heap.size 39 1 (.slice (some ⟨w.heap.size, 0, none⟩) zs.length zs.length) zs.length ((fill zs 0 0).map eF) := by
    simpa [toList_madeCells_one, fill_zero] using hown
  clear hgrow
  go_wp2
  go_loopw [4] (fun i wr => ∃ k : Nat, k ≤ zs.length ∧ i = .int .i64 k ∧ wr.ownsRow w.heap.size 39 1 (.slice (some ⟨w.heap.size, 0, none⟩) zs.length zs.length) zs.length ((fill zs 0 k).map eF) ∧ Below w.heap.size w wr)
    (fun i _ => zs.length - (intOf i).toNat)
  case atStart => exact ⟨0, Nat.zero_le _, rfl, hown, hB⟩
  case round =>
    clear hown hB
    obtain ⟨k, hk, rfl, hown, hB⟩ := hrel
    by_cases hlt : k < zs.length
    · obtain ⟨b, off, rfl, hc⟩ := h3 k hlt
      have hc' : wr.cell? ⟨b, off + k, none⟩ = some (eF zs[k]) := (hB.cell (p := ⟨b, off + k, none⟩) (World.block_lt_of_cell? w _ hc)).trans hc
      have hs := hown.cellAt k (by omega)
      rw [List.getElem?_map, fill_get zs 0 k hlt] at hs
      replace hs : wr.cell? ⟨w.heap.size, k, none⟩ = some (eF 0) := hs
      have hf := hown.frozenAt k
      have hn := hown.stored k (eF zs[k])
      clear hc h3
      go_wp2
      go_roundw
      case rel => exact ⟨k + 1, by omega, by go_num, by rw [← fill_set zs 0 k hlt, List.map_set]; exact hn.1, hB.setCell (p := ⟨w.heap.size, k, none⟩) (Nat.le_refl _) _⟩
      case measure => simp [intOf]; omega
    · go_wp2
      go_ret
      exact ⟨_, rfl, Og.own (e := 39) (by rw [fill_all zs 0 k (by omega)] at hown; exact hown), hB⟩

theorem conv_nan (x : Nat) (h : NaN .f32 x) : ∃ nb : World → Nat, (∀ w, NaN .f64 (nb w)) ∧ ∀ w, (convert 39 46 (.float .f32 x)).run Try.prog w = .ok (.float .f64 (nb w)) w.drew := by
  obtain ⟨s, f, hr⟩ := h
  have hr' : FloatKind.f32.decode x = .nan s f := hr
  refine ⟨fun w => (Question.nanConv .f64 x).cut (w.tape w.drawn (.nanConv .f64 x)), fun w => nan_cut .add .f64 0 0 _, fun w => ?_⟩
  simp [convert, run_underlying (show Try.prog.underlying 39 = some (.float .f32) by rw [Try.underlying39]), run_underlying Try.underlying46, Conv.floatToFloat, hr', Question.forced]
theorem conv_ok (x : Nat) (h : ¬ NaN .f32 x) : ∃ z, floatToFloatBits .f32 x .f64 = some z := by
  rcases kinds .f32 x with ⟨q, hq⟩ | ⟨s, hs⟩ | hn
  · exact ⟨_, (up_o hq).1⟩
  · have : FloatKind.f32.decode x = .infinity s := hs
    exact ⟨_, by unfold floatToFloatBits; rw [if_neg (by decide), this]⟩
  · exact absurd hn h
set_option maxHeartbeats 1000000 in
theorem eqF_same (v v' : Value) (zs : List Nat) (w : World) (h : Rg eF w v zs) (h' : Rg eF w v' zs) :
    Calls Try.prog 12 #[v, v'] w fun e w' => e = .returned (.bool true) ∧ Below w.heap.size w w' := by
  have hlen := h.len
  obtain ⟨ao, cap, rfl, h1, h2, h3⟩ := h
  obtain ⟨ao', cap', rfl, h1', h2', h3'⟩ := h'
  go_enter Try.func12, Try.ntmps12
  go_wp2
  go_loopw [5] (fun i wr => ∃ k : Nat, k ≤ zs.length ∧ i = .int .i64 k ∧ Below w.heap.size w wr) (fun i _ => zs.length - (intOf i).toNat)
  case atStart => exact ⟨0, Nat.zero_le _, rfl, Below.refl _ _⟩
  case round =>
    obtain ⟨k, hk, rfl, hB⟩ := hrel
    by_cases hlt : k < zs.length
    · obtain ⟨b, off, rfl, hc⟩ := h3 k hlt
      obtain ⟨b', off', rfl, hc'⟩ := h3' k hlt
      have c1 : wr.cell? ⟨b, off + k, none⟩ = some (eF zs[k]) := cnext hB hc
      have c2 : wr.cell? ⟨b', off' + k, none⟩ = some (eF zs[k]) := cnext hB hc'
      clear h3 h3' hc hc'
      generalize zs[k] = z at c1 c2
      by_cases hz : NaN .f32 z
      · obtain ⟨nb, hnb, hcv⟩ := conv_nan z hz
        have hB0 := bnext hB (below_drewN wr 1)
        go_wp2
        -- R6
        refine wp_region_held_tail 12 (S := fun W' => W'.cell? (⟨b, off + k, none⟩ : Addr) = some (eF z) ∧ W'.cell? (⟨b', off' + k, none⟩ : Addr) = some (eF z) ∧ Below w.heap.size w W') (by kernel_rfl) (by decide +kernel) ?_ (fun hHeld => ?_)
        · go_split_ands; refine ⟨?_, ?_, ?_⟩ <;> first | assumption | exact cnext (below_drewN _ 1) (by assumption) | exact bnext (by assumption) (below_drewN _ 1)
        simp only [List.take_succ_cons, List.take_zero, List.drop_succ_cons, List.drop_zero, List.length_cons, List.length_nil, Nat.reduceAdd]
        refine wpAnyH_tk (i := 0) (v := ?_) (some 17) rfl rfl (by kernel_rfl) (by decide +kernel) (by decide +kernel) (fun _ _ _ h => h) (by kernel_rfl) ?_ hHeld ?_
        rotate_left
        · (intro w hSw; (try dsimp only at hSw); go_simp <;> with_reducible rfl)
        (try simp only [Act.put, List.setIfInBounds_toArray, List.set_cons_zero, List.set_cons_succ])
        refine wpAnyH_tk (i := 1) (v := ?_) (some 18) rfl rfl (by kernel_rfl) (by decide +kernel) (by decide +kernel) (fun _ _ _ h => h) (by kernel_rfl) ?_ hHeld ?_
        rotate_left
        · (intro w hSw; (try dsimp only at hSw); go_simp <;> with_reducible rfl)
        (try simp only [Act.put, List.setIfInBounds_toArray, List.set_cons_zero, List.set_cons_succ])
        refine wpAnyH_tk (i := 2) (v := ?_) (some 19) rfl rfl (by kernel_rfl) (by decide +kernel) (by decide +kernel) (fun _ _ _ h => h) (by kernel_rfl) ?_ hHeld ?_
        rotate_left
        · (intro w hSw; (try dsimp only at hSw); go_simp <;> with_reducible rfl)
        (try simp only [Act.put, List.setIfInBounds_toArray, List.set_cons_zero, List.set_cons_succ])
        refine wpAnyH_tk (i := 3) (v := ?_) (some 20) rfl rfl (by kernel_rfl) (by decide +kernel) (by decide +kernel) (fun _ _ _ h => h) (by kernel_rfl) ?_ hHeld ?_
        rotate_left
        · (intro w hSw; (try dsimp only at hSw); go_simp <;> with_reducible rfl)
        (try simp only [Act.put, List.setIfInBounds_toArray, List.set_cons_zero, List.set_cons_succ])
        refine wpAnyH_tk (i := 5) (v := ?_) (some 22) rfl rfl (by kernel_rfl) (by decide +kernel) (by decide +kernel) (fun _ _ _ h => h) (by kernel_rfl) ?_ hHeld ?_
        rotate_left
        · (intro w hSw; (try dsimp only at hSw); go_simp <;> with_reducible rfl)
        (try simp only [Act.put, List.setIfInBounds_toArray, List.set_cons_zero, List.set_cons_succ])
        refine wpAnyH_tk (i := 6) (v := ?_) (some 23) rfl rfl (by kernel_rfl) (by decide +kernel) (by decide +kernel) (fun _ _ _ h => h) (by kernel_rfl) ?_ hHeld ?_
        rotate_left
        · (intro w hSw; (try dsimp only at hSw); go_simp <;> with_reducible rfl)
        (try simp only [Act.put, List.setIfInBounds_toArray, List.set_cons_zero, List.set_cons_succ])
        refine wpAnyH_tk (i := 7) (v := ?_) (some 24) rfl rfl (by kernel_rfl) (by decide +kernel) (by decide +kernel) (fun _ _ _ h => h) (by kernel_rfl) ?_ hHeld ?_
        rotate_left
        · (intro w hSw; (try dsimp only at hSw); go_simp <;> with_reducible rfl)
        (try simp only [Act.put, List.setIfInBounds_toArray, List.set_cons_zero, List.set_cons_succ])
        refine wpAnyH_tk (i := 8) (v := ?_) (some 25) rfl rfl (by kernel_rfl) (by decide +kernel) (by decide +kernel) (fun _ _ _ h => h) (by kernel_rfl) ?_ hHeld ?_
        rotate_left
        · (intro w hSw; (try dsimp only at hSw); go_simp <;> with_reducible rfl)
        (try simp only [Act.put, List.setIfInBounds_toArray, List.set_cons_zero, List.set_cons_succ])
        refine wpAnyH_ready (rs := [4, 9]) (by kernel_rfl) (by simp) ?_
        refine (AllReadyH.cons rfl (fun K hK => ?_) (AllReadyH.cons rfl (fun K hK => ?_) AllReadyH.nil))
        · go_simp
          refine hK.out _ _ ?_ (fun hHeld => ?_)
          · go_split_ands; refine ⟨?_, ?_, ?_⟩ <;> first | assumption | exact cnext (below_drewN _ 1) (by assumption) | exact bnext (by assumption) (below_drewN _ 1)
          clear hK K
          (try simp only [Act.put, List.setIfInBounds_toArray, List.set_cons_zero, List.set_cons_succ])
          refine wpAnyH_ready (rs := [9]) (by kernel_rfl) (by simp) ?_
          refine (AllReadyH.cons rfl (fun K hK => ?_) AllReadyH.nil)
          · go_simp
            refine hK.out _ _ ?_ (fun hHeld => ?_)
            · go_split_ands; refine ⟨?_, ?_, ?_⟩ <;> first | assumption | exact cnext (below_drewN _ 1) (by assumption) | exact bnext (by assumption) (below_drewN _ 1)
            clear hK K
            (try simp only [Act.put, List.setIfInBounds_toArray, List.set_cons_zero, List.set_cons_succ])
            refine wpAnyH_ready (rs := [10]) (by kernel_rfl) (by simp) ?_
            refine (AllReadyH.cons rfl (fun K hK => ?_) AllReadyH.nil)
            · go_simp
              with_reducible refine Calls.mono (sameFloat_any _ _ (.inr ⟨hnb _, hnb _⟩) _) ?_
              rintro e w' ⟨rfl, rfl⟩
              try go_wp2_with fail
              refine hK.out _ _ ?_ (fun hHeld => ?_)
              · go_split_ands; refine ⟨?_, ?_, ?_⟩ <;> first | assumption | exact cnext (below_drewN _ 1) (by assumption) | exact bnext (by assumption) (below_drewN _ 1)
              clear hK K
              (try simp only [Act.put, List.setIfInBounds_toArray, List.set_cons_zero, List.set_cons_succ])
              refine wpAnyH_tk (i := 11) (v := ?_) (some 28) rfl rfl (by kernel_rfl) (by decide +kernel) (by decide +kernel) (fun _ _ _ h => h) (by kernel_rfl) ?_ hHeld ?_
              rotate_left
              · (intro w hSw; (try dsimp only at hSw); go_simp <;> with_reducible rfl)
              (try simp only [Act.put, List.setIfInBounds_toArray, List.set_cons_zero, List.set_cons_succ])
              refine wpAnyH_done (by kernel_rfl) ?_ _
              show wpList _ _ _ _ _ _
              have hBF : Below w.heap.size w _ := hHeld.2.2
              go_wp2
              go_roundw
              case rel => exact ⟨k + 1, by omega, by go_num, hBF⟩
              case measure => simp [intOf]; omega
        · go_simp
          refine hK.out _ _ ?_ (fun hHeld => ?_)
          · go_split_ands; refine ⟨?_, ?_, ?_⟩ <;> first | assumption | exact cnext (below_drewN _ 1) (by assumption) | exact bnext (by assumption) (below_drewN _ 1)
          clear hK K
          (try simp only [Act.put, List.setIfInBounds_toArray, List.set_cons_zero, List.set_cons_succ])
          refine wpAnyH_ready (rs := [4]) (by kernel_rfl) (by simp) ?_
          refine (AllReadyH.cons rfl (fun K hK => ?_) AllReadyH.nil)
          · go_simp
            refine hK.out _ _ ?_ (fun hHeld => ?_)
            · go_split_ands; refine ⟨?_, ?_, ?_⟩ <;> first | assumption | exact cnext (below_drewN _ 1) (by assumption) | exact bnext (by assumption) (below_drewN _ 1)
            clear hK K
            (try simp only [Act.put, List.setIfInBounds_toArray, List.set_cons_zero, List.set_cons_succ])
            refine wpAnyH_ready (rs := [10]) (by kernel_rfl) (by simp) ?_
            refine (AllReadyH.cons rfl (fun K hK => ?_) AllReadyH.nil)
            · go_simp
              with_reducible refine Calls.mono (sameFloat_any _ _ (.inr ⟨hnb _, hnb _⟩) _) ?_
              rintro e w' ⟨rfl, rfl⟩
              try go_wp2_with fail
              refine hK.out _ _ ?_ (fun hHeld => ?_)
              · go_split_ands; refine ⟨?_, ?_, ?_⟩ <;> first | assumption | exact cnext (below_drewN _ 1) (by assumption) | exact bnext (by assumption) (below_drewN _ 1)
              clear hK K
              (try simp only [Act.put, List.setIfInBounds_toArray, List.set_cons_zero, List.set_cons_succ])
              refine wpAnyH_tk (i := 11) (v := ?_) (some 28) rfl rfl (by kernel_rfl) (by decide +kernel) (by decide +kernel) (fun _ _ _ h => h) (by kernel_rfl) ?_ hHeld ?_
              rotate_left
              · (intro w hSw; (try dsimp only at hSw); go_simp <;> with_reducible rfl)
              (try simp only [Act.put, List.setIfInBounds_toArray, List.set_cons_zero, List.set_cons_succ])
              refine wpAnyH_done (by kernel_rfl) ?_ _
              show wpList _ _ _ _ _ _
              have hBF : Below w.heap.size w _ := hHeld.2.2
              go_wp2
              go_roundw
              case rel => exact ⟨k + 1, by omega, by go_num, hBF⟩
              case measure => simp [intOf]; omega
        -- R6 end
      · obtain ⟨q, hq⟩ := conv_ok z hz
        have o1 := cvt_up z q hq
        go_wp2
        go_quiet ((go_at_call 24; exact Calls.quiet_of (qi (sameFloat_any q q (.inl rfl) _))))
        go_wp2
        go_roundw
        case rel => exact ⟨k + 1, by omega, by go_num, bnext hB (below_drewN _ _)⟩
        case measure => simp [intOf]; omega
    · go_wp2
      go_ret
      exact ⟨rfl, hB⟩

set_option maxHeartbeats 400000 in
theorem markF_any (v : Value) (zs : List Nat) (B : Nat) (k0 : Int) (w : World) (h : Og eF B w v zs) (hl : zs.length ≤ 16777216) (h0 : 0 ≤ k0) (hk0 : k0 ≤ 1073741824) :
    Calls Try.prog 15 #[v, .int .i64 k0] w fun e w' => e = .returned (.int .i64 (k0 + zs.length)) ∧ Og eF B w' v (marksF k0 zs.length) ∧ w.grownBy w' v.ownBlock := by
  obtain ⟨ao, cap, rfl⟩ := h.rg.shape
  have hm := marksF_len k0 zs.length
  go_enter Try.func15, Try.ntmps15
  go_wp2
  go_loopw [1, 5] (fun kv i wr => ∃ k : Nat, k ≤ zs.length ∧ i = .int .i64 k ∧ kv = .int .i64 (k0 + k) ∧ Og eF B wr (.slice ao zs.length cap) (half (marksF k0 zs.length) zs k) ∧ w.grownBy wr (Value.slice ao zs.length cap).ownBlock)
    (fun _ i _ => zs.length - (intOf i).toNat)
  case atStart => exact ⟨0, Nat.zero_le _, rfl, by go_num, by rw [half_zero]; exact h, World.grownBy.refl _ _⟩
  case round =>
    clear h
    obtain ⟨k, hk, rfl, rfl, ho, hg⟩ := hrel
    have hl := half_len (marksF k0 zs.length) zs k hm hk
    by_cases hlt : k < zs.length
    · have ho' := ho
      obtain ⟨ao', cap', e, h1, h2, _, h3⟩ := ho'
      obtain ⟨b, off, rfl, hc, hf⟩ := h3 k (by omega)
      simp only [Value.slice.injEq] at e
      obtain ⟨rfl, -, rfl⟩ := e
      have hs := ho.stored k (by omega) b off cap _ rfl (I32 (k0 + (k : Int)))
      have hset := half_set (marksF k0 zs.length) zs k (by omega) hlt
      rw [marksF_get] at hset
      rw [hset] at hs
      have Hs := Lib.hid hs
      have Hg := Lib.hid hg
      obtain ⟨z, hz'⟩ : ∃ z, wr.cell? ⟨b, off + k, none⟩ = some (eF z) := ⟨_, hc⟩
      clear hc h3 hset hl hs hg ho hm
      go_wp2
      go_roundw
      case rel => exact ⟨k + 1, by omega, by go_num, by go_num, Hs.out.1, grown_trans Hg.out Hs.out.2⟩
      case measure => simp [intOf]; omega
    · go_wp2
      go_ret
      obtain rfl : k = zs.length := by omega
      exact ⟨rfl, by rw [half_all _ _ _ (by omega) (by omega)] at ho; exact ho, hg⟩

theorem i32_ne (n : Int) (h : n.natAbs ≤ 2147483648) : (FloatKind.f32.format.order (I32 n) (I32 n) != some .eq) = false := by
  obtain ⟨r, h1, -⟩ := int_num .f32 n (k0 := 31) (by decide) (bd_int (j := 31) h)
  have h1 : Num .f32 (I32 n) r := h1
  rw [order_num h1 h1, cmp_eq.2 rfl]; rfl
set_option maxHeartbeats 400000 in
theorem heldF_same (v : Value) (n : Nat) (k0 : Int) (w : World) (h : Rg eF w v (marksF k0 n)) (hl : n ≤ 16777216) (h0 : 0 ≤ k0) (hk0 : k0 ≤ 1073741824) :
    Calls Try.prog 16 #[v, .int .i64 k0] w fun e w' => e = .returned (.int .i64 (k0 + n)) ∧ w = w' := by
  obtain ⟨ao, cap, hv, h1, h2, h3⟩ := h
  rw [marksF_len] at hv h1
  subst hv
  go_enter Try.func16, Try.ntmps16
  go_wp2
  go_loop [1, 5] (fun kv i => ∃ k : Nat, k ≤ n ∧ i = .int .i64 k ∧ kv = .int .i64 (k0 + k)) (fun _ i => n - (intOf i).toNat)
  case atStart => exact ⟨0, Nat.zero_le _, rfl, by go_num⟩
  case round =>
    obtain ⟨k, hk, rfl, rfl⟩ := hrel
    by_cases hlt : k < n
    · obtain ⟨b, off, rfl, hc⟩ := h3 k (by rw [marksF_len]; omega)
      rw [marksF_get] at hc
      have hne := i32_ne (k0 + k) (by omega)
      clear h3
      go_wp2
      go_round
      case rel => exact ⟨k + 1, by omega, by go_num, by go_num⟩
      case measure => simp [intOf]; omega
    · go_wp2
      go_ret
      obtain rfl : k = n := by omega
      exact ⟨rfl, rfl⟩

end Go.Proofs.Yteejcdfmpmcmlaa
