/- Slices of truth values: what the statements' arguments read as, copies, comparisons, marks. No conditions but that the slices read. -/
import Derived.Test.YtengannmhncfjaaLaws
import Derived.Test.YtengannmhncfjaaFrame
import Derived.Test.YtengannmhncfjaaState
import Derived.Deep.Grids
namespace Go.Proofs.Ytengannmhncfjaa
open Go.ChangeShapes Go.WideShapes Go.ChangeAt Go.RowKit
set_option maxRecDepth 100000
set_option linter.unusedVariables false
set_option linter.unusedSimpArgs false

theorem info_bool : (Try.prog.info? 4).map (fun i => (i.zero, i.size, i.bytes)) = some (some (.bool false), 1, 1) := by kernel_rfl
def marksB (k : Int) (n : Nat) : List Bool := (List.range n).map fun (i : Nat) => (k + (i : Int)) % 3 == 0
theorem marksB_len (k : Int) (n : Nat) : (marksB k n).length = n := by simp [marksB]
theorem marksB_get (k : Int) (n i : Nat) (h : i < (marksB k n).length) : (marksB k n)[i] = ((k + (i : Int)) % 3 == 0) := by simp [marksB]
theorem St.ob {w W : World} {ks : List (Addr × Value)} {l : List (Value × List Value)} {v : Value} {zs : List Bool} (s : St w W ks l) (h : (v, zs.map Value.bool) ∈ l) : Og Value.bool w.heap.size W v zs := (s.env.get h).ofId

section
variable {H : Type} {enc : TypeId × Value → H} {W : World} {base : Nat} {v : Value} {d : DataW H} {p : List MemPlace}
theorem view_bools (hv : Value.okWide Try.prog W .any base 22 v) (h : DataW.Trod enc Try.prog W 0 (fun _ => true) true 22 v d p) : ∃ zs, Rg Value.bool W v zs := by
  obtain ⟨a, len, cap, rfl⟩ := okWide_slice Try.underlying22 hv
  obtain ⟨fuel, hf⟩ := h
  rcases Go.Deep.open_bools Try.underlying22 Try.underlying4 (by kernel_rfl) hf with ⟨hcs, _⟩ | ⟨x, l, c, B, hcs, _, hl, hm, _, hcell⟩
  · simp [Value.cells] at hcs
    obtain ⟨rfl, rfl, rfl⟩ := hcs
    exact ⟨[], none, 0, rfl, by simp, by unfold maxLen; omega, fun i hi => by simp at hi⟩
  · simp [Value.cells] at hcs
    obtain ⟨rfl, rfl, rfl⟩ := hcs
    refine ⟨(List.range len).map B, some x, cap, by simp, by simpa using hl, hm, fun i hi => ?_⟩
    have hi' : i < len := by simpa using hi
    obtain ⟨b, off, spot⟩ := x
    have hspot : spot = none := by simpa [Addr.add] using World.cell?_spot (hcell 0 (by omega))
    subst hspot
    refine ⟨b, off, rfl, ?_⟩
    have hc := hcell i (by omega)
    rw [Addr.add_lit] at hc
    rw [hc]; simp
end

set_option maxHeartbeats 400000 in
theorem toB_any (v : Value) (zs : List Bool) (w : World) (h : Rg Value.bool w v zs) (hl : zs.length ≤ 1048576) :
    Calls Try.prog 6 #[v] w fun e w' => ∃ v', e = .returned v' ∧ Og Value.bool w.heap.size w' v' zs ∧ Below w.heap.size w w' := by
  obtain ⟨ao, cap, rfl, h1, h2, h3⟩ := h
  obtain ⟨i0, hi, hz0, hz1, hz2⟩ := info_parts info_bool
  go_enter Try.func6, Try.ntmps6
  go_wp2_with (at_make; refine wpList_make_full _ rfl _ _ 22 rfl w.heap.size 4 i0 (.bool false) 1 Try.underlying22 hi hz0 hz1 _ _ _ _ zs.length rfl rfl rfl rfl ?b1 ?b2 ?b3 ?_)
  case b1 => rw [hz2]; omega
  case b2 => unfold maxLen; omega
  case b3 => exact Nat.le_refl _
  intro w1 hown hgrow
  have hB : Below w.heap.size w w1 := grow_below hgrow
  have hown : w1.ownsRow w.heap.size 4 1 (.slice (some ⟨w.heap.size, 0, none⟩) zs.length zs.length) zs.length ((fill zs false 0).map Value.bool) := by
    simpa [toList_madeCells_one, fill_zero] using hown
  clear hgrow
  go_wp2
  go_loopw [4] (fun i wr => ∃ k : Nat, k ≤ zs.length ∧ i = .int .i64 k ∧ wr.ownsRow w.heap.size 4 1 (.slice (some ⟨w.heap.size, 0, none⟩) zs.length zs.length) zs.length ((fill zs false k).map Value.bool) ∧ Below w.heap.size w wr)
    (fun i _ => zs.length - (intOf i).toNat)
  case atStart => exact ⟨0, Nat.zero_le _, rfl, hown, hB⟩
  case round =>
    clear hown hB
    obtain ⟨k, hk, rfl, hown, hB⟩ := hrel
    by_cases hlt : k < zs.length
    · obtain ⟨b, off, rfl, hc⟩ := h3 k hlt
      have hc' : wr.cell? ⟨b, off + k, none⟩ = some (.bool zs[k]) := (hB.cell (p := ⟨b, off + k, none⟩) (World.block_lt_of_cell? w _ hc)).trans hc
      have hs := hown.cellAt k (by omega)
      rw [List.getElem?_map, fill_get zs false k hlt] at hs
      replace hs : wr.cell? ⟨w.heap.size, k, none⟩ = some (.bool false) := hs
      have hf := hown.frozenAt k
      have hn := hown.stored k (.bool zs[k])
      clear hc h3
      go_wp2
      go_roundw
      case rel => exact ⟨k + 1, by omega, by go_num, by rw [← fill_set zs false k hlt, List.map_set]; exact hn.1, hB.setCell (p := ⟨w.heap.size, k, none⟩) (Nat.le_refl _) _⟩
      case measure => simp [intOf]; omega
    · go_wp2
      go_ret
      exact ⟨_, rfl, Og.own (e := 4) (by rw [fill_all zs false k (by omega)] at hown; exact hown), hB⟩

set_option maxHeartbeats 400000 in
theorem eqB_same (v v' : Value) (zs : List Bool) (w : World) (h : Rg Value.bool w v zs) (h' : Rg Value.bool w v' zs) :
    Calls Try.prog 9 #[v, v'] w fun e w' => e = .returned (.bool true) ∧ ∃ n, w' = w.drewN n := by
  have hlen := h.len
  obtain ⟨ao, cap, rfl, h1, h2, h3⟩ := h
  obtain ⟨ao', cap', rfl, h1', h2', h3'⟩ := h'
  go_enter Try.func9, Try.ntmps9
  go_wp2
  go_loopw [5] (fun i wr => ∃ k : Nat, k ≤ zs.length ∧ i = .int .i64 k ∧ ∃ n, wr = w.drewN n) (fun i _ => zs.length - (intOf i).toNat)
  case atStart => exact ⟨0, Nat.zero_le _, rfl, 0, rfl⟩
  case round =>
    obtain ⟨k, hk, rfl, n, rfl⟩ := hrel
    by_cases hlt : k < zs.length
    · obtain ⟨b, off, rfl, hc⟩ := h3 k hlt
      obtain ⟨b', off', rfl, hc'⟩ := h3' k hlt
      clear h3 h3'
      generalize zs[k] = z at hc hc'
      go_wp2
      go_quiet (fail)
      go_wp2
      go_roundw
      case rel => exact ⟨k + 1, by omega, by go_num, _, rfl⟩
      case measure => simp [intOf]; omega
    · go_wp2
      go_ret
      exact ⟨rfl, n, rfl⟩

end Go.Proofs.Ytengannmhncfjaa
