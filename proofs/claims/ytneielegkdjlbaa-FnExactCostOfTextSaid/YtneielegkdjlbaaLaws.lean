/- The helpers of the statements' own package: copies, comparisons, marks of slices of integers. No conditions but that the slices read. -/
import Derived.Test.YtneielegkdjlbaaBase
namespace Go.Proofs.Ytneielegkdjlbaa
open Go.RowKit
set_option maxRecDepth 100000

set_option maxHeartbeats 400000 in
theorem to_any (v : Value) (zs : List Int) (w : World) (h : RI w v zs) (hl : zs.length ≤ 1048576) :
    Calls Try.prog 7 #[v] w fun e w' => ∃ v', e = .returned v' ∧ OI w.heap.size w' v' zs ∧ Below w.heap.size w w' := by
  obtain ⟨hz, ao, cap, rfl, h1, h2, h3⟩ := h
  obtain ⟨i0, hi, hz0, hz1, hz2⟩ := info_parts info_int
  go_enter Try.func7, Try.ntmps7
  go_wp2_with (at_make; refine wpList_make_full _ rfl _ _ 22 rfl w.heap.size 2 i0 (.int .i64 0) 1 Try.underlying22 hi hz0 hz1 _ _ _ _ zs.length rfl rfl rfl rfl ?b1 ?b2 ?b3 ?_)
  case b1 => rw [hz2]; omega
  case b2 => unfold maxLen; omega
  case b3 => exact Nat.le_refl _
  intro w1 hown hgrow
  have hB : Below w.heap.size w w1 := grow_below hgrow
  have hown : w1.ownsRow w.heap.size 2 1 (.slice (some ⟨w.heap.size, 0, none⟩) zs.length zs.length) zs.length ((fill zs 0 0).map (Value.int .i64)) := by
    simpa [toList_madeCells_one, fill_zero] using hown
  clear hgrow
  go_wp2
  go_loopw [4] (fun i wr => ∃ k : Nat, k ≤ zs.length ∧ i = .int .i64 k ∧ wr.ownsRow w.heap.size 2 1 (.slice (some ⟨w.heap.size, 0, none⟩) zs.length zs.length) zs.length ((fill zs 0 k).map (Value.int .i64)) ∧ Below w.heap.size w wr)
    (fun i _ => zs.length - (intOf i).toNat)
  case atStart => exact ⟨0, Nat.zero_le _, rfl, hown, hB⟩
  case round =>
    clear hown hB
    obtain ⟨k, hk, rfl, hown, hB⟩ := hrel
    by_cases hlt : k < zs.length
    · obtain ⟨b, off, rfl, hc⟩ := h3 k hlt
      have hc' : wr.cell? ⟨b, off + k, none⟩ = some (.int .i64 zs[k]) := (hB.cell (p := ⟨b, off + k, none⟩) (World.block_lt_of_cell? w _ hc)).trans hc
      have hs := hown.cellAt k (by omega)
      rw [List.getElem?_map, fill_get zs 0 k hlt] at hs
      replace hs : wr.cell? ⟨w.heap.size, k, none⟩ = some (.int .i64 0) := hs
      have hf := hown.frozenAt k
      have hn := hown.stored k (.int .i64 zs[k])
      clear hc h3
      go_wp2
      go_roundw
      case rel => exact ⟨k + 1, by omega, by go_num, by rw [← fill_set zs 0 k hlt, List.map_set]; exact hn.1, hB.setCell (p := ⟨w.heap.size, k, none⟩) (Nat.le_refl _) _⟩
      case measure => simp [intOf]; omega
    · go_wp2
      go_ret
      exact ⟨_, rfl, OI.own hz (by rw [fill_all zs 0 k (by omega)] at hown; exact hown), hB⟩

set_option maxHeartbeats 400000 in
theorem eq_same (v v' : Value) (zs : List Int) (w : World) (h : RI w v zs) (h' : RI w v' zs) :
    Calls Try.prog 11 #[v, v'] w fun e w' => e = .returned (.bool true) ∧ ∃ n, w' = w.drewN n := by
  have hlen := h.len
  obtain ⟨_, ao, cap, rfl, h1, h2, h3⟩ := h
  obtain ⟨_, ao', cap', rfl, h1', h2', h3'⟩ := h'
  go_enter Try.func11, Try.ntmps11
  go_wp2
  go_loopw [5] (fun i wr => ∃ k : Nat, k ≤ zs.length ∧ i = .int .i64 k ∧ ∃ n, wr = w.drewN n) (fun i _ => zs.length - (intOf i).toNat)
  case atStart => exact ⟨0, Nat.zero_le _, rfl, 0, rfl⟩
  case round =>
    obtain ⟨k, hk, rfl, n, rfl⟩ := hrel
    by_cases hlt : k < zs.length
    · obtain ⟨b, off, rfl, hc⟩ := h3 k hlt
      obtain ⟨b', off', rfl, hc'⟩ := h3' k hlt
      clear h3 h3'
      generalize zs[k] = z at hc hc'
      go_wp2
      go_quiet (fail)
      go_wp2
      go_roundw
      case rel => exact ⟨k + 1, by omega, by go_num, _, rfl⟩
      case measure => simp [intOf]; omega
    · go_wp2
      go_ret
      exact ⟨rfl, n, rfl⟩

end Go.Proofs.Ytneielegkdjlbaa
