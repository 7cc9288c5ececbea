/- The helpers of the statements' own package: copies, comparisons, marks of slices of integers. No conditions but that the slices read. -/
import Derived.Test.YtgkciionmhoofaaBase
namespace Go.Proofs.Ytgkciionmhoofaa
open Go.RowKit
set_option maxRecDepth 100000

set_option maxHeartbeats 400000 in
theorem to_any (v : Value) (zs : List Int) (w : World) (h : RI w v zs) (hl : zs.length ≤ 1048576) :
    Calls Try.prog 15 #[v] w fun e w' => ∃ v', e = .returned v' ∧ OI w.heap.size w' v' zs ∧ Below w.heap.size w w' := by
  obtain ⟨hz, ao, cap, rfl, h1, h2, h3⟩ := h
  obtain ⟨i0, hi, hz0, hz1, hz2⟩ := info_parts info_int
  go_enter Try.func15, Try.ntmps15
  go_wp2_with (at_make; refine wpList_make_full _ rfl _ _ 24 rfl w.heap.size 2 i0 (.int .i64 0) 1 Try.underlying24 hi hz0 hz1 _ _ _ _ zs.length rfl rfl rfl rfl ?b1 ?b2 ?b3 ?_)
  case b1 => rw [hz2]; omega
  case b2 => unfold maxLen; omega
  case b3 => exact Nat.le_refl _
  intro w1 hown hgrow
  have hB : Below w.heap.size w w1 := grow_below hgrow
  have hown : w1.ownsRow w.heap.size 2 1 (.slice (some ⟨w.heap.size, 0, none⟩) zs.length zs.length) zs.length ((fill zs 0 0).map (Value.int .i64)) := by
    simpa [toList_madeCells_one, fill_zero] using hown
  clear hgrow
  go_wp2
  go_loopw [4] (fun i wr => ∃ k : Nat, k ≤ zs.length ∧ i = .int .i64 k ∧ wr.ownsRow w.heap.size 2 1 (.slice (some ⟨w.heap.size, 0, none⟩) zs.length zs.length) zs.length ((fill zs 0 k).map (Value.int .i64)) ∧ Below w.heap.size w wr)
    (fun i _ => zs.length - (intOf i).toNat)
  case atStart => exact ⟨0, Nat.zero_le _, rfl, hown, hB⟩
  case round =>
    clear hown hB
    obtain ⟨k, hk, rfl, hown, hB⟩ := hrel
    by_cases hlt : k < zs.length
    · obtain ⟨b, off, rfl, hc⟩ := h3 k hlt
      have hc' : wr.cell? ⟨b, off + k, none⟩ = some (.int .i64 zs[k]) := (hB.cell (p := ⟨b, off + k, none⟩) (World.block_lt_of_cell? w _ hc)).trans hc
      have hs := hown.cellAt k (by omega)
      rw [List.getElem?_map, fill_get zs 0 k hlt] at hs
      replace hs : wr.cell? ⟨w.heap.size, k, none⟩ = some (.int .i64 0) := hs
      have hf := hown.frozenAt k
      have hn := hown.stored k (.int .i64 zs[k])
      clear hc h3
      go_wp2
      go_roundw
      case rel => exact ⟨k + 1, by omega, by go_num, by rw [← fill_set zs 0 k hlt, List.map_set]; exact hn.1, hB.setCell (p := ⟨w.heap.size, k, none⟩) (Nat.le_refl _) _⟩
      case measure => simp [intOf]; omega
    · go_wp2
      go_ret
      exact ⟨_, rfl, OI.own hz (by rw [fill_all zs 0 k (by omega)] at hown; exact hown), hB⟩

set_option maxHeartbeats 400000 in
theorem eq_same (v v' : Value) (zs : List Int) (w : World) (h : RI w v zs) (h' : RI w v' zs) :
    Calls Try.prog 16 #[v, v'] w fun e w' => e = .returned (.bool true) ∧ ∃ n, w' = w.drewN n := by
  have hlen := h.len
  obtain ⟨_, ao, cap, rfl, h1, h2, h3⟩ := h
  obtain ⟨_, ao', cap', rfl, h1', h2', h3'⟩ := h'
  go_enter Try.func16, Try.ntmps16
  go_wp2
  go_loopw [5] (fun i wr => ∃ k : Nat, k ≤ zs.length ∧ i = .int .i64 k ∧ ∃ n, wr = w.drewN n) (fun i _ => zs.length - (intOf i).toNat)
  case atStart => exact ⟨0, Nat.zero_le _, rfl, 0, rfl⟩
  case round =>
    obtain ⟨k, hk, rfl, n, rfl⟩ := hrel
    by_cases hlt : k < zs.length
    · obtain ⟨b, off, rfl, hc⟩ := h3 k hlt
      obtain ⟨b', off', rfl, hc'⟩ := h3' k hlt
      clear h3 h3'
      generalize zs[k] = z at hc hc'
      go_wp2
      go_quiet (fail)
      go_wp2
      go_roundw
      case rel => exact ⟨k + 1, by omega, by go_num, _, rfl⟩
      case measure => simp [intOf]; omega
    · go_wp2
      go_ret
      exact ⟨rfl, n, rfl⟩

set_option maxHeartbeats 400000 in
theorem mark_any (v : Value) (zs : List Int) (B : Nat) (k0 : Int) (w : World) (h : OI B w v zs) (hl : zs.length ≤ 16777216) (h0 : 0 ≤ k0) (hk0 : k0 ≤ 1073741824) :
    Calls Try.prog 17 #[v, .int .i64 k0] w fun e w' => e = .returned (.int .i64 (k0 + zs.length)) ∧ OI B w' v (marks k0 zs.length) ∧ w.grownBy w' v.ownBlock := by
  have hz := h.1
  obtain ⟨ao, cap, rfl⟩ := h.2.rg.shape
  have hm := marks_len k0 zs.length
  have hmi := marks_i64 k0 zs.length (by omega) (by omega)
  go_enter Try.func17, Try.ntmps17
  go_wp2
  go_loopw [1, 5] (fun kv i wr => ∃ k : Nat, k ≤ zs.length ∧ i = .int .i64 k ∧ kv = .int .i64 (k0 + k) ∧ OI B wr (.slice ao zs.length cap) (half (marks k0 zs.length) zs k) ∧ w.grownBy wr (Value.slice ao zs.length cap).ownBlock)
    (fun _ i _ => zs.length - (intOf i).toNat)
  case atStart => exact ⟨0, Nat.zero_le _, rfl, by go_num, by rw [half_zero]; exact h, World.grownBy.refl _ _⟩
  case round =>
    clear h
    obtain ⟨k, hk, rfl, rfl, ho, hg⟩ := hrel
    have hl := half_len (marks k0 zs.length) zs k hm hk
    by_cases hlt : k < zs.length
    · have ho' := ho
      obtain ⟨_, ao', cap', e, h1, h2, _, h3⟩ := ho'
      obtain ⟨b, off, rfl, hc, hf⟩ := h3 k (by omega)
      simp only [Value.slice.injEq] at e
      obtain ⟨rfl, -, rfl⟩ := e
      have hs := ho.2.stored k (by omega) b off cap _ rfl (k0 + k)
      have hset := half_set (marks k0 zs.length) zs k (by omega) hlt
      rw [marks_get] at hset
      rw [hset] at hs
      have Hs := Lib.hid hs
      have Hg := Lib.hid hg
      obtain ⟨z, hz'⟩ : ∃ z, wr.cell? ⟨b, off + k, none⟩ = some (.int .i64 z) := ⟨_, hc⟩
      clear hc h3 hset hl hs hg ho hm
      go_wp2
      go_roundw
      case rel => exact ⟨k + 1, by omega, by go_num, by go_num, ⟨half_i64 hmi hz _, Hs.out.1⟩, grown_trans Hg.out Hs.out.2⟩
      case measure => simp [intOf]; omega
    · go_wp2
      go_ret
      obtain rfl : k = zs.length := by omega
      exact ⟨rfl, by rw [half_all _ _ _ (by omega) (by omega)] at ho; exact ho, hg⟩

set_option maxHeartbeats 400000 in
theorem held_same (v : Value) (n : Nat) (k0 : Int) (w : World) (h : RI w v (marks k0 n)) (hl : n ≤ 16777216) (h0 : 0 ≤ k0) (hk0 : k0 ≤ 1073741824) :
    Calls Try.prog 18 #[v, .int .i64 k0] w fun e w' => e = .returned (.int .i64 (k0 + n)) ∧ w = w' := by
  obtain ⟨_, ao, cap, hv, h1, h2, h3⟩ := h
  rw [marks_len] at hv h1
  subst hv
  go_enter Try.func18, Try.ntmps18
  go_wp2
  go_loop [1, 5] (fun kv i => ∃ k : Nat, k ≤ n ∧ i = .int .i64 k ∧ kv = .int .i64 (k0 + k)) (fun _ i => n - (intOf i).toNat)
  case atStart => exact ⟨0, Nat.zero_le _, rfl, by go_num⟩
  case round =>
    obtain ⟨k, hk, rfl, rfl⟩ := hrel
    by_cases hlt : k < n
    · obtain ⟨b, off, rfl, hc⟩ := h3 k (by rw [marks_len]; omega)
      rw [marks_get] at hc
      clear h3
      go_wp2
      go_round
      case rel => exact ⟨k + 1, by omega, by go_num, by go_num⟩
      case measure => simp [intOf]; omega
    · go_wp2
      go_ret
      obtain rfl : k = n := by omega
      exact ⟨rfl, rfl⟩

end Go.Proofs.Ytgkciionmhoofaa
