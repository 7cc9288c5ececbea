/- The statements' package's helpers for channels: copies, sizes, comparisons, marks. No conditions but that the slices read. -/
import Derived.Test.YteejcdfmpmcmlaaLawsF
import Derived.Deep.CutRange
import Derived.Deep.DeepCutAuto
namespace Go.Proofs.Yteejcdfmpmcmlaa
open Go.ChangeShapes Go.WideShapes Go.ChangeAt Go.RowKit
set_option maxRecDepth 100000
set_option linter.unusedVariables false
set_option linter.unusedSimpArgs false

theorem Og.shapeF {B : Nat} {w : World} {v : Value} {xs : List Nat} (h : Og eF B w v xs) : ∃ ao cap, v = .slice ao xs.length cap := h.rg.shape
theorem St.box3 {w W : World} {ks : List (Addr × Value)} {l : List (Value × List Value)} (s : St w W ks l) (a b c : Value) (t : TypeId) : St w (W.alloc (.cells #[a, b, c] t)) ((⟨W.heap.size, 0, none⟩, a) :: (⟨W.heap.size, 1, none⟩, b) :: (⟨W.heap.size, 2, none⟩, c) :: ks) l := by
  have hb : Below W.heap.size W (W.alloc (.cells #[a, b, c] t)) := (Below.refl _ _).alloc (Nat.le_refl _) _
  have s1 := s.below hb
  refine ⟨s1.bt, ⟨by simp [go_sem], by simp [go_sem], by simp [go_sem], s1.cs⟩, s1.env, fun k hk p hp => ?_⟩
  have hp' := (s.env.get (v := p.1) (c := p.2) hp).blk
  rcases List.mem_cons.1 hk with rfl | hk
  · intro e; have := hp' _ e; simp at this
  · rcases List.mem_cons.1 hk with rfl | hk
    · intro e; have := hp' _ e; simp at this
    · rcases List.mem_cons.1 hk with rfl | hk
      · intro e; have := hp' _ e; simp at this
      · exact s.ke k hk p hp
/-- A store elsewhere. -/
theorem St.far {w W : World} {ks : List (Addr × Value)} {l : List (Value × List Value)} (s : St w W ks l) (p : Addr) (u : Value) (hp : w.heap.size ≤ p.block) (hks : ∀ k ∈ ks, k.1.block ≠ p.block) (hl : ∀ q ∈ l, q.1.ownBlock ≠ some p.block) : St w (W.setCell p u) ks l := by
  have hg := grown_setCell W p u
  refine ⟨s.bt.setCell hp u, s.cs.imp fun k hk h => hg.cell h (fun e => hks k hk (Option.some.inj e)), Env.mk (fun q hq => (s.env.get (v := q.1) (c := q.2) hq).other hg (.inr (hl q hq))) s.env.seps, s.ke⟩
/-- A struct of three cells that the call has made, behind what was there. -/
theorem St.made {w W1 W : World} {ks : List (Addr × Value)} {l : List (Value × List Value)} {gw : Nat} {x y z : Value} {T : TypeId} {v : Value} {xs : List Nat} (s : St w W1 ks l) (hb : Below W1.heap.size W1 W) (hg : W1.heap.size ≤ gw) (hz : W.heap[gw]? = some (.cells #[x, y, z] T (0, 0))) (ho : Og eF W1.heap.size W v xs) (hv : v.ownBlock ≠ some gw) (a b : Value) :
    St w (((W.setCell ⟨gw, 0, none⟩ a).setCell ⟨gw, 1, none⟩ b).setCell ⟨gw, 2, none⟩ v) ((⟨gw, 0, none⟩, a) :: (⟨gw, 1, none⟩, b) :: (⟨gw, 2, none⟩, v) :: ks) ((v, xs.map eF) :: l) := by
  have s1 := s.push hb ho
  have hsz := s.bt.size
  have hks : ∀ k ∈ ks, k.1.block ≠ gw := fun k hk e => by
    have := World.block_lt_of_cell? W1 _ (s.cs.mem k hk)
    omega
  have hl : ∀ q ∈ (v, xs.map eF) :: l, q.1.ownBlock ≠ some gw := by
    intro q hq
    rcases List.mem_cons.1 hq with rfl | hq
    · exact hv
    · intro e
      have := ((s.env.get (v := q.1) (c := q.2) hq).blk gw e).2
      omega
  have s2 := ((s1.far ⟨gw, 0, none⟩ a (by show w.heap.size ≤ gw; omega) hks hl).far ⟨gw, 1, none⟩ b (by show w.heap.size ≤ gw; omega) hks hl).far ⟨gw, 2, none⟩ v (by show w.heap.size ≤ gw; omega) hks hl
  have hz3 : (((W.setCell ⟨gw, 0, none⟩ a).setCell ⟨gw, 1, none⟩ b).setCell ⟨gw, 2, none⟩ v).heap[gw]? = some (.cells #[a, b, v] T (0, 0)) :=
    heap_setCell_same _ gw 2 #[a, b, z] T v (heap_setCell_same _ gw 1 #[a, y, z] T b (heap_setCell_same W gw 0 #[x, y, z] T a hz))
  refine ⟨s2.bt, ⟨by rw [cell_of_row _ _ _ _ _ _ hz3]; rfl, by rw [cell_of_row _ _ _ _ _ _ hz3]; rfl, by rw [cell_of_row _ _ _ _ _ _ hz3]; rfl, s2.cs⟩, s2.env, fun k hk p hp => ?_⟩
  rcases List.mem_cons.1 hk with rfl | hk
  · exact hl p hp
  · rcases List.mem_cons.1 hk with rfl | hk
    · exact hl p hp
    · rcases List.mem_cons.1 hk with rfl | hk
      · exact hl p hp
      · exact s2.ke k hk p hp
theorem og_before {B gw : Nat} {W : World} {v : Value} {xs : List Nat} (h : Og eF B W v xs) (hg : gw < B) : v.ownBlock ≠ some gw := fun e => by have := (h.blk gw e).1; omega
theorem og_behind {B gw : Nat} {W : World} {v : Value} {xs : List Nat} (h : Og eF B W v xs) (hg : W.heap.size ≤ gw) : v.ownBlock ≠ some gw := fun e => by have := (h.blk gw e).2; omega
theorem blkS_lt {W : World} {b : Nat} {o : Obj} (h : W.heap[b]? = some o) : b < W.heap.size := (Array.getElem?_eq_some_iff.1 h).1
theorem blkS {W W' : World} (hb : Below W.heap.size W W') {b : Nat} {o : Obj} (h : W.heap[b]? = some o) : W'.heap[b]? = some o := (hb.block b (blkS_lt h)).trans h
theorem alloc_belowS (W : World) (o : Obj) : Below W.heap.size W (W.alloc o) := (Below.refl _ _).alloc (Nat.le_refl _) _
theorem cells3 {W : World} {b : Nat} {x y z : Value} {t : TypeId} (h : W.heap[b]? = some (.cells #[x, y, z] t (0, 0))) :
    W.cell? ⟨b, 0, none⟩ = some x ∧ W.cell? ⟨b, 1, none⟩ = some y ∧ W.cell? ⟨b, 2, none⟩ = some z ∧ W.frozen? ⟨b, 0, none⟩ = false ∧ W.frozen? ⟨b, 1, none⟩ = false ∧ W.frozen? ⟨b, 2, none⟩ = false :=
  ⟨by rw [cell_of_row _ _ _ _ _ _ h]; rfl, by rw [cell_of_row _ _ _ _ _ _ h]; rfl, by rw [cell_of_row _ _ _ _ _ _ h]; rfl, frozen_of_row _ _ _ _ _ h, frozen_of_row _ _ _ _ _ h, frozen_of_row _ _ _ _ _ h⟩
set_option maxHeartbeats 400000 in
theorem szF_any (v : Value) (zs : List Nat) (left : Int) (w : World) (h : Rg eF w v zs) (h0 : 0 ≤ left) (hl : left ≤ 1048576) :
    Calls Try.prog 25 #[v, .int .i64 left] w fun e w' => e = .returned (.int .i64 (if left < zs.length then -1 else left - zs.length)) ∧ w = w' := by
  have hlen := h.len
  obtain ⟨ao, cap, rfl⟩ := h.shape
  by_cases hc : left < zs.length
  · rw [if_pos hc]
    go_enter Try.func25, Try.ntmps25
    go_wp2
    go_ret
    exact ⟨rfl, rfl⟩
  · rw [if_neg hc]
    go_enter Try.func25, Try.ntmps25
    go_wp2
    go_ret
    exact ⟨rfl, rfl⟩
set_option maxHeartbeats 400000 in
theorem szChannel_any (n m : Int) (v : Value) (zs : List Nat) (left : Int) (w : World) (h : Rg eF w v zs) (h0 : 0 ≤ left) (hl : left ≤ 1048576) :
    Calls Try.prog 7 #[.agg #[.int .i64 n, .int .i64 m, v], .int .i64 left] w fun e w' => e = .returned (.int .i64 (if left < zs.length then -1 else left - zs.length)) ∧ Below w.heap.size w w' := by
  have hb : ∀ o, Below w.heap.size w (w.alloc o) := fun o => (Below.refl _ _).alloc (Nat.le_refl _) o
  by_cases hc : left < zs.length
  · rw [if_pos hc]
    have Hc := Lib.hid (if_pos hc : (if left < zs.length then (-1 : Int) else left - zs.length) = -1)
    go_enter Try.func7, Try.ntmps7
    go_wp2_with (go_at_call 25; refine (szF_any v zs left _ (h.below (hb _)) h0 hl).mono ?_; rw [Hc.out]; rintro e w' ⟨rfl, rfl⟩)
    go_ret
    exact ⟨rfl, hb _⟩
  · rw [if_neg hc]
    have Hc := Lib.hid (if_neg hc : (if left < zs.length then (-1 : Int) else left - zs.length) = left - zs.length)
    go_enter Try.func7, Try.ntmps7
    go_wp2_with (go_at_call 25; refine (szF_any v zs left _ (h.below (hb _)) h0 hl).mono ?_; rw [Hc.out]; rintro e w' ⟨rfl, rfl⟩)
    go_ret
    exact ⟨rfl, hb _⟩
set_option maxHeartbeats 1000000 in
theorem toChannel_any (n m : Int) (v : Value) (zs : List Nat) (w : World) (h : Rg eF w v zs) (hl : zs.length ≤ 1048576) :
    Calls Try.prog 9 #[.agg #[.int .i64 n, .int .i64 m, v]] w fun e w' => ∃ v', e = .returned (.agg #[.int .i64 n, .int .i64 m, v']) ∧ Og eF w.heap.size w' v' zs ∧ Below w.heap.size w w' := by
  go_enter Try.func9, Try.ntmps9
  go_wp2_with fail
  refine (toF_any v zs _ (h.below (by go_grown)) hl).mono ?_
  rintro e w1 ⟨v', rfl, ho, hb⟩
  obtain ⟨ao, cap, rfl⟩ := ho.rg.shape
  have c0 : w1.cell? ⟨w.heap.size + 1 + 1, 0, none⟩ = some (.int .i64 n) := (hb.cell (p := ⟨w.heap.size + 1 + 1, 0, none⟩) (by simp)).trans (by simp [go_sem])
  have c1 : w1.cell? ⟨w.heap.size + 1 + 1, 1, none⟩ = some (.int .i64 m) := (hb.cell (p := ⟨w.heap.size + 1 + 1, 1, none⟩) (by simp)).trans (by simp [go_sem])
  have c2 : w1.cell? ⟨w.heap.size + 1 + 1, 2, none⟩ = some (.slice none 0 0) := (hb.cell (p := ⟨w.heap.size + 1 + 1, 2, none⟩) (by simp)).trans (by simp [go_sem])
  have f2 : w1.frozen? ⟨w.heap.size + 1 + 1, 2, none⟩ = false := (hb.frozen (p := ⟨w.heap.size + 1 + 1, 2, none⟩) (by simp)).trans (by simp [go_sem])
  have r0 : w1.cell? ⟨w.heap.size + 1, 0, none⟩ = some (.int .i64 0) := (hb.cell (p := ⟨w.heap.size + 1, 0, none⟩) (by simp)).trans (by simp [go_sem])
  have r1 : w1.cell? ⟨w.heap.size + 1, 1, none⟩ = some (.int .i64 0) := (hb.cell (p := ⟨w.heap.size + 1, 1, none⟩) (by simp)).trans (by simp [go_sem])
  have r2 : w1.cell? ⟨w.heap.size + 1, 2, none⟩ = some (.slice none 0 0) := (hb.cell (p := ⟨w.heap.size + 1, 2, none⟩) (by simp)).trans (by simp [go_sem])
  have q0 : w1.frozen? ⟨w.heap.size + 1, 0, none⟩ = false := (hb.frozen (p := ⟨w.heap.size + 1, 0, none⟩) (by simp)).trans (by simp [go_sem])
  have q1 : w1.frozen? ⟨w.heap.size + 1, 1, none⟩ = false := (hb.frozen (p := ⟨w.heap.size + 1, 1, none⟩) (by simp)).trans (by simp [go_sem])
  have q2 : w1.frozen? ⟨w.heap.size + 1, 2, none⟩ = false := (hb.frozen (p := ⟨w.heap.size + 1, 2, none⟩) (by simp)).trans (by simp [go_sem])
  have hB : Below w.heap.size w w1 := bnext (by go_grown) hb
  simp only [World.size_alloc] at ho
  go_wp2
  refine bodyPost_ret (v := .agg #[.int .i64 n, .int .i64 m, .slice ao zs.length cap]) (by simp [results, Try.results9, go_sem, r0, r1, r2]) rfl ⟨_, rfl, ?_, ?_⟩
  · refine Og.mono (by omega) (Og.set (Og.set (Og.set (Og.set ho _ _ ?_) _ _ ?_) _ _ ?_) _ _ ?_) <;> simp
  · go_grown
set_option maxHeartbeats 400000 in
theorem eqChannel_same (n m : Int) (v v' : Value) (zs : List Nat) (w : World) (h : Rg eF w v zs) (h' : Rg eF w v' zs) :
    Calls Try.prog 13 #[.agg #[.int .i64 n, .int .i64 m, v], .agg #[.int .i64 n, .int .i64 m, v']] w fun e w' => e = .returned (.bool true) ∧ Below w.heap.size w w' := by
  have hb : ∀ o o', Below w.heap.size w ((w.alloc o).alloc o') := fun o o' => by go_grown
  have g := h.below (hb (.cells #[.int .i64 n, .int .i64 m, v] 28) (.cells #[.int .i64 n, .int .i64 m, v'] 28))
  have g' := h'.below (hb (.cells #[.int .i64 n, .int .i64 m, v] 28) (.cells #[.int .i64 n, .int .i64 m, v'] 28))
  obtain ⟨ao, cap, rfl⟩ := h.shape
  obtain ⟨ao', cap', rfl⟩ := h'.shape
  go_enter Try.func13, Try.ntmps13
  go_wp2_with fail
  refine (eqF_same _ _ zs _ g g').mono ?_
  rintro e w' ⟨rfl, hb1⟩
  go_wp2
  go_ret
  exact ⟨rfl, bnext (hb _ _) hb1⟩
set_option maxHeartbeats 400000 in
theorem markChannel_any (n m : Int) (v : Value) (zs : List Nat) (B : Nat) (k0 : Int) (w : World) (h : Og eF B w v zs) (hl : zs.length ≤ 16777216) (h0 : 0 ≤ k0) (hk0 : k0 ≤ 1073741824) :
    Calls Try.prog 14 #[.agg #[.int .i64 n, .int .i64 m, v], .int .i64 k0] w fun e w' => e = .returned (.int .i64 (k0 + zs.length)) ∧ Og eF B w' v (marksF k0 zs.length) ∧ w.grownBy w' v.ownBlock := by
  have hb : ∀ o, Below w.heap.size w (w.alloc o) := fun o => by go_grown
  have g := h.below (hb (.cells #[.int .i64 n, .int .i64 m, v] 28))
  obtain ⟨ao, cap, rfl⟩ := h.rg.shape
  go_enter Try.func14, Try.ntmps14
  go_wp2_with (go_at_call 15; refine (markF_any _ zs B k0 _ g hl h0 hk0).mono ?_; rintro e w1 ⟨rfl, ho, hg⟩)
  go_ret
  exact ⟨rfl, by assumption, grown_trans (World.grownBy_alloc w _ _) (by assumption)⟩
set_option maxHeartbeats 400000 in
theorem heldChannel_same (n m : Int) (v : Value) (j : Nat) (k0 : Int) (w : World) (h : Rg eF w v (marksF k0 j)) (hl : j ≤ 16777216) (h0 : 0 ≤ k0) (hk0 : k0 ≤ 1073741824) :
    Calls Try.prog 19 #[.agg #[.int .i64 n, .int .i64 m, v], .int .i64 k0] w fun e w' => e = .returned (.int .i64 (k0 + j)) ∧ Below w.heap.size w w' := by
  have hb : ∀ o, Below w.heap.size w (w.alloc o) := fun o => by go_grown
  have g := h.below (hb (.cells #[.int .i64 n, .int .i64 m, v] 28))
  obtain ⟨ao, cap, rfl⟩ := h.shape
  go_enter Try.func19, Try.ntmps19
  go_wp2_with (go_at_call 16; refine (heldF_same _ j k0 _ g hl h0 hk0).mono ?_; rintro e w' ⟨rfl, rfl⟩)
  go_ret
  exact ⟨rfl, hb _⟩
section
variable {H : Type} {enc : TypeId × Value → H} {W : World} {base : Nat} {v : Value} {d : DataW H} {p : List MemPlace}
theorem view_Channel (hv : Value.okWide Try.prog W .any base 24 v) (h : DataW.Trod enc Try.prog W 0 (fun _ => true) true 24 v d p) :
    ∃ n m y zs, v = .agg #[.int .i64 n, .int .i64 m, y] ∧ Rg eF W y zs := by
  obtain ⟨v0, v1, v2, y0, y1, y2, m, rfl, rfl, rfl, hy0, hy1, hy2⟩ := Joins.open_agg3 Try.underlying24 (by kernel_rfl) (by kernel_rfl) hv h
  obtain ⟨a, e0, rfl, wa⟩ := DataW.trod_int Try.underlying2 hy0
  obtain ⟨b, e1, rfl, wb⟩ := DataW.trod_int Try.underlying2 hy1
  simp at e0 e1
  subst e0 e1
  obtain ⟨zs, hz⟩ := flts_of hy2
  exact ⟨a, b, v2, zs, rfl, hz⟩
end
end Go.Proofs.Yteejcdfmpmcmlaa
