/- The value of a polynomial over a prime, as the program tells it. Conditions: numbers over the prime. -/
import Derived.Test.YtgkciionmhoofaaPri
import Derived.Test.YtgkciionmhoofaaBack
import Derived.Deep.RegionHeld3
namespace Go.Proofs.Ytgkciionmhoofaa
open Go.RowKit Go.Shelf
set_option maxRecDepth 100000
set_option linter.unusedVariables false
set_option linter.unusedSimpArgs false
attribute [local go_sem] Oper.semAt_some

def horn (p x : Int) (v : Int) (zs : List Int) : Int := zs.foldl (fun v z => (v * x + z) % p) v
theorem horn_snoc (p x v : Int) (zs : List Int) (z : Int) : horn p x v (zs ++ [z]) = (horn p x v zs * x + z) % p := by simp [horn]
theorem horn_rev (p x : Int) (zs : List Int) : horn p x 0 zs.reverse = valF p x zs := by
  induction zs with
  | nil => rfl
  | cons z zs ih => rw [List.reverse_cons, horn_snoc, ih]; rfl
theorem horn_bd {p : Int} (hp : 0 < p) (x : Int) (zs : List Int) : 0 ≤ horn p x 0 zs ∧ horn p x 0 zs < p := by
  have := valF_bd hp x zs.reverse
  rwa [← horn_rev, List.reverse_reverse] at this
set_option maxHeartbeats 4000000 in
theorem valueAt_in (F : Fence) (n : Nat) (hf : F.fn 23) (hf1 : F.fn 40) (hf2 : F.fn 47) (hro : F.round = none) (hn : 3 ≤ n)
    (p x : Int) (hp1 : 7 ≤ p) (hp2 : p ≤ 257) (hx0 : 0 ≤ x) (hx1 : x ≤ 257) (ao : Option Addr) (cap : Nat) (zs : List Int) (hz : ∀ z ∈ zs, 0 ≤ z ∧ z < p) (w : World) (h : RI w (.slice ao zs.length cap) zs) :
    CallsIn F n Try.prog 23 #[.int .i64 p, .slice ao zs.length cap, .int .i64 x] w fun e w' => e = .returned (.int .i64 (valF p x zs)) ∧ Below w.heap.size w w' := by
  have h1 : 1 ≤ n := by omega
  refine callsIn_of_wp_marks Try.func23 rfl hf ?_ hro
  simp only [Try.ntmps23, List.size_toArray, List.length_cons, List.length_nil, Nat.reduceAdd, Nat.reduceSub, Array.replicate_succ, Array.replicate_zero, List.push_toArray, List.append_toArray, List.nil_append, List.cons_append]
  gi_wp2_with (gi_at_call 40; refine (backward_in F (n - 1) hf1 hro _ _ _ _).mono ?_; rintro e w' ⟨rfl, rfl⟩)
  have hlen := h.len
  obtain ⟨_, ao', cap', e0, hcap, hcapm, hcs⟩ := h
  simp only [Value.slice.injEq, true_and] at e0
  obtain ⟨rfl, rfl⟩ := e0
  have bP := (((Boxed.new w 2 (.int .i64 p)).alloc (.cells #[.int .i64 x] 2)).alloc (.cells #[.int .i64 0] 2)).alloc (.cells #[.slice ao zs.length cap] 24)
  have bX := ((Boxed.new (w.alloc (.cells #[.int .i64 p] 2)) 2 (.int .i64 x)).alloc (.cells #[.int .i64 0] 2)).alloc (.cells #[.slice ao zs.length cap] 24)
  have bO := (Boxed.new ((w.alloc (.cells #[.int .i64 p] 2)).alloc (.cells #[.int .i64 x] 2)) 2 (.int .i64 0)).alloc (.cells #[.slice ao zs.length cap] 24)
  have bS := Boxed.new (((w.alloc (.cells #[.int .i64 p] 2)).alloc (.cells #[.int .i64 x] 2)).alloc (.cells #[.int .i64 0] 2)) 24 (.slice ao zs.length cap)
  simp only [World.size_alloc] at bP bX bO bS
  have hBW : Below w.heap.size w ((((w.alloc (.cells #[.int .i64 p] 2)).alloc (.cells #[.int .i64 x] 2)).alloc (.cells #[.int .i64 0] 2)).alloc (.cells #[.slice ao zs.length cap] 24)) := by go_grown
  have hs0 : ((((w.alloc (.cells #[.int .i64 p] 2)).alloc (.cells #[.int .i64 x] 2)).alloc (.cells #[.int .i64 0] 2)).alloc (.cells #[.slice ao zs.length cap] 24)).heap.size = w.heap.size + 4 := by simp
  generalize (((w.alloc (.cells #[.int .i64 p] 2)).alloc (.cells #[.int .i64 x] 2)).alloc (.cells #[.int .i64 0] 2)).alloc (.cells #[.slice ao zs.length cap] 24) = W0 at *
  have hcW : ∀ i (_ : i < zs.length), ∃ b off, ao = some ⟨b, off, none⟩ ∧ b < w.heap.size ∧ W0.cell? ⟨b, off + i, none⟩ = some (.int .i64 zs[i]) := fun i hi => by
    obtain ⟨b, off, e, hc⟩ := hcs i hi
    have hb := World.block_lt_of_cell? w _ hc
    exact ⟨b, off, e, hb, (hBW.cell (p := ⟨b, off + i, none⟩) hb).trans hc⟩
  have Hz := Lib.hid hz
  clear hz hcs
  refine wpIn_rangeFunc_ownF hro h1 (gf := 47) (lb := #[.pointer (some ⟨w.heap.size + 1 + 1 + 1, 0, none⟩)]) rfl hf2 (enters_of Try.func47 (by kernel_rfl) rfl)
    (backward_stops F (n - 1) hf2 hro (by omega) (w.heap.size + 1 + 1 + 1) w.heap.size ao cap (fun z => 0 ≤ z ∧ z < p) zs Hz.out W0 (by omega) (by omega) bS.cell hcap hlen hcW) (fun h k => KpB.trans h k) (KpB.put (w := W0) (by omega) (by omega)) (Below.refl _ _) (fun _ => rfl)
    (fun pre W => (W.cell? ⟨w.heap.size, 0, none⟩ = some (.int .i64 p) ∧ W.cell? ⟨w.heap.size + 1, 0, none⟩ = some (.int .i64 x) ∧ W.cell? ⟨w.heap.size + 1 + 1, 0, none⟩ = some (.int .i64 (horn p x 0 (elV pre))) ∧ W.frozen? ⟨w.heap.size + 1 + 1, 0, none⟩ = false) ∧ Below w.heap.size w W)
    (fun _ _ _ => False)
    (OwnFrom.and (Own.from (fun s A B row hs hg hr => ⟨cell_kept hs.1 hg hr, cell_kept hs.2.1 hg hr, cell_kept hs.2.2.1 hg hr, (frozen_kept hs.2.2.1 hg hr).trans hs.2.2.2⟩) _) (ownFrom_below (Nat.le_refl _) (by omega)))
    (fun _ _ _ _ _ hs _ _ => hs)
    ⟨⟨bP.cell, bX.cell, bO.cell, bO.frozen⟩, hBW⟩
    (fun q => { tmps := #[.int .i64 p, .slice ao zs.length cap, .int .i64 x, .pointer (some ⟨w.heap.size, 0, none⟩), undef, .pointer (some ⟨w.heap.size + 1, 0, none⟩), .int .i64 0, .pointer (some ⟨w.heap.size + 1 + 1, 0, none⟩), undef, .int .i64 q.1.2, .slice ao zs.length cap, .func (.func 47) #[] #[.pointer (some ⟨w.heap.size + 1 + 1 + 1, 0, none⟩)], .int .i64 q.1.1, .int .i64 q.1.2, undef, undef, undef, undef, undef, undef, undef, undef], defers := [] }) ?assign ?body ?done ?stop
  case assign =>
    intro l q W K hK
    gi_wp2
    exact hK
  case body =>
    rintro l pre ⟨⟨i, z⟩, hz0, hz1⟩ W ⟨⟨c0, c1, c2, f2⟩, hB⟩ _
    have hv := horn_bd (show 0 < p by omega) x (elV pre)
    have Hsn := Lib.hid (show horn p x 0 (elV (pre ++ [(⟨(i, z), hz0, hz1⟩ : El fun z => 0 ≤ z ∧ z < p)])) = (horn p x 0 (elV pre) * x + z) % p by rw [elV_snoc, horn_snoc])
    generalize horn p x 0 (elV pre) = u at *
    have hm0 : 0 ≤ u * x := Int.mul_nonneg hv.1 hx0
    have hm1 : u * x ≤ 257 * 257 := Int.mul_le_mul (by omega) hx1 hx0 (by decide)
    gi_wp2
    refine ⟨KeepsOthers.setCell _ _ _, ⟨(Below.refl w.heap.size W).setCell (p := ⟨w.heap.size + 1 + 1, 0, none⟩) (by simp; omega) _, heap_setCell_other _ _ _ _ (by simp)⟩, ⟨?_, ?_, ?_, ?_⟩, hB.setCell (p := ⟨w.heap.size + 1 + 1, 0, none⟩) (by simp; omega) _⟩
    · rw [World.cell?_setCell_far _ _ _ _ (by simp <;> omega)]; exact c0
    · rw [World.cell?_setCell_far _ _ _ _ (by simp <;> omega)]; exact c1
    · rw [Hsn.out]; exact World.cell?_setCell_same' _ _ _ (by rw [c2]; rfl)
    · rw [World.frozen?_setCell]; exact f2
  case done =>
    rintro D ys W hD hys ⟨⟨c0, c1, c2, f2⟩, hB⟩ hK
    have Hys := Lib.hid hys
    clear hys
    gi_wp2
    refine ⟨by simp, .inl ⟨_, _, rfl, run_takeDeferred hK, ?_⟩⟩
    exact ⟨_, results_tmp rfl _ _ _, by rw [Hys.out, horn_rev]; rfl, hB.trans (belowK_b (w := w) (Nat.le_refl _) W D _ _ (by omega) hK rfl rfl)⟩
  case stop =>
    rintro D c pre W _ _ h _
    exact h.elim
theorem valueAt_any (p x : Int) (hp1 : 7 ≤ p) (hp2 : p ≤ 257) (hx0 : 0 ≤ x) (hx1 : x ≤ 257) (v : Value) (zs : List Int) (hz : ∀ z ∈ zs, 0 ≤ z ∧ z < p) (w : World) (h : RI w v zs) :
    Calls Try.prog 23 #[.int .i64 p, v, .int .i64 x] w fun e w' => e = .returned (.int .i64 (valF p x zs)) ∧ Below w.heap.size w w' := by
  obtain ⟨ao, cap, rfl⟩ := h.shape
  exact (callsIn_wide (n := 3)).1 (valueAt_in Fence.wide 3 trivial trivial trivial rfl (by omega) p x hp1 hp2 hx0 hx1 ao cap zs hz w h)
end Go.Proofs.Ytgkciionmhoofaa
