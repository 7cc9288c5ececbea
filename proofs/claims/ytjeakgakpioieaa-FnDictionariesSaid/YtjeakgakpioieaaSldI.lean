/- SlidText: the program. No conditions but that the slice reads. -/
import Derived.Test.YtjeakgakpioieaaSldR
import Derived.Test.YtjeakgakpioieaaChunk
import Derived.Test.YtjeakgakpioieaaPop
import Derived.Test.YtjeakgakpioieaaPopI
import Derived.Deep.DrawnRows
import Derived.Sort.QuietIn
import Derived.Sort.LoopGhostIn
namespace Go.Proofs.Ytjeakgakpioieaa
open Go.RowKit Go.Shelf
set_option maxRecDepth 100000
set_option linter.unusedVariables false
set_option linter.unusedSimpArgs false
attribute [local go_sem] Oper.semAt_some
attribute [local go_sem ↓] Go.wp_at_zero Go.wp_at_succ

theorem keepsOf_below {W W' : World} (hb : Below W.heap.size W W') : KeepsOthers W W' :=
  ⟨hb.size, fun k o hk _ => (hb.block k (blk_lt hk)).trans hk⟩
/-- What a round of SlidText keeps: the list so far in its box, the boxes of the results and of the iterator. -/
structure Sx (s : Nat) (sv : Value) (c : Int) (W wr : World) (out : List Int) (v : Value) : Prop where
  box : Boxed wr (s + 1 + 1 + 1) 25 v
  own : OwnI (s + 1 + 1) wr v out
  r0 : Boxed wr s 25 (.slice none 0 0)
  r1 : Boxed wr (s + 1) 4 (.bool false)
  i0 : Boxed wr (s + 1 + 1 + 1 + 1) 25 sv
  i1 : Boxed wr (s + 1 + 1 + 1 + 1 + 1) 3 (.int .i64 c)
  ko : KeepsOthers W wr
  lo : Below s W wr
section
variable {s : Nat} {sv : Value} {c : Int} {W wr : World} {out : List Int} {v : Value}
theorem Sx.next {w' : World} (h : Sx s sv c W wr out v) (hb : Below wr.heap.size wr w') (hs : s ≤ wr.heap.size) : Sx s sv c W w' out v :=
  ⟨blk_next hb h.box, own_below hb h.own, blk_next hb h.r0, blk_next hb h.r1, blk_next hb h.i0, blk_next hb h.i1, h.ko.trans (keepsOf_below hb), h.lo.trans (hb.mono hs)⟩
theorem Sx.app {w6 : World} {v6 : Value} {news : List Int} {tmp : Obj} (h : Sx s sv c W wr out v) (h6 : OwnI (s + 1 + 1) w6 v6 (out ++ news)) (hg : (wr.alloc tmp).grownBy w6 v.ownBlock) : Sx s sv c W (w6.setCell ⟨s + 1 + 1 + 1, 0, none⟩ v6) (out ++ news) v6 := by
  have hlt := h.box.lt
  obtain ⟨h1, h2, h3, h4, h5⟩ := h.box.appended (by decide) h.own (show s + 1 + 1 ≤ wr.heap.size by omega) (show s + 1 + 1 ≤ s + 1 + 1 + 1 by omega) h6 hg
  have kp : ∀ {B : Nat} {t : TypeId} {u : Value}, Boxed wr B t u → t ≠ 2 → B ≠ s + 1 + 1 + 1 → Boxed (w6.setCell ⟨s + 1 + 1 + 1, 0, none⟩ v6) B t u := fun hb ht hne => ((hb.alloc tmp).kept hg (hb.not_row ht h.own)).other hne v6
  exact ⟨h2, h3, kp h.r0 (by decide) (by omega), kp h.r1 (by decide) (by omega), kp h.i0 (by decide) (by omega), kp h.i1 (by decide) (by omega), h.ko.trans h4, h.lo.trans (h5.mono (by omega))⟩
/-- Refused: both results are set. -/
theorem Sx.no {h : Sx s sv c W wr out v} : KeepsOthers W ((wr.setCell ⟨s, 0, none⟩ (.slice none 0 0)).setCell ⟨s + 1, 0, none⟩ (.bool false)) ∧
    Boxed ((wr.setCell ⟨s, 0, none⟩ (.slice none 0 0)).setCell ⟨s + 1, 0, none⟩ (.bool false)) s 25 (.slice none 0 0) ∧ Boxed ((wr.setCell ⟨s, 0, none⟩ (.slice none 0 0)).setCell ⟨s + 1, 0, none⟩ (.bool false)) (s + 1) 4 (.bool false) ∧
    Below s W ((wr.setCell ⟨s, 0, none⟩ (.slice none 0 0)).setCell ⟨s + 1, 0, none⟩ (.bool false)) :=
  ⟨(h.ko.trans (KeepsOthers.setCell _ _ _)).trans (KeepsOthers.setCell _ _ _), (h.r0.set _).other (by omega) _, (h.r1.other (by omega) _).set _, (h.lo.setCell (p := ⟨s, 0, none⟩) (Nat.le_refl _) _).setCell (p := ⟨s + 1, 0, none⟩) (by show s ≤ s + 1; omega) _⟩
end
theorem sdF_le64 {zs out : List Int} {ks : List Nat} (h : sdF zs ks = some out) : out.length ≤ 64 := by
  cases ks with
  | nil => injection h with h; subst h; simp
  | cons k ks => exact (sdGo_len h).2.1 (by simp)
set_option maxHeartbeats 4000000 in
theorem implSd_in (zs : List Int) (ao : Option Addr) (cap : Nat) (n : Int) (w : World) (h : RI w (.slice ao zs.length cap) zs) (hs : sgn n = true) (hm : zs.length % 3 = 0) :
    CallsIn Fence.wide 3 Try.prog 12 #[.slice ao zs.length cap, .int .i64 n] w fun e w' => ∃ v', e = .returned (.tuple #[v', .bool (sdOk zs n)]) ∧ OI w.heap.size w' v' (sdZ zs n) ∧ Below w.heap.size w w' := by
  have h1 : 1 ≤ 3 := by omega
  have hlen := h.len
  obtain ⟨q, hq⟩ : ∃ q, zs.length = 3 * q := ⟨zs.length / 3, by omega⟩
  have hm3 : ((zs.length : Int).tmod 3 != 0) = false := by
    rw [Int.tmod_eq_emod_of_nonneg (by omega)]; simp; omega
  have hm4 : ((zs.length : Int) % 3 != 0) = false := by simp; omega
  have hok0 : sdOk0 zs n = true := by simp [sdOk0, hs, hm]
  have HO := Lib.hid (show sdO zs n = (sdF zs (List.range q)).bind fun r => if txt r n = true then some r else none by rw [sdO, if_pos hok0, hq, Nat.mul_div_cancel_left _ (by decide)])
  have hcap : zs.length ≤ cap ∧ cap ≤ maxLen := by
    obtain ⟨_, ao', cap', e0, h1, h2, _⟩ := h
    simp only [Value.slice.injEq, true_and] at e0
    obtain ⟨rfl, rfl⟩ := e0
    exact ⟨h1, h2⟩
  obtain ⟨b0, o0, hao, hcs⟩ : ∃ b0 o0, (0 < q → ao = some ⟨b0, o0, none⟩) ∧ ∀ i (_ : i < zs.length), b0 < w.heap.size ∧ w.cell? ⟨b0, o0 + i, none⟩ = some (.int .i64 zs[i]) := by
    by_cases hq0 : 0 < q
    · obtain ⟨b0, o0, e0, -, hcs⟩ := h.2.cells (by omega)
      exact ⟨b0, o0, fun _ => e0, fun i hi => ⟨World.block_lt_of_cell? w _ (hcs i hi), hcs i hi⟩⟩
    · exact ⟨0, 0, fun h0 => absurd h0 hq0, fun i hi => by omega⟩
  have HI := Lib.hid h.1
  have HC := Lib.hid hcs
  have Hq := Lib.hid hq
  clear h hcs hok0 hm hq
  refine callsIn_of_wp_marks Try.func12 rfl trivial ?_ rfl
  simp only [Try.ntmps12, List.size_toArray, List.length_cons, List.length_nil, Nat.reduceAdd, Nat.reduceSub, Array.replicate_succ, Array.replicate_zero, List.push_toArray, List.append_toArray, List.nil_append, List.cons_append]
  gi_wp2_with (refine ⟨trivial, ?_⟩; gi_at_call 24; refine (callsIn_wide.2 (areSigns_any _ _)).mono ?_; rw [hs]; rintro e w1 ⟨rfl, rfl⟩)
  refine ⟨trivial, ?_⟩
  gi_at_call 25
  refine (chunk_in (3 - 1) ao zs.length cap 3 (by decide) _).mono ?_
  rintro e w' ⟨rfl, rfl⟩
  have hx0 : Sx w.heap.size (.slice ao zs.length cap) 3 ((((((w.alloc (.cells #[.slice none 0 0] 25)).alloc (.cells #[.bool false] 4)).alloc (.cells #[] 2)).alloc (.cells #[.slice (some ⟨w.heap.size + 1 + 1, 0, none⟩) 0 0] 25)).alloc (.cells #[.slice ao zs.length cap] 25)).alloc (.cells #[.int .i64 3] 3)) ((((((w.alloc (.cells #[.slice none 0 0] 25)).alloc (.cells #[.bool false] 4)).alloc (.cells #[] 2)).alloc (.cells #[.slice (some ⟨w.heap.size + 1 + 1, 0, none⟩) 0 0] 25)).alloc (.cells #[.slice ao zs.length cap] 25)).alloc (.cells #[.int .i64 3] 3)) [] (.slice (some ⟨w.heap.size + 1 + 1, 0, none⟩) 0 0) := by
    refine ⟨?_, ?_, ?_, ?_, ?_, ?_, KeepsOthers.refl _, Below.refl _ _⟩
    · have := Boxed.new (((w.alloc (.cells #[.slice none 0 0] 25)).alloc (.cells #[.bool false] 4)).alloc (.cells #[] 2)) 25 (.slice (some ⟨w.heap.size + 1 + 1, 0, none⟩) 0 0)
      simp only [World.size_alloc] at this
      exact (this.alloc _).alloc _
    · have := own_empty ((w.alloc (.cells #[.slice none 0 0] 25)).alloc (.cells #[.bool false] 4)) (w.heap.size + 1 + 1) (by simp)
      simp only [World.size_alloc] at this
      exact ((this.alloc _).alloc _).alloc _
    · exact (((((Boxed.new w 25 (.slice none 0 0)).alloc _).alloc _).alloc _).alloc _).alloc _
    · have := Boxed.new (w.alloc (.cells #[.slice none 0 0] 25)) 4 (.bool false)
      rw [World.size_alloc] at this
      exact (((this.alloc _).alloc _).alloc _).alloc _
    · have := Boxed.new ((((w.alloc (.cells #[.slice none 0 0] 25)).alloc (.cells #[.bool false] 4)).alloc (.cells #[] 2)).alloc (.cells #[.slice (some ⟨w.heap.size + 1 + 1, 0, none⟩) 0 0] 25)) 25 (.slice ao zs.length cap)
      simp only [World.size_alloc] at this
      exact this.alloc _
    · have := Boxed.new (((((w.alloc (.cells #[.slice none 0 0] 25)).alloc (.cells #[.bool false] 4)).alloc (.cells #[] 2)).alloc (.cells #[.slice (some ⟨w.heap.size + 1 + 1, 0, none⟩) 0 0] 25)).alloc (.cells #[.slice ao zs.length cap] 25)) 3 (.int .i64 3)
      simp only [World.size_alloc] at this
      exact this
  have hBW : Below w.heap.size w ((((((w.alloc (.cells #[.slice none 0 0] 25)).alloc (.cells #[.bool false] 4)).alloc (.cells #[] 2)).alloc (.cells #[.slice (some ⟨w.heap.size + 1 + 1, 0, none⟩) 0 0] 25)).alloc (.cells #[.slice ao zs.length cap] 25)).alloc (.cells #[.int .i64 3] 3)) := by go_grown
  have hs0 : ((((((w.alloc (.cells #[.slice none 0 0] 25)).alloc (.cells #[.bool false] 4)).alloc (.cells #[] 2)).alloc (.cells #[.slice (some ⟨w.heap.size + 1 + 1, 0, none⟩) 0 0] 25)).alloc (.cells #[.slice ao zs.length cap] 25)).alloc (.cells #[.int .i64 3] 3)).heap.size = w.heap.size + 6 := by simp
  --MARK
  gi_wp2
  generalize hW5 : ((((((w.alloc (.cells #[.slice none 0 0] 25)).alloc (.cells #[.bool false] 4)).alloc (.cells #[] 2)).alloc (.cells #[.slice (some ⟨w.heap.size + 1 + 1, 0, none⟩) 0 0] 25)).alloc (.cells #[.slice ao zs.length cap] 25)).alloc (.cells #[.int .i64 3] 3)) = W5 at *
  clear hW5
  have HZ5 := Lib.hid (show ∀ i (_ : i < zs.length), b0 < w.heap.size ∧ W5.cell? ⟨b0, o0 + i, none⟩ = some (.int .i64 zs[i]) from fun i hi => ⟨(HC.out i hi).1, cnext hBW (HC.out i hi).2⟩)
  refine wpIn_rangeFunc_ownF rfl h1 (gf := 38) (lb := #[.pointer (some ⟨w.heap.size + 1 + 1 + 1 + 1, 0, none⟩), .pointer (some ⟨w.heap.size + 1 + 1 + 1 + 1 + 1, 0, none⟩)]) rfl trivial (enters_of Try.func38 (by kernel_rfl) rfl)
    (chunk_stops (3 - 1) (by omega) (w.heap.size + 1 + 1 + 1 + 1) (w.heap.size + 1 + 1 + 1 + 1 + 1) w.heap.size ao b0 o0 zs.length cap 3 q (by omega) (by omega) Hq.out hcap.1 hcap.2 hao W5 (by omega) (by omega) hx0.i0.cell hx0.i1.cell) (fun h k => Kp2.trans h k) (Kp2.put (w := W5) (by omega) (by omega) (by omega)) (Below.refl _ _) (fun _ => rfl)
    (fun pre W => (((∃ v, Boxed W (w.heap.size + 1 + 1 + 1) 25 v ∧ W.ownsRow (w.heap.size + 1 + 1) 2 1 v ((sdF zs (ckN pre)).getD []).length (((sdF zs (ckN pre)).getD []).map (Value.int .i64)) ∧ (sdF zs (ckN pre)).isSome = true) ∧ Boxed W w.heap.size 25 (.slice none 0 0) ∧ Boxed W (w.heap.size + 1) 4 (.bool false)) ∧ Boxed W (w.heap.size + 1 + 1 + 1 + 1) 25 (.slice ao zs.length cap) ∧ Boxed W (w.heap.size + 1 + 1 + 1 + 1 + 1) 3 (.int .i64 3)) ∧ Below w.heap.size W5 W)
    (fun c pre W => (c = .ret ∧ sdF zs (ckN pre) = none) ∧ (Boxed W w.heap.size 25 (.slice none 0 0) ∧ Boxed W (w.heap.size + 1) 4 (.bool false)) ∧ Below w.heap.size W5 W)
    (OwnFrom.and (OwnFrom.and (OwnFrom.and (Own.from (holdsRow_own (w.heap.size + 1 + 1) (w.heap.size + 1 + 1 + 1) 25 2 1 (fun pre => ((sdF zs (ckN pre)).getD []).length) (fun pre => ((sdF zs (ckN pre)).getD []).map (Value.int .i64)) (fun pre _ => (sdF zs (ckN pre)).isSome = true)) _) (OwnFrom.and (Own.from (boxed_own _ _ (fun _ => _)) _) (Own.from (boxed_own _ _ (fun _ => _)) _))) (OwnFrom.and (Own.from (boxed_own _ _ (fun _ => _)) _) (Own.from (boxed_own _ _ (fun _ => _)) _))) (ownFrom_below (by omega) (by omega)))
    (fun c => OwnFrom.and (ownFrom_pure _ (fun pre => c = .ret ∧ sdF zs (ckN pre) = none)) (OwnFrom.and (OwnFrom.and (Own.from (boxed_own _ _ (fun _ => _)) _) (Own.from (boxed_own _ _ (fun _ => _)) _)) (ownFrom_below (by omega) (by omega))))
    ⟨⟨⟨⟨_, hx0.box, hx0.own, rfl⟩, hx0.r0, hx0.r1⟩, hx0.i0, hx0.i1⟩, Below.refl _ _⟩
    (fun x => { tmps := #[.slice ao zs.length cap, .int .i64 n, undef, undef, .pointer (some ⟨w.heap.size, 0, none⟩), .pointer (some ⟨w.heap.size + 1, 0, none⟩), .pointer (some ⟨w.heap.size + 1 + 1 + 1, 0, none⟩), (.slice (some ⟨b0, o0 + 3 * x.1, none⟩) 3 3), undef, undef, .int .i64 n, .bool true, .bool false, .bool false, .slice ao zs.length cap, .int .i64 zs.length, .int .i64 ((zs.length : Int) % 3), .bool false, .bool false, .slice (some ⟨w.heap.size + 1 + 1, 0, none⟩) 0 0, .slice ao zs.length cap, .func (.func 38) #[] #[.pointer (some ⟨w.heap.size + 1 + 1 + 1 + 1, 0, none⟩), .pointer (some ⟨w.heap.size + 1 + 1 + 1 + 1 + 1, 0, none⟩)], (.slice (some ⟨b0, o0 + 3 * x.1, none⟩) 3 3), undef, undef, undef, undef, undef, undef, undef, undef, undef, undef, undef, undef, undef, undef, undef, undef, undef, undef, undef, undef, undef, undef, undef, undef, undef, undef, undef, undef, undef, undef, undef, undef, undef, undef, undef, undef, undef, undef, undef, undef, undef, undef, undef, undef, undef, undef, undef, undef, undef, undef, undef, undef, undef, undef, undef, undef], defers := [] }) ?assign ?body ?done ?stop
  case assign =>
    intro l x W K hK
    gi_wp2
    exact hK
  case body =>
    rintro l pre ⟨k, hkq⟩ W ⟨⟨⟨⟨v, hv, hrow, hsome⟩, hr0, hr1⟩, hi0, hi1⟩, hB⟩ hpl
    obtain ⟨out, hout⟩ := Option.isSome_iff_exists.1 hsome
    rw [hout] at hrow
    simp only [Option.getD_some] at hrow
    have Hsn := Lib.hid (show sdF zs (ckN (pre ++ [(⟨k, hkq⟩ : Ck q)])) = sdStep zs out k by rw [ckN_snoc, sdF_snoc, hout]; rfl)
    have hl64 := sdF_le64 hout
    obtain ⟨aov, capv, rfl⟩ : ∃ ao cap, v = .slice ao out.length cap := own_shape hrow
    have hx : Sx w.heap.size (.slice ao zs.length cap) 3 W W out (.slice aov out.length capv) := ⟨hv, hrow, hr0, hr1, hi0, hi1, KeepsOthers.refl _, Below.refl _ _⟩
    have hsz : w.heap.size ≤ W.heap.size := by have := hv.lt; omega
    have HI0 := Lib.hid hi0
    have HI1 := Lib.hid hi1
    have hq0 := Hq.out
    have hb0 := (HZ5.out (3 * k) (by omega)).1
    have hb0' := hb0
    have hc0 := (hB.cell (p := ⟨b0, o0 + 3 * k, none⟩) hb0).trans (HZ5.out (3 * k) (by omega)).2
    have hc1 := (hB.cell (p := ⟨b0, o0 + (3 * k + 1), none⟩) hb0).trans (HZ5.out (3 * k + 1) (by omega)).2
    have hc2 := (hB.cell (p := ⟨b0, o0 + (3 * k + 2), none⟩) hb0).trans (HZ5.out (3 * k + 2) (by omega)).2
    rw [← tr_eq0 (by omega)] at hc0
    rw [← tr_eq (by omega)] at hc1 hc2
    rw [← Nat.add_assoc] at hc1 hc2
    obtain ⟨a, ha⟩ : ∃ a, tr zs k 0 = a := ⟨_, rfl⟩
    obtain ⟨b, hb⟩ : ∃ b, tr zs k 1 = b := ⟨_, rfl⟩
    obtain ⟨c, hc⟩ : ∃ c, tr zs k 2 = c := ⟨_, rfl⟩
    have HS := Lib.hid (show sdStep zs out k = if okT out a b = true then (if (cpy b.toNat a.toNat out ++ [c]).length ≤ 64 then some (cpy b.toNat a.toNat out ++ [c]) else none) else none by unfold sdStep; rw [ha, hb, hc])
    rw [ha] at hc0
    rw [hb] at hc1
    rw [hc] at hc2
    have Hc2 := Lib.hid hc2
    clear ha hb hc hq0 hc2 hsome hout hrow hv hr0 hr1 hi0 hi1
    gi_wp2_with fail
    refine wpIn_region_held_tail 8 (S := fun W' => W'.cell? ⟨b0, o0 + 3 * k, none⟩ = some (.int .i64 a) ∧ W'.cell? ⟨b0, o0 + 3 * k + 1, none⟩ = some (.int .i64 b)) (by kernel_rfl) (by kernel_rfl) (by decide +kernel) ?_ (fun hHeld => ?_)
    · (try go_split_ands); refine ⟨?_, ?_⟩ <;> first | assumption | exact cnext (by assumption) (by assumption) | exact bnext (by assumption) (by assumption) | exact Below.alloc (by assumption) (Below.size (by assumption)) _ | (go_keep; done)
    simp only [List.take_succ_cons, List.take_zero, List.drop_succ_cons, List.drop_zero, List.length_cons, List.length_nil, Nat.reduceAdd]
    refine wpAnyH_tk (i := 0) (v := ?_) (some 23) rfl rfl (by kernel_rfl) (by decide +kernel) (by decide +kernel) (fun _ _ _ h => h) (by kernel_rfl) ?_ hHeld ?_
    rotate_left
    · (intro w hSw; (try dsimp only at hSw); go_simp <;> with_reducible rfl)
    (try simp only [Act.put, List.setIfInBounds_toArray, List.set_cons_zero, List.set_cons_succ])
    refine wpAnyH_tk (i := 1) (v := ?_) (some 24) rfl rfl (by kernel_rfl) (by decide +kernel) (by decide +kernel) (fun _ _ _ h => h) (by kernel_rfl) ?_ hHeld ?_
    rotate_left
    · (intro w hSw; (try dsimp only at hSw); go_simp <;> with_reducible rfl)
    (try simp only [Act.put, List.setIfInBounds_toArray, List.set_cons_zero, List.set_cons_succ])
    refine wpAnyH_tk (i := 2) (v := ?_) (some 25) rfl rfl (by kernel_rfl) (by decide +kernel) (by decide +kernel) (fun _ _ _ h => h) (by kernel_rfl) ?_ hHeld ?_
    rotate_left
    · (intro w hSw; (try dsimp only at hSw); go_simp <;> with_reducible rfl)
    (try simp only [Act.put, List.setIfInBounds_toArray, List.set_cons_zero, List.set_cons_succ])
    refine wpAnyH_tk (i := 3) (v := ?_) (some 26) rfl rfl (by kernel_rfl) (by decide +kernel) (by decide +kernel) (fun _ _ _ h => h) (by kernel_rfl) ?_ hHeld ?_
    rotate_left
    · (intro w hSw; (try dsimp only at hSw); go_simp <;> with_reducible rfl)
    (try simp only [Act.put, List.setIfInBounds_toArray, List.set_cons_zero, List.set_cons_succ])
    refine wpAnyH_tk (i := 4) (v := ?_) (some 27) rfl rfl (by kernel_rfl) (by decide +kernel) (by decide +kernel) (fun _ _ _ h => h) (by kernel_rfl) ?_ hHeld ?_
    rotate_left
    · (intro w hSw; (try dsimp only at hSw); go_simp <;> with_reducible rfl)
    (try simp only [Act.put, List.setIfInBounds_toArray, List.set_cons_zero, List.set_cons_succ])
    refine wpAnyH_tk (i := 5) (v := ?_) (some 28) rfl rfl (by kernel_rfl) (by decide +kernel) (by decide +kernel) (fun _ _ _ h => h) (by kernel_rfl) ?_ hHeld ?_
    rotate_left
    · (intro w hSw; (try dsimp only at hSw); go_simp <;> with_reducible rfl)
    (try simp only [Act.put, List.setIfInBounds_toArray, List.set_cons_zero, List.set_cons_succ])
    refine wpAnyH_tk (i := 6) (v := ?_) (some 8) rfl rfl (by kernel_rfl) (by decide +kernel) (by decide +kernel) (fun _ _ _ h => h) (by kernel_rfl) ?_ hHeld ?_
    rotate_left
    · (intro w hSw; (try dsimp only at hSw); go_simp <;> with_reducible rfl)
    (try simp only [Act.put, List.setIfInBounds_toArray, List.set_cons_zero, List.set_cons_succ])
    refine wpAnyH_tk (i := 7) (v := ?_) (some 9) rfl rfl (by kernel_rfl) (by decide +kernel) (by decide +kernel) (fun _ _ _ h => h) (by kernel_rfl) ?_ hHeld ?_
    rotate_left
    · (intro w hSw; (try dsimp only at hSw); go_simp <;> with_reducible rfl)
    (try simp only [Act.put, List.setIfInBounds_toArray, List.set_cons_zero, List.set_cons_succ])
    refine wpAnyH_done (by kernel_rfl) ?_ _
    show wpList _ _ _ _ _ _
    have hx1 : Sx w.heap.size (.slice ao zs.length cap) 3 W W.drew out (.slice aov out.length capv) := hx.next (below_drewN W 1) hsz
    have hsz1 : w.heap.size ≤ W.drew.heap.size := hsz
    clear hHeld hc0 hc1
    generalize W.drew = wr at *
    go_wp2_with fail
    refine NoOut.nrm ?_
    have H64 := Lib.hid hl64
    have hu : ∀ y : Bool, ¬ (some undef = some (Value.bool y)) := fun y h => by cases h
    by_cases hL : inB b 0 64 = true
    · have hLL := inB_eq hL
      simp only [if_true] at hLL
      obtain ⟨ld, rfl⟩ := Int.eq_ofNat_of_zero_le hLL.1
      have hld : ld ≤ 64 := by omega
      by_cases hb0 : ld = 0
      · have e1 : (((ld : Nat) : Int) == 0) = true := by simpa using hb0
        have e3 : ¬ (0 : Int) < ((ld : Nat) : Int) := by omega
        have e4 : decide ((0 : Int) < ((ld : Nat) : Int)) = false := decide_eq_false e3
        by_cases ha0 : a = 0
        · obtain ⟨fd, hfd0⟩ : ∃ fd : Nat, fd = 0 := ⟨0, rfl⟩
          obtain rfl : a = (fd : Int) := by omega
          have e2 : (((fd : Nat) : Int) != 0) = false := by simpa using hfd0
          have hok : okT out (fd : Int) (ld : Int) = true := by unfold okT; rw [hL, if_pos (show ((ld : Nat) : Int) = 0 by omega)]; simpa using hfd0
          have HF1 := Lib.hid (show 0 < ld → 1 ≤ fd by omega)
          have hfo : fd ≤ out.length := by omega
          clear hfd0 hb0 ha0
          have HS2 := Lib.hid (show sdStep zs out k = if (cpy ld fd out ++ [c]).length ≤ 64 then some (cpy ld fd out ++ [c]) else none by rw [HS.out, if_pos hok]; rfl)
          have hb6 := hx1.box.cell
          clear hok
          gi_wp2_with (first | (refine ⟨trivial, ?_⟩; gi_at_call 26; refine (CallsIn.inRound l (callsIn_wide.2 (within_any _ _ _ _))).mono ?_; rintro e w' ⟨rfl, rfl⟩) | (refine ⟨(trivial : Fence.wide.fn _), ?_⟩))
          clear hb6
          gi_loopw [52] (fun j wr => ∃ (jn : Nat) (o' : List Int) (v' : Value), j = .int .i64 jn ∧ jn ≤ ld ∧ cpy (ld - jn) fd o' = cpy ld fd out ∧ o'.length = out.length + jn ∧ Sx w.heap.size (.slice ao zs.length cap) 3 W wr o' v') (fun j _ => ld - (intOf j).toNat)
          case atStart => exact ⟨0, out, _, by first | rfl | go_num, Nat.zero_le _, rfl, rfl, hx1⟩
          case round =>
            clear hx1 hsz1
            obtain ⟨jn, o', v', rfl, hj, hcp, hol, hx1⟩ := hrel
            obtain ⟨ao4, cap4, rfl⟩ : ∃ ao cap, v' = .slice ao o'.length cap := own_shape hx1.own
            have Hcp := Lib.hid hcp
            have Hol := Lib.hid hol
            have hsz1 : w.heap.size ≤ wr.heap.size := by have := hx1.box.lt; omega
            clear hcp
            by_cases hjl : jn < ld
            · have hfd1 := HF1.out (by omega)
              obtain ⟨g4, cap5, e4, -, -, hco, -⟩ := own_at hx1.own (o'.length - fd) (by omega)
              simp only [Value.slice.injEq] at e4
              obtain ⟨rfl, -, rfl⟩ := e4
              have Hcp2 := Lib.hid (show cpy (ld - (jn + 1)) fd (o' ++ [o'[o'.length - fd]]) = cpy ld fd out by
                rw [← Hcp.out, show ld - jn = (ld - (jn + 1)) + 1 by omega, cpy, List.getD_eq_getElem?_getD, List.getElem?_eq_getElem (by omega)]; rfl)
              have hsub : ((o'.length : Nat) : Int) - ((fd : Nat) : Int) = ((o'.length - fd : Nat) : Int) := by omega
              obtain ⟨sb, hsb⟩ : ∃ sb, o'.length - fd = sb := ⟨_, rfl⟩
              have hsl : (sb : Int) < (o'.length : Int) := by omega
              have hsl0 : (0 : Int) ≤ (sb : Int) := by omega
              simp only [hsb] at hco Hcp2 hsub
              generalize o'[sb]'(by omega) = x at hco Hcp2
              have hol128 : o'.length ≤ 128 := by omega
              have hsb128 : sb ≤ 128 := by omega
              have hv1 : IntKind.i64.wrap (sb : Int) = sb := IntWalk.i64_in _ (by omega)
              have hbx := hx1.box.cell
              clear hol hsb
              gi_wp2_with fail
              refine wpIn_region_held_tail 9 (S := fun W' => W'.cell? ⟨w.heap.size + 1 + 1 + 1, 0, none⟩ = some (.slice (some ⟨g4, 0, none⟩) o'.length cap4) ∧ W'.cell? ⟨g4, sb, none⟩ = some (.int .i64 x)) (by kernel_rfl) (by kernel_rfl) (by decide +kernel) ?_ (fun hHeld => ?_)
              · (try go_split_ands); refine ⟨?_, ?_⟩ <;> first | assumption | exact cnext (by assumption) (by assumption) | exact bnext (by assumption) (by assumption) | exact Below.alloc (by assumption) (Below.size (by assumption)) _ | (go_keep; done)
              simp only [List.take_succ_cons, List.take_zero, List.drop_succ_cons, List.drop_zero, List.length_cons, List.length_nil, Nat.reduceAdd]
              refine wpAnyH_tk (i := 0) (v := ?_) (some 54) rfl rfl (by kernel_rfl) (by decide +kernel) (by decide +kernel) (fun _ _ _ h => h) (by kernel_rfl) ?_ hHeld ?_
              rotate_left
              · (intro w hSw; (try dsimp only at hSw); go_simp <;> with_reducible rfl)
              (try simp only [Act.put, List.setIfInBounds_toArray, List.set_cons_zero, List.set_cons_succ])
              refine wpAnyH_tk (i := 1) (v := ?_) (some 55) rfl rfl (by kernel_rfl) (by decide +kernel) (by decide +kernel) (fun _ _ _ h => h) (by kernel_rfl) ?_ hHeld ?_
              rotate_left
              · (intro w hSw; (try dsimp only at hSw); go_simp <;> with_reducible rfl)
              (try simp only [Act.put, List.setIfInBounds_toArray, List.set_cons_zero, List.set_cons_succ])
              refine wpAnyH_tk (i := 2) (v := ?_) (some 56) rfl rfl (by kernel_rfl) (by decide +kernel) (by decide +kernel) (fun _ _ _ h => h) (by kernel_rfl) ?_ hHeld ?_
              rotate_left
              · (intro w hSw; (try dsimp only at hSw); go_simp <;> with_reducible rfl)
              (try simp only [Act.put, List.setIfInBounds_toArray, List.set_cons_zero, List.set_cons_succ])
              refine wpAnyH_tk (i := 3) (v := ?_) (some 57) rfl rfl (by kernel_rfl) (by decide +kernel) (by decide +kernel) (fun _ _ _ h => h) (by kernel_rfl) ?_ hHeld ?_
              rotate_left
              · (intro w hSw; (try dsimp only at hSw); go_simp <;> with_reducible rfl)
              (try simp only [Act.put, List.setIfInBounds_toArray, List.set_cons_zero, List.set_cons_succ])
              refine wpAnyH_tk (i := 4) (v := ?_) (some 58) rfl rfl (by kernel_rfl) (by decide +kernel) (by decide +kernel) (fun _ _ _ h => h) (by kernel_rfl) ?_ hHeld ?_
              rotate_left
              · (intro w hSw; (try dsimp only at hSw); go_simp <;> with_reducible rfl)
              (try simp only [Act.put, List.setIfInBounds_toArray, List.set_cons_zero, List.set_cons_succ])
              refine wpAnyH_tk (i := 5) (v := ?_) (some 59) rfl rfl (by kernel_rfl) (by decide +kernel) (by decide +kernel) (fun _ _ _ h => h) (by kernel_rfl) ?_ hHeld ?_
              rotate_left
              · (intro w hSw; (try dsimp only at hSw); go_simp <;> with_reducible rfl)
              (try simp only [Act.put, List.setIfInBounds_toArray, List.set_cons_zero, List.set_cons_succ])
              refine wpAnyH_tk (i := 6) (v := ?_) (some 60) rfl rfl (by kernel_rfl) (by decide +kernel) (by decide +kernel) (fun _ _ _ h => h) (by kernel_rfl) ?_ hHeld ?_
              rotate_left
              · (intro w hSw; (try dsimp only at hSw); go_simp <;> with_reducible rfl)
              (try simp only [Act.put, List.setIfInBounds_toArray, List.set_cons_zero, List.set_cons_succ])
              refine wpAnyH_tk (i := 7) (v := ?_) (some 61) rfl rfl (by kernel_rfl) (by decide +kernel) (by decide +kernel) (fun _ _ _ h => h) (by kernel_rfl) ?_ hHeld ?_
              rotate_left
              · (intro w hSw; (try dsimp only at hSw); go_simp <;> with_reducible rfl)
              (try simp only [Act.put, List.setIfInBounds_toArray, List.set_cons_zero, List.set_cons_succ])
              refine wpAnyH_ready (rs := [8]) (by kernel_rfl) (by simp) ?_
              refine AllReadyH.cons rfl (fun K hK => ?_) AllReadyH.nil
              go_simp
              refine hK.out _ _ ?_ (fun hHeld => ?_)
              · (try go_split_ands); refine ⟨?_, ?_⟩ <;> first | assumption | exact cnext (by assumption) (by assumption) | exact bnext (by assumption) (by assumption) | exact Below.alloc (by assumption) (Below.size (by assumption)) _ | (go_keep; done)
              clear hK K
              (try simp only [Act.put, List.setIfInBounds_toArray, List.set_cons_zero, List.set_cons_succ])
              refine wpAnyH_done (by kernel_rfl) ?_ _
              show wpList _ _ _ _ _ _
              show wpList _ _ _ _ _ (wr.drew.alloc (.cells #[.int .i64 x] 2))
              clear hHeld hco hbx hv1 hsub
              have hx2 : Sx w.heap.size (.slice ao zs.length cap) 3 W wr.drew o' (.slice (some ⟨g4, 0, none⟩) o'.length cap4) := hx1.next (below_drewN wr 1) hsz1
              have hsz2 : w.heap.size ≤ wr.drew.heap.size := hsz1
              clear hx1 hsz1
              refine app_ints (by rfl) _ _ (by rfl) (w.heap.size + 1 + 1) w.heap.size (by omega) (.slice (some ⟨g4, 0, none⟩) o'.length cap4) o' (by rfl) hx2.own (Below.refl w.heap.size wr.drew) _ _ [x] (by rfl) (by rfl) (by simp; omega) (by have := hx2.box.lt; omega) ?_
              intro v6 w6 hown6 hB6 hg6
              obtain ⟨ao6, cap6, rfl⟩ := hown6.shape
              have hx3 := hx2.app hown6 hg6
              have hb6 : Boxed w6 (w.heap.size + 1 + 1 + 1) 25 (.slice (some ⟨g4, 0, none⟩) o'.length cap4) := (hx2.box.alloc _).kept hg6 (hx2.box.not_row (by decide) hx2.own)
              have hbc := hb6.cell
              have hbf := hb6.frozen
              have Hl6 := Lib.hid (show (o' ++ [x]).length = out.length + (jn + 1) by rw [List.length_append, Hol.out]; rfl)
              have Hx3 := Lib.hid hx3
              clear hx2 hx3 hown6 hB6 hg6 hb6 hsz2
              generalize o' ++ [x] = o2 at *
              go_wp2
              refine NoOut.nrm ?_
              gi_wp2
              go_roundw
              case rel => exact ⟨jn + 1, o2, _, by go_num, by omega, Hcp2.out, Hl6.out, Hx3.out⟩
              case measure => simp [intOf] <;> omega
            · have hjl2 : jn = ld := by omega
              have ho' : o' = cpy ld fd out := by rw [← Hcp.out, hjl2, Nat.sub_self]; rfl
              have Ho' := Lib.hid ho'
              have hlo : o'.length ≤ 128 := by omega
              have HS3 := Lib.hid (show sdStep zs out k = if (o' ++ [c]).length ≤ 64 then some (o' ++ [c]) else none by rw [HS2.out, ← ho'])
              have hc2 := (hx1.lo.cell (p := ⟨b0, o0 + 3 * k + 2, none⟩) hb0').trans Hc2.out
              have hbx := hx1.box.cell
              clear hjl2 ho' hol
              gi_wp2_with fail
              refine wpIn_region_held_tail 5 (S := fun W' => W'.cell? ⟨w.heap.size + 1 + 1 + 1, 0, none⟩ = some (.slice ao4 o'.length cap4) ∧ W'.cell? ⟨b0, o0 + 3 * k + 2, none⟩ = some (.int .i64 c)) (by kernel_rfl) (by kernel_rfl) (by decide +kernel) ?_ (fun hHeld => ?_)
              · (try go_split_ands); refine ⟨?_, ?_⟩ <;> first | assumption | exact cnext (by assumption) (by assumption) | exact bnext (by assumption) (by assumption) | exact Below.alloc (by assumption) (Below.size (by assumption)) _ | (go_keep; done)
              simp only [List.take_succ_cons, List.take_zero, List.drop_succ_cons, List.drop_zero, List.length_cons, List.length_nil, Nat.reduceAdd]
              refine wpAnyH_tk (i := 0) (v := ?_) (some 65) rfl rfl (by kernel_rfl) (by decide +kernel) (by decide +kernel) (fun _ _ _ h => h) (by kernel_rfl) ?_ hHeld ?_
              rotate_left
              · (intro w hSw; (try dsimp only at hSw); go_simp <;> with_reducible rfl)
              (try simp only [Act.put, List.setIfInBounds_toArray, List.set_cons_zero, List.set_cons_succ])
              refine wpAnyH_tk (i := 1) (v := ?_) (some 66) rfl rfl (by kernel_rfl) (by decide +kernel) (by decide +kernel) (fun _ _ _ h => h) (by kernel_rfl) ?_ hHeld ?_
              rotate_left
              · (intro w hSw; (try dsimp only at hSw); go_simp <;> with_reducible rfl)
              (try simp only [Act.put, List.setIfInBounds_toArray, List.set_cons_zero, List.set_cons_succ])
              refine wpAnyH_tk (i := 2) (v := ?_) (some 67) rfl rfl (by kernel_rfl) (by decide +kernel) (by decide +kernel) (fun _ _ _ h => h) (by kernel_rfl) ?_ hHeld ?_
              rotate_left
              · (intro w hSw; (try dsimp only at hSw); go_simp <;> with_reducible rfl)
              (try simp only [Act.put, List.setIfInBounds_toArray, List.set_cons_zero, List.set_cons_succ])
              refine wpAnyH_tk (i := 3) (v := ?_) (some 68) rfl rfl (by kernel_rfl) (by decide +kernel) (by decide +kernel) (fun _ _ _ h => h) (by kernel_rfl) ?_ hHeld ?_
              rotate_left
              · (intro w hSw; (try dsimp only at hSw); go_simp <;> with_reducible rfl)
              (try simp only [Act.put, List.setIfInBounds_toArray, List.set_cons_zero, List.set_cons_succ])
              refine wpAnyH_ready (rs := [4]) (by kernel_rfl) (by simp) ?_
              refine AllReadyH.cons rfl (fun K hK => ?_) AllReadyH.nil
              go_simp
              refine hK.out _ _ ?_ (fun hHeld => ?_)
              · (try go_split_ands); refine ⟨?_, ?_⟩ <;> first | assumption | exact cnext (by assumption) (by assumption) | exact bnext (by assumption) (by assumption) | exact Below.alloc (by assumption) (Below.size (by assumption)) _ | (go_keep; done)
              clear hK K
              (try simp only [Act.put, List.setIfInBounds_toArray, List.set_cons_zero, List.set_cons_succ])
              refine wpAnyH_done (by kernel_rfl) ?_ _
              show wpList _ _ _ _ _ _
              show wpList _ _ _ _ _ (wr.drew.alloc (.cells #[.int .i64 c] 2))
              clear hHeld hc2 hbx
              have hx2 : Sx w.heap.size (.slice ao zs.length cap) 3 W wr.drew o' (.slice ao4 o'.length cap4) := hx1.next (below_drewN wr 1) hsz1
              have hsz2 : w.heap.size ≤ wr.drew.heap.size := hsz1
              clear hx1 hsz1
              refine app_ints (by rfl) _ _ (by rfl) (w.heap.size + 1 + 1) w.heap.size (by omega) (.slice ao4 o'.length cap4) o' (by rfl) hx2.own (Below.refl w.heap.size wr.drew) _ _ [c] (by rfl) (by rfl) (by simp; omega) (by have := hx2.box.lt; omega) ?_
              intro v6 w6 hown6 hB6 hg6
              obtain ⟨ao6, cap6, rfl⟩ := hown6.shape
              have hx3 := hx2.app hown6 hg6
              have hb6 : Boxed w6 (w.heap.size + 1 + 1 + 1) 25 (.slice ao4 o'.length cap4) := (hx2.box.alloc _).kept hg6 (hx2.box.not_row (by decide) hx2.own)
              have hbc := hb6.cell
              have hbf := hb6.frozen
              have hbc2 := hx3.box.cell
              have q0 := hx3.r0.cell
              have q1 := hx3.r0.frozen
              have q2 := hx3.r1.cell
              have q3 := hx3.r1.frozen
              have hno := hx3.no
              have Hno := Lib.hid (And.intro hno (hB.trans hno.2.2.2))
              have Hx3 := Lib.hid hx3
              clear hx2 hx3 hown6 hB6 hg6 hb6 hsz2 hno
              have Hl6 := Lib.hid (show (o' ++ [c]).length = o'.length + 1 by simp)
              by_cases h65 : (o' ++ [c]).length ≤ 64
              · have HS4 := Lib.hid (show sdStep zs out k = some (o' ++ [c]) by rw [HS3.out, if_pos h65])
                generalize o' ++ [c] = o2 at *
                have hnl : ¬ (64 : Int) < (o2.length : Int) := by omega
                have hnl2 : ¬ 64 < o2.length := by omega
                clear q0 q1 q2 q3
                go_wp2
                refine NoOut.nrm ?_
                gi_wp2
                have h3 := Hx3.out
                refine ⟨h3.ko, ⟨h3.lo, (h3.i0 : _ = _).trans HI0.out.symm, (h3.i1 : _ = _).trans HI1.out.symm⟩, ⟨⟨⟨⟨_, h3.box, ?_, ?_⟩, h3.r0, h3.r1⟩, h3.i0, h3.i1⟩, hB.trans h3.lo⟩⟩
                · rw [Hsn.out, HS4.out]; exact h3.own
                · rw [Hsn.out, HS4.out]; rfl
              · have HS4 := Lib.hid (show sdStep zs out k = none by rw [HS3.out, if_neg h65])
                have hnl : (64 : Int) < ((o' ++ [c]).length : Int) := by omega
                have hnl2 : 64 < (o' ++ [c]).length := by omega
                generalize o' ++ [c] = o2 at *
                go_wp2
                refine NoOut.nrm ?_
                gi_wp2
                exact ⟨Hno.out.1.1, ⟨⟨rfl, by rw [Hsn.out]; exact HS4.out⟩, ⟨Hno.out.1.2.1, Hno.out.1.2.2.1⟩, Hno.out.2⟩⟩
        · have e2 : (a != 0) = true := by simpa using ha0
          have HNone : sdStep zs out k = none := by rw [HS.out, if_neg]; unfold okT; rw [if_pos (show ((ld : Nat) : Int) = 0 by omega)]; simp [ha0]
          have hno := hx1.no
          have q0 := hx1.r0.cell
          have q1 := hx1.r0.frozen
          have q2 := hx1.r1.cell
          have q3 := hx1.r1.frozen
          have q4 := hx1.box.cell
          have Hno := Lib.hid (And.intro hno (And.intro HNone (hB.trans hno.2.2.2)))
          clear hno
          gi_wp2_with (first | (refine ⟨trivial, ?_⟩; gi_at_call 26; refine (CallsIn.inRound l (callsIn_wide.2 (within_any _ _ _ _))).mono ?_; rintro e w' ⟨rfl, rfl⟩) | (refine ⟨(trivial : Fence.wide.fn _), ?_⟩))
          exact ⟨Hno.out.1.1, ⟨⟨rfl, by rw [Hsn.out]; exact Hno.out.2.1⟩, ⟨Hno.out.1.2.1, Hno.out.1.2.2.1⟩, Hno.out.2.2⟩⟩
      · have e1 : (((ld : Nat) : Int) == 0) = false := by simpa using hb0
        have e3 : (0 : Int) < ((ld : Nat) : Int) := by omega
        by_cases hA : inB a 1 (out.length : Int) = true
        · have hok : okT out a (ld : Int) = true := by unfold okT; rw [hL, if_neg (show ¬ ((ld : Nat) : Int) = 0 by omega), hA]; rfl
          have hAA := inB_eq hA
          simp only [if_true] at hAA
          obtain ⟨fd, rfl⟩ := Int.eq_ofNat_of_zero_le (show 0 ≤ a by omega)
          have HF1 := Lib.hid (show 0 < ld → 1 ≤ fd by omega)
          have hfo : fd ≤ out.length := by omega
          clear hb0
          have HS2 := Lib.hid (show sdStep zs out k = if (cpy ld fd out ++ [c]).length ≤ 64 then some (cpy ld fd out ++ [c]) else none by rw [HS.out, if_pos hok]; rfl)
          have hb6 := hx1.box.cell
          clear hok
          gi_wp2_with (first | (refine ⟨trivial, ?_⟩; gi_at_call 26; refine (CallsIn.inRound l (callsIn_wide.2 (within_any _ _ _ _))).mono ?_; rintro e w' ⟨rfl, rfl⟩) | (refine ⟨(trivial : Fence.wide.fn _), ?_⟩))
          clear hb6
          gi_loopw [52] (fun j wr => ∃ (jn : Nat) (o' : List Int) (v' : Value), j = .int .i64 jn ∧ jn ≤ ld ∧ cpy (ld - jn) fd o' = cpy ld fd out ∧ o'.length = out.length + jn ∧ Sx w.heap.size (.slice ao zs.length cap) 3 W wr o' v') (fun j _ => ld - (intOf j).toNat)
          case atStart => exact ⟨0, out, _, by first | rfl | go_num, Nat.zero_le _, rfl, rfl, hx1⟩
          case round =>
            clear hx1 hsz1
            obtain ⟨jn, o', v', rfl, hj, hcp, hol, hx1⟩ := hrel
            obtain ⟨ao4, cap4, rfl⟩ : ∃ ao cap, v' = .slice ao o'.length cap := own_shape hx1.own
            have Hcp := Lib.hid hcp
            have Hol := Lib.hid hol
            have hsz1 : w.heap.size ≤ wr.heap.size := by have := hx1.box.lt; omega
            clear hcp
            by_cases hjl : jn < ld
            · have hfd1 := HF1.out (by omega)
              obtain ⟨g4, cap5, e4, -, -, hco, -⟩ := own_at hx1.own (o'.length - fd) (by omega)
              simp only [Value.slice.injEq] at e4
              obtain ⟨rfl, -, rfl⟩ := e4
              have Hcp2 := Lib.hid (show cpy (ld - (jn + 1)) fd (o' ++ [o'[o'.length - fd]]) = cpy ld fd out by
                rw [← Hcp.out, show ld - jn = (ld - (jn + 1)) + 1 by omega, cpy, List.getD_eq_getElem?_getD, List.getElem?_eq_getElem (by omega)]; rfl)
              have hsub : ((o'.length : Nat) : Int) - ((fd : Nat) : Int) = ((o'.length - fd : Nat) : Int) := by omega
              obtain ⟨sb, hsb⟩ : ∃ sb, o'.length - fd = sb := ⟨_, rfl⟩
              have hsl : (sb : Int) < (o'.length : Int) := by omega
              have hsl0 : (0 : Int) ≤ (sb : Int) := by omega
              simp only [hsb] at hco Hcp2 hsub
              generalize o'[sb]'(by omega) = x at hco Hcp2
              have hol128 : o'.length ≤ 128 := by omega
              have hsb128 : sb ≤ 128 := by omega
              have hv1 : IntKind.i64.wrap (sb : Int) = sb := IntWalk.i64_in _ (by omega)
              have hbx := hx1.box.cell
              clear hol hsb
              gi_wp2_with fail
              refine wpIn_region_held_tail 9 (S := fun W' => W'.cell? ⟨w.heap.size + 1 + 1 + 1, 0, none⟩ = some (.slice (some ⟨g4, 0, none⟩) o'.length cap4) ∧ W'.cell? ⟨g4, sb, none⟩ = some (.int .i64 x)) (by kernel_rfl) (by kernel_rfl) (by decide +kernel) ?_ (fun hHeld => ?_)
              · (try go_split_ands); refine ⟨?_, ?_⟩ <;> first | assumption | exact cnext (by assumption) (by assumption) | exact bnext (by assumption) (by assumption) | exact Below.alloc (by assumption) (Below.size (by assumption)) _ | (go_keep; done)
              simp only [List.take_succ_cons, List.take_zero, List.drop_succ_cons, List.drop_zero, List.length_cons, List.length_nil, Nat.reduceAdd]
              refine wpAnyH_tk (i := 0) (v := ?_) (some 54) rfl rfl (by kernel_rfl) (by decide +kernel) (by decide +kernel) (fun _ _ _ h => h) (by kernel_rfl) ?_ hHeld ?_
              rotate_left
              · (intro w hSw; (try dsimp only at hSw); go_simp <;> with_reducible rfl)
              (try simp only [Act.put, List.setIfInBounds_toArray, List.set_cons_zero, List.set_cons_succ])
              refine wpAnyH_tk (i := 1) (v := ?_) (some 55) rfl rfl (by kernel_rfl) (by decide +kernel) (by decide +kernel) (fun _ _ _ h => h) (by kernel_rfl) ?_ hHeld ?_
              rotate_left
              · (intro w hSw; (try dsimp only at hSw); go_simp <;> with_reducible rfl)
              (try simp only [Act.put, List.setIfInBounds_toArray, List.set_cons_zero, List.set_cons_succ])
              refine wpAnyH_tk (i := 2) (v := ?_) (some 56) rfl rfl (by kernel_rfl) (by decide +kernel) (by decide +kernel) (fun _ _ _ h => h) (by kernel_rfl) ?_ hHeld ?_
              rotate_left
              · (intro w hSw; (try dsimp only at hSw); go_simp <;> with_reducible rfl)
              (try simp only [Act.put, List.setIfInBounds_toArray, List.set_cons_zero, List.set_cons_succ])
              refine wpAnyH_tk (i := 3) (v := ?_) (some 57) rfl rfl (by kernel_rfl) (by decide +kernel) (by decide +kernel) (fun _ _ _ h => h) (by kernel_rfl) ?_ hHeld ?_
              rotate_left
              · (intro w hSw; (try dsimp only at hSw); go_simp <;> with_reducible rfl)
              (try simp only [Act.put, List.setIfInBounds_toArray, List.set_cons_zero, List.set_cons_succ])
              refine wpAnyH_tk (i := 4) (v := ?_) (some 58) rfl rfl (by kernel_rfl) (by decide +kernel) (by decide +kernel) (fun _ _ _ h => h) (by kernel_rfl) ?_ hHeld ?_
              rotate_left
              · (intro w hSw; (try dsimp only at hSw); go_simp <;> with_reducible rfl)
              (try simp only [Act.put, List.setIfInBounds_toArray, List.set_cons_zero, List.set_cons_succ])
              refine wpAnyH_tk (i := 5) (v := ?_) (some 59) rfl rfl (by kernel_rfl) (by decide +kernel) (by decide +kernel) (fun _ _ _ h => h) (by kernel_rfl) ?_ hHeld ?_
              rotate_left
              · (intro w hSw; (try dsimp only at hSw); go_simp <;> with_reducible rfl)
              (try simp only [Act.put, List.setIfInBounds_toArray, List.set_cons_zero, List.set_cons_succ])
              refine wpAnyH_tk (i := 6) (v := ?_) (some 60) rfl rfl (by kernel_rfl) (by decide +kernel) (by decide +kernel) (fun _ _ _ h => h) (by kernel_rfl) ?_ hHeld ?_
              rotate_left
              · (intro w hSw; (try dsimp only at hSw); go_simp <;> with_reducible rfl)
              (try simp only [Act.put, List.setIfInBounds_toArray, List.set_cons_zero, List.set_cons_succ])
              refine wpAnyH_tk (i := 7) (v := ?_) (some 61) rfl rfl (by kernel_rfl) (by decide +kernel) (by decide +kernel) (fun _ _ _ h => h) (by kernel_rfl) ?_ hHeld ?_
              rotate_left
              · (intro w hSw; (try dsimp only at hSw); go_simp <;> with_reducible rfl)
              (try simp only [Act.put, List.setIfInBounds_toArray, List.set_cons_zero, List.set_cons_succ])
              refine wpAnyH_ready (rs := [8]) (by kernel_rfl) (by simp) ?_
              refine AllReadyH.cons rfl (fun K hK => ?_) AllReadyH.nil
              go_simp
              refine hK.out _ _ ?_ (fun hHeld => ?_)
              · (try go_split_ands); refine ⟨?_, ?_⟩ <;> first | assumption | exact cnext (by assumption) (by assumption) | exact bnext (by assumption) (by assumption) | exact Below.alloc (by assumption) (Below.size (by assumption)) _ | (go_keep; done)
              clear hK K
              (try simp only [Act.put, List.setIfInBounds_toArray, List.set_cons_zero, List.set_cons_succ])
              refine wpAnyH_done (by kernel_rfl) ?_ _
              show wpList _ _ _ _ _ _
              show wpList _ _ _ _ _ (wr.drew.alloc (.cells #[.int .i64 x] 2))
              clear hHeld hco hbx hv1 hsub
              have hx2 : Sx w.heap.size (.slice ao zs.length cap) 3 W wr.drew o' (.slice (some ⟨g4, 0, none⟩) o'.length cap4) := hx1.next (below_drewN wr 1) hsz1
              have hsz2 : w.heap.size ≤ wr.drew.heap.size := hsz1
              clear hx1 hsz1
              refine app_ints (by rfl) _ _ (by rfl) (w.heap.size + 1 + 1) w.heap.size (by omega) (.slice (some ⟨g4, 0, none⟩) o'.length cap4) o' (by rfl) hx2.own (Below.refl w.heap.size wr.drew) _ _ [x] (by rfl) (by rfl) (by simp; omega) (by have := hx2.box.lt; omega) ?_
              intro v6 w6 hown6 hB6 hg6
              obtain ⟨ao6, cap6, rfl⟩ := hown6.shape
              have hx3 := hx2.app hown6 hg6
              have hb6 : Boxed w6 (w.heap.size + 1 + 1 + 1) 25 (.slice (some ⟨g4, 0, none⟩) o'.length cap4) := (hx2.box.alloc _).kept hg6 (hx2.box.not_row (by decide) hx2.own)
              have hbc := hb6.cell
              have hbf := hb6.frozen
              have Hl6 := Lib.hid (show (o' ++ [x]).length = out.length + (jn + 1) by rw [List.length_append, Hol.out]; rfl)
              have Hx3 := Lib.hid hx3
              clear hx2 hx3 hown6 hB6 hg6 hb6 hsz2
              generalize o' ++ [x] = o2 at *
              go_wp2
              refine NoOut.nrm ?_
              gi_wp2
              go_roundw
              case rel => exact ⟨jn + 1, o2, _, by go_num, by omega, Hcp2.out, Hl6.out, Hx3.out⟩
              case measure => simp [intOf] <;> omega
            · have hjl2 : jn = ld := by omega
              have ho' : o' = cpy ld fd out := by rw [← Hcp.out, hjl2, Nat.sub_self]; rfl
              have Ho' := Lib.hid ho'
              have hlo : o'.length ≤ 128 := by omega
              have HS3 := Lib.hid (show sdStep zs out k = if (o' ++ [c]).length ≤ 64 then some (o' ++ [c]) else none by rw [HS2.out, ← ho'])
              have hc2 := (hx1.lo.cell (p := ⟨b0, o0 + 3 * k + 2, none⟩) hb0').trans Hc2.out
              have hbx := hx1.box.cell
              clear hjl2 ho' hol
              gi_wp2_with fail
              refine wpIn_region_held_tail 5 (S := fun W' => W'.cell? ⟨w.heap.size + 1 + 1 + 1, 0, none⟩ = some (.slice ao4 o'.length cap4) ∧ W'.cell? ⟨b0, o0 + 3 * k + 2, none⟩ = some (.int .i64 c)) (by kernel_rfl) (by kernel_rfl) (by decide +kernel) ?_ (fun hHeld => ?_)
              · (try go_split_ands); refine ⟨?_, ?_⟩ <;> first | assumption | exact cnext (by assumption) (by assumption) | exact bnext (by assumption) (by assumption) | exact Below.alloc (by assumption) (Below.size (by assumption)) _ | (go_keep; done)
              simp only [List.take_succ_cons, List.take_zero, List.drop_succ_cons, List.drop_zero, List.length_cons, List.length_nil, Nat.reduceAdd]
              refine wpAnyH_tk (i := 0) (v := ?_) (some 65) rfl rfl (by kernel_rfl) (by decide +kernel) (by decide +kernel) (fun _ _ _ h => h) (by kernel_rfl) ?_ hHeld ?_
              rotate_left
              · (intro w hSw; (try dsimp only at hSw); go_simp <;> with_reducible rfl)
              (try simp only [Act.put, List.setIfInBounds_toArray, List.set_cons_zero, List.set_cons_succ])
              refine wpAnyH_tk (i := 1) (v := ?_) (some 66) rfl rfl (by kernel_rfl) (by decide +kernel) (by decide +kernel) (fun _ _ _ h => h) (by kernel_rfl) ?_ hHeld ?_
              rotate_left
              · (intro w hSw; (try dsimp only at hSw); go_simp <;> with_reducible rfl)
              (try simp only [Act.put, List.setIfInBounds_toArray, List.set_cons_zero, List.set_cons_succ])
              refine wpAnyH_tk (i := 2) (v := ?_) (some 67) rfl rfl (by kernel_rfl) (by decide +kernel) (by decide +kernel) (fun _ _ _ h => h) (by kernel_rfl) ?_ hHeld ?_
              rotate_left
              · (intro w hSw; (try dsimp only at hSw); go_simp <;> with_reducible rfl)
              (try simp only [Act.put, List.setIfInBounds_toArray, List.set_cons_zero, List.set_cons_succ])
              refine wpAnyH_tk (i := 3) (v := ?_) (some 68) rfl rfl (by kernel_rfl) (by decide +kernel) (by decide +kernel) (fun _ _ _ h => h) (by kernel_rfl) ?_ hHeld ?_
              rotate_left
              · (intro w hSw; (try dsimp only at hSw); go_simp <;> with_reducible rfl)
              (try simp only [Act.put, List.setIfInBounds_toArray, List.set_cons_zero, List.set_cons_succ])
              refine wpAnyH_ready (rs := [4]) (by kernel_rfl) (by simp) ?_
              refine AllReadyH.cons rfl (fun K hK => ?_) AllReadyH.nil
              go_simp
              refine hK.out _ _ ?_ (fun hHeld => ?_)
              · (try go_split_ands); refine ⟨?_, ?_⟩ <;> first | assumption | exact cnext (by assumption) (by assumption) | exact bnext (by assumption) (by assumption) | exact Below.alloc (by assumption) (Below.size (by assumption)) _ | (go_keep; done)
              clear hK K
              (try simp only [Act.put, List.setIfInBounds_toArray, List.set_cons_zero, List.set_cons_succ])
              refine wpAnyH_done (by kernel_rfl) ?_ _
              show wpList _ _ _ _ _ _
              show wpList _ _ _ _ _ (wr.drew.alloc (.cells #[.int .i64 c] 2))
              clear hHeld hc2 hbx
              have hx2 : Sx w.heap.size (.slice ao zs.length cap) 3 W wr.drew o' (.slice ao4 o'.length cap4) := hx1.next (below_drewN wr 1) hsz1
              have hsz2 : w.heap.size ≤ wr.drew.heap.size := hsz1
              clear hx1 hsz1
              refine app_ints (by rfl) _ _ (by rfl) (w.heap.size + 1 + 1) w.heap.size (by omega) (.slice ao4 o'.length cap4) o' (by rfl) hx2.own (Below.refl w.heap.size wr.drew) _ _ [c] (by rfl) (by rfl) (by simp; omega) (by have := hx2.box.lt; omega) ?_
              intro v6 w6 hown6 hB6 hg6
              obtain ⟨ao6, cap6, rfl⟩ := hown6.shape
              have hx3 := hx2.app hown6 hg6
              have hb6 : Boxed w6 (w.heap.size + 1 + 1 + 1) 25 (.slice ao4 o'.length cap4) := (hx2.box.alloc _).kept hg6 (hx2.box.not_row (by decide) hx2.own)
              have hbc := hb6.cell
              have hbf := hb6.frozen
              have hbc2 := hx3.box.cell
              have q0 := hx3.r0.cell
              have q1 := hx3.r0.frozen
              have q2 := hx3.r1.cell
              have q3 := hx3.r1.frozen
              have hno := hx3.no
              have Hno := Lib.hid (And.intro hno (hB.trans hno.2.2.2))
              have Hx3 := Lib.hid hx3
              clear hx2 hx3 hown6 hB6 hg6 hb6 hsz2 hno
              have Hl6 := Lib.hid (show (o' ++ [c]).length = o'.length + 1 by simp)
              by_cases h65 : (o' ++ [c]).length ≤ 64
              · have HS4 := Lib.hid (show sdStep zs out k = some (o' ++ [c]) by rw [HS3.out, if_pos h65])
                generalize o' ++ [c] = o2 at *
                have hnl : ¬ (64 : Int) < (o2.length : Int) := by omega
                have hnl2 : ¬ 64 < o2.length := by omega
                clear q0 q1 q2 q3
                go_wp2
                refine NoOut.nrm ?_
                gi_wp2
                have h3 := Hx3.out
                refine ⟨h3.ko, ⟨h3.lo, (h3.i0 : _ = _).trans HI0.out.symm, (h3.i1 : _ = _).trans HI1.out.symm⟩, ⟨⟨⟨⟨_, h3.box, ?_, ?_⟩, h3.r0, h3.r1⟩, h3.i0, h3.i1⟩, hB.trans h3.lo⟩⟩
                · rw [Hsn.out, HS4.out]; exact h3.own
                · rw [Hsn.out, HS4.out]; rfl
              · have HS4 := Lib.hid (show sdStep zs out k = none by rw [HS3.out, if_neg h65])
                have hnl : (64 : Int) < ((o' ++ [c]).length : Int) := by omega
                have hnl2 : 64 < (o' ++ [c]).length := by omega
                generalize o' ++ [c] = o2 at *
                go_wp2
                refine NoOut.nrm ?_
                gi_wp2
                exact ⟨Hno.out.1.1, ⟨⟨rfl, by rw [Hsn.out]; exact HS4.out⟩, ⟨Hno.out.1.2.1, Hno.out.1.2.2.1⟩, Hno.out.2⟩⟩
        · have hA : inB a 1 (out.length : Int) = false := by simpa using hA
          have HNone : sdStep zs out k = none := by rw [HS.out, if_neg]; unfold okT; rw [hL, if_neg (show ¬ ((ld : Nat) : Int) = 0 by omega), hA]; simp
          have hno := hx1.no
          have q0 := hx1.r0.cell
          have q1 := hx1.r0.frozen
          have q2 := hx1.r1.cell
          have q3 := hx1.r1.frozen
          have q4 := hx1.box.cell
          have Hno := Lib.hid (And.intro hno (And.intro HNone (hB.trans hno.2.2.2)))
          clear hno
          gi_wp2_with (first | (refine ⟨trivial, ?_⟩; gi_at_call 26; refine (CallsIn.inRound l (callsIn_wide.2 (within_any _ _ _ _))).mono ?_; rintro e w' ⟨rfl, rfl⟩) | (refine ⟨(trivial : Fence.wide.fn _), ?_⟩))
          exact ⟨Hno.out.1.1, ⟨⟨rfl, by rw [Hsn.out]; exact Hno.out.2.1⟩, ⟨Hno.out.1.2.1, Hno.out.1.2.2.1⟩, Hno.out.2.2⟩⟩
    · have hL : inB b 0 64 = false := by simpa using hL
      have HNone : sdStep zs out k = none := by rw [HS.out, if_neg]; unfold okT; rw [hL]; simp
      have hno := hx1.no
      have q0 := hx1.r0.cell
      have q1 := hx1.r0.frozen
      have q2 := hx1.r1.cell
      have q3 := hx1.r1.frozen
      have q4 := hx1.box.cell
      have Hno := Lib.hid (And.intro hno (And.intro HNone (hB.trans hno.2.2.2)))
      clear hno
      gi_wp2_with (first | (refine ⟨trivial, ?_⟩; gi_at_call 26; refine (CallsIn.inRound l (callsIn_wide.2 (within_any _ _ _ _))).mono ?_; rintro e w' ⟨rfl, rfl⟩) | (refine ⟨(trivial : Fence.wide.fn _), ?_⟩))
      exact ⟨Hno.out.1.1, ⟨⟨rfl, by rw [Hsn.out]; exact Hno.out.2.1⟩, ⟨Hno.out.1.2.1, Hno.out.1.2.2.1⟩, Hno.out.2.2⟩⟩
  case done =>
    rintro D ys W hD hys ⟨⟨⟨⟨v, hv, hrow, hsome⟩, hr0, hr1⟩, -, -⟩, hB⟩ hK
    rw [hys] at hrow hsome
    obtain ⟨out, hout⟩ := Option.isSome_iff_exists.1 hsome
    rw [hout] at hrow
    simp only [Option.getD_some] at hrow
    obtain ⟨aov, capv, rfl⟩ : ∃ ao cap, v = .slice ao out.length cap := own_shape hrow
    have hown : OwnI (w.heap.size + 1 + 1) W (.slice aov out.length capv) out := hrow
    have hi64 := sdGo_i64 HI.out (fun x hx => by cases hx) hout
    have hri := (hown.oi hi64).ri
    have hvc := hv.cell
    have q0 := hr0.cell
    have q1 := hr0.frozen
    have q2 := hr1.cell
    have q3 := hr1.frozen
    have HO2 := Lib.hid (show sdO zs n = if txt out n = true then some out else none by rw [HO.out, hout]; rfl)
    have hBw := hBW.trans hB
    have hne0 : w.heap.size ≠ D := by omega
    have hne1 : w.heap.size + 1 ≠ D := by omega
    clear hsome hrow hys hout
    by_cases hx : txt out n = true
    · have HZ := Lib.hid (sd_some (HO2.out.trans (if_pos hx)))
      have hown2 := (hown.set ⟨w.heap.size, 0, none⟩ (.slice aov out.length capv) (by show w.heap.size < _; omega)).set ⟨w.heap.size + 1, 0, none⟩ (.bool true) (by show w.heap.size + 1 < _; omega)
      have hK2 := ((KeepsOthers.setCell W ⟨w.heap.size, 0, none⟩ (.slice aov out.length capv)).trans (KeepsOthers.setCell _ ⟨w.heap.size + 1, 0, none⟩ (.bool true))).same D _ hK rfl
      have b0' := (hr0.set (.slice aov out.length capv)).other (B' := w.heap.size + 1) (by omega) (.bool true)
      have b1' := (hr1.other (B' := w.heap.size) (by omega) (.slice aov out.length capv)).set (.bool true)
      have hBl := (hBw.setCell (p := ⟨w.heap.size, 0, none⟩) (Nat.le_refl _) (.slice aov out.length capv)).setCell (p := ⟨w.heap.size + 1, 0, none⟩) (by show w.heap.size ≤ w.heap.size + 1; omega) (.bool true)
      have Hall := Lib.hid (And.intro hown2 (And.intro hi64 (And.intro hK2 (And.intro b0' (And.intro b1' hBl)))))
      clear hown2 hK2 b0' b1' hBl hown hi64 hK hBw hB hv hr0 hr1
      gi_wp2_with (refine ⟨trivial, ?_⟩; gi_at_call 20; refine (callsIn_wide.2 (isText_any _ out _ _ hri)).mono ?_; rw [hx]; rintro e w1 ⟨rfl, rfl⟩)
      obtain ⟨hown2, hi64, hK2, b0', b1', hBl⟩ := Hall.out
      refine ⟨by simp, .inl ⟨_, _, rfl, run_takeDeferred hK2, ?_⟩⟩
      have c0 := (Boxed.kept b0' (grownBy_putObj' _ D (.deferred none)) (fun e => hne0 (by cases e; rfl))).cell
      have c1 := (Boxed.kept b1' (grownBy_putObj' _ D (.deferred none)) (fun e => hne1 (by cases e; rfl))).cell
      have hrf : OwnI _ _ _ out := ownsRow_putObj hown2 (.deferred none) hK2 rfl
      exact ⟨.tuple #[.slice aov out.length capv, .bool true], by simp [results, Try.results12, go_sem, c0, c1], ⟨_, by rw [HZ.out.2], by rw [HZ.out.1]; exact (hrf.oi hi64).mono (by omega), hBl.trans (belowK_b (w := w) (Nat.le_refl _) _ D _ _ (by omega) hK2 rfl rfl)⟩⟩
    · have hx : txt out n = false := by simpa using hx
      have HZ := Lib.hid (sd_none (HO2.out.trans (if_neg (by rw [hx]; decide))))
      have hK2 := ((KeepsOthers.setCell W ⟨w.heap.size, 0, none⟩ (.slice none 0 0)).trans (KeepsOthers.setCell _ ⟨w.heap.size + 1, 0, none⟩ (.bool false))).same D _ hK rfl
      have b0' := (hr0.set (.slice none 0 0)).other (B' := w.heap.size + 1) (by omega) (.bool false)
      have b1' := (hr1.other (B' := w.heap.size) (by omega) (.slice none 0 0)).set (.bool false)
      have hBl := (hBw.setCell (p := ⟨w.heap.size, 0, none⟩) (Nat.le_refl _) (.slice none 0 0)).setCell (p := ⟨w.heap.size + 1, 0, none⟩) (by show w.heap.size ≤ w.heap.size + 1; omega) (.bool false)
      have Hall := Lib.hid (And.intro hK2 (And.intro b0' (And.intro b1' hBl)))
      clear hK2 b0' b1' hBl hown hi64 hK hBw hB hv hr0 hr1
      gi_wp2_with (refine ⟨trivial, ?_⟩; gi_at_call 20; refine (callsIn_wide.2 (isText_any _ out _ _ hri)).mono ?_; rw [hx]; rintro e w1 ⟨rfl, rfl⟩)
      obtain ⟨hK2, b0', b1', hBl⟩ := Hall.out
      refine ⟨by simp, .inl ⟨_, _, rfl, run_takeDeferred hK2, ?_⟩⟩
      have c0 := (Boxed.kept b0' (grownBy_putObj' _ D (.deferred none)) (fun e => hne0 (by cases e; rfl))).cell
      have c1 := (Boxed.kept b1' (grownBy_putObj' _ D (.deferred none)) (fun e => hne1 (by cases e; rfl))).cell
      exact ⟨.tuple #[.slice none 0 0, .bool false], by simp [results, Try.results12, go_sem, c0, c1], ⟨_, by rw [HZ.out.2], by rw [HZ.out.1]; exact OI.nil _ _, hBl.trans (belowK_b (w := w) (Nat.le_refl _) _ D _ _ (by omega) hK2 rfl rfl)⟩⟩
  case stop =>
    rintro D c pre W hD ⟨k, hk⟩ ⟨⟨rfl, hno⟩, ⟨hr0, hr1⟩, hB⟩ hK
    have hkq : k ≤ q := by
      refine Classical.byContradiction fun hn => ?_
      have hm : q ∈ ckN pre := by rw [hk]; exact List.mem_range.2 (by omega)
      obtain ⟨x, -, hx⟩ := List.mem_map.1 hm
      have := x.2
      omega
    have HZ := Lib.hid (sd_none (show sdO zs n = none by rw [HO.out, sdF_none_le hkq (by rw [← hk]; exact hno)]; rfl))
    have hne0 : w.heap.size ≠ D := by omega
    have hne1 : w.heap.size + 1 ≠ D := by omega
    have hBl := hBW.trans hB
    have Hall := Lib.hid (And.intro hK (And.intro hr0 (And.intro hr1 hBl)))
    clear hno hk hBl hK hr0 hr1 hB
    gi_wp2
    obtain ⟨hK2, b0', b1', hBl⟩ := Hall.out
    refine ⟨by simp, .inl ⟨_, _, rfl, run_takeDeferred hK2, ?_⟩⟩
    have c0 := (Boxed.kept b0' (grownBy_putObj' _ D (.deferred none)) (fun e => hne0 (by cases e; rfl))).cell
    have c1 := (Boxed.kept b1' (grownBy_putObj' _ D (.deferred none)) (fun e => hne1 (by cases e; rfl))).cell
    exact ⟨.tuple #[.slice none 0 0, .bool false], by simp [results, Try.results12, go_sem, c0, c1], ⟨_, by rw [HZ.out.2], by rw [HZ.out.1]; exact OI.nil _ _, hBl.trans (belowK_b (w := w) (Nat.le_refl _) _ D _ _ (by omega) hK2 rfl rfl)⟩⟩

set_option maxHeartbeats 1000000 in
theorem implSd_any (v : Value) (zs : List Int) (n : Int) (w : World) (h : RI w v zs) :
    Calls Try.prog 12 #[v, .int .i64 n] w fun e w' => ∃ v', e = .returned (.tuple #[v', .bool (sdOk zs n)]) ∧ OI w.heap.size w' v' (sdZ zs n) ∧ Below w.heap.size w w' := by
  obtain ⟨ao, cap, rfl⟩ := h.shape
  have hlen := h.len
  by_cases hs : sgn n = true
  · by_cases hm : zs.length % 3 = 0
    · exact (callsIn_wide (n := 3)).1 (implSd_in zs ao cap n w h hs hm)
    · have hm3 : ((zs.length : Int).tmod 3 != 0) = true := by
        rw [Int.tmod_eq_emod_of_nonneg (by omega)]; simp; omega
      have hm4 : ((zs.length : Int) % 3 != 0) = true := by simp; omega
      have HNo := Lib.hid (sd_none (zs := zs) (n := n) (by unfold sdO; rw [if_neg]; simp [sdOk0, hm]))
      clear hm
      go_enter Try.func12, Try.ntmps12
      go_wp2_with (go_at_call 24; refine (areSigns_any _ _).mono ?_; rw [hs]; rintro e w' ⟨rfl, rfl⟩)
      exact bodyPost_ret (v := .tuple #[.slice none 0 0, .bool false]) (by simp [results, Try.results12, go_sem]) rfl ⟨_, by rw [HNo.out.2], by rw [HNo.out.1]; exact OI.nil _ _, by go_grown⟩
  · have hs : sgn n = false := by simpa using hs
    have HNo := Lib.hid (sd_none (zs := zs) (n := n) (by unfold sdO; rw [if_neg]; simp [sdOk0, hs]))
    go_enter Try.func12, Try.ntmps12
    go_wp2_with (go_at_call 24; refine (areSigns_any _ _).mono ?_; rw [hs]; rintro e w' ⟨rfl, rfl⟩)
    exact bodyPost_ret (v := .tuple #[.slice none 0 0, .bool false]) (by simp [results, Try.results12, go_sem]) rfl ⟨_, by rw [HNo.out.2], by rw [HNo.out.1]; exact OI.nil _ _, by go_grown⟩
end Go.Proofs.Ytjeakgakpioieaa
