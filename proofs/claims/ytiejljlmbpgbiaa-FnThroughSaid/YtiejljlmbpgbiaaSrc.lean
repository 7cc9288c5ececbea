/- What the statements draw their inputs from: bytes, and numbers chosen by them. No conditions but that the slices read. -/
import Derived.Test.YtiejljlmbpgbiaaMem
import Derived.Test.YtiejljlmbpgbiaaKpt
import Derived.Test.YtiejljlmbpgbiaaFrame
import Derived.Handy
namespace Go.Proofs.Ytiejljlmbpgbiaa
open Go.RowKit Go.ChangeShapes Go.WideShapes Go.ChangeAt
set_option maxRecDepth 100000
set_option linter.unusedVariables false
set_option linter.unusedSimpArgs false

theorem below_of_drew {w w' : World} {m : Nat} (h : w' = w.drewN m) : Below w.heap.size w w' := by subst h; exact below_drewN w m
/-- The slice v reads as bytes. -/
def RB (w : World) (v : Value) (bs : List Int) : Prop := (∀ b ∈ bs, 0 ≤ b ∧ b < 256) ∧ Rg (Value.int .u8) w v bs
theorem RB.below {w w' : World} {v : Value} {bs : List Int} (hb : Below w.heap.size w w') (h : RB w v bs) : RB w' v bs := ⟨h.1, h.2.below hb⟩
theorem RB.len {w : World} {v : Value} {bs : List Int} (h : RB w v bs) : bs.length ≤ 9223372036854775807 := h.2.len
theorem RB.shape {w : World} {v : Value} {bs : List Int} (h : RB w v bs) : ∃ ao cap, v = .slice ao bs.length cap := h.2.shape
section
variable {H : Type} {enc : TypeId × Value → H} {W : World} {base : Nat} {v : Value} {d : DataW H} {p : List MemPlace}
theorem view_bytes (hv : Value.okWide Try.prog W .any base 22 v) (h : DataW.Trod enc Try.prog W 0 (fun _ => true) true 22 v d p) : ∃ bs, RB W v bs := by
  obtain ⟨a, len, cap, rfl⟩ := okWide_slice Try.underlying22 hv
  obtain ⟨fuel, hf⟩ := h
  rcases open_ints Try.underlying22 Try.underlying5 (by kernel_rfl) hf with ⟨hcs, _⟩ | ⟨x, l, c, zs, hcs, _, hl, hm, hz, _, hcell, hwz⟩
  · simp [Value.cells] at hcs
    obtain ⟨rfl, rfl, rfl⟩ := hcs
    exact ⟨[], (by intro z hz; cases hz), none, 0, rfl, by simp, by unfold maxLen; omega, fun i hi => by simp at hi⟩
  · simp [Value.cells] at hcs
    obtain ⟨rfl, rfl, rfl⟩ := hcs
    simp only [if_true] at hz
    have hlen : (zs.take len).length = len := by simp; omega
    refine ⟨zs.take len, fun z hz' => ?_, some x, cap, by rw [hlen], by rw [hlen]; exact hl, hm, fun i hi => ?_⟩
    · have := hwz z (List.mem_of_mem_take hz')
      simp only [Lit.wf, IntKind.min, IntKind.max, IntKind.signed, IntKind.bits, Bool.and_eq_true, decide_eq_true_eq] at this
      simp at this
      omega
    · have hi' : i < zs.length := by rw [hlen] at hi; omega
      have hc := hcell i hi'
      obtain ⟨b, off, spot⟩ := x
      have hspot : spot = none := by simpa [Addr.add] using World.cell?_spot (hcell 0 (by omega))
      subst hspot
      refine ⟨b, off, rfl, ?_⟩
      rw [Addr.add_lit] at hc
      rw [hc]; simp [hi']
end
/-- A source of choices: its bytes, how far it has read, its seed. -/
def SrcAt (w : World) (B : Nat) (v : Value) (at' : Nat) (seed : Int) : Prop := w.heap[B]? = some (.cells #[v, .int .i64 at', .int .u64 seed] 69 (0, 0)) ∧ 0 ≤ seed ∧ seed < 18446744073709551616
def Drw (P : Int → Prop) (N : Nat) (w : World) (B : Nat) (v : Value) (at0 : Nat) (e : Ending) (w' : World) : Prop := ∃ x at' seed, P x ∧ e = .returned (.int .i64 x) ∧ SrcAt w' B v at' seed ∧ at' ≤ at0 + N ∧ w.grownBy w' (some B)
theorem and255 (x : Int) : 0 ≤ bits .and .u64 x 255 ∧ bits .and .u64 x 255 ≤ 255 := by
  have h : bits .and .u64 x 255 = IntKind.u64.wrap ((BitVec.ofInt 64 x &&& BitVec.ofInt 64 255).toNat : Int) := rfl
  rw [h, BitVec.toNat_and, show (BitVec.ofInt 64 255).toNat = 255 from by decide, IntKind.wrap_u64]
  have := Nat.and_le_right (n := (BitVec.ofInt 64 x).toNat) (m := 255)
  omega
theorem and255w (x : Int) : 0 ≤ wrap64 (bits .and .u64 x 255) ∧ wrap64 (bits .and .u64 x 255) < 256 := by
  have h := and255 x
  have h1 : IntKind.i64.wrap (bits .and .u64 x 255) = bits .and .u64 x 255 := IntWalk.i64_in _ (by omega)
  rw [← IntWalk.i64_left, h1]; omega
theorem u64_in (x : Int) : 0 ≤ IntKind.u64.wrap x ∧ IntKind.u64.wrap x < 18446744073709551616 := by rw [IntKind.wrap_u64]; omega
theorem src_put {W : World} {B : Nat} {v a s : Value} (h : W.heap[B]? = some (.cells #[v, a, s] 69 (0, 0))) (a' s' : Value) :
    ((W.setCell ⟨B, 1, none⟩ a').setCell ⟨B, 2, none⟩ s').heap[B]? = some (.cells #[v, a', s'] 69 (0, 0)) ∧ W.grownBy ((W.setCell ⟨B, 1, none⟩ a').setCell ⟨B, 2, none⟩ s') (some B) := by
  have h1 : (W.setCell ⟨B, 1, none⟩ a').heap[B]? = some (.cells #[v, a', s] 69 (0, 0)) := heap_setCell_same W B 1 #[v, a, s] _ a' h
  exact ⟨heap_setCell_same _ B 2 #[v, a', s] _ s' h1, grown_trans (grown_setCell W ⟨B, 1, none⟩ a') (grown_setCell _ ⟨B, 2, none⟩ s')⟩
theorem Drw.of {P : Int → Prop} {w : World} {B : Nat} {v : Value} {at0 : Nat} {e : Ending} {W w' : World} {s x : Int} {a0 s0 : Value} (hP : P x) (he : e = .returned (.int .i64 x)) (n : Nat) (hW : W = w.drewN n) (h : w.heap[B]? = some (.cells #[v, a0, s0] 69 (0, 0))) (hs : 0 ≤ s ∧ s < 18446744073709551616) (m : Nat)
    (hw : w' = ((W.setCell ⟨B, 1, none⟩ (.int .i64 ((at0 : Int) + 1))).setCell ⟨B, 2, none⟩ (.int .u64 s)).drewN m) : Drw P 1 w B v at0 e w' := by
  rw [show ((at0 : Int) + 1) = ((at0 + 1 : Nat) : Int) by omega] at hw
  subst hW hw
  have h1 := src_put (W := w.drewN n) h (.int .i64 ((at0 + 1 : Nat) : Int)) (.int .u64 s)
  exact ⟨x, at0 + 1, s, hP, he, ⟨h1.1, hs⟩, Nat.le_refl _, ⟨h1.2.os, h1.2.tape, h1.2.output, h1.2.size, h1.2.block⟩⟩
theorem ne_blk {B : Nat} {v : Value} (h : ∀ k, v.ownBlock = some k → B + 1 ≤ k) : v.ownBlock = none ∨ v.ownBlock ≠ some B := by
  cases hv : v.ownBlock with
  | none => exact .inl rfl
  | some k => right; intro e; have := h k hv; simp at e; omega
theorem src_kept {w w' : World} {B at' : Nat} {v v2 : Value} {seed : Int} {ob : Obj} (h : SrcAt w B v at' seed) (hg : (w.alloc ob).grownBy w' v2.ownBlock) (hne : ∀ k, v2.ownBlock = some k → B + 1 ≤ k) : SrcAt w' B v at' seed :=
  ⟨blk_grown hg (fun e => by have := hne B e.symm; omega) (blk_alloc h.1), h.2⟩
set_option maxHeartbeats 2000000 in
theorem next_any (B : Nat) (v : Value) (bs : List Int) (at' : Nat) (seed : Int) (w : World) (h : RB w v bs) (hs : SrcAt w B v at' seed) (ha : at' ≤ 1099511627776) (hl : bs.length ≤ 1099511627776) :
    Calls Try.prog 68 #[.pointer (some ⟨B, 0, none⟩)] w (Drw (fun b => 0 ≤ b ∧ b < 256) 1 w B v at') := by
  obtain ⟨ao, cap, rfl⟩ := h.shape
  obtain ⟨hB, hs0, hs1⟩ := hs
  have c0 : w.cell? ⟨B, 0, none⟩ = some (.slice ao bs.length cap) := by rw [cell_of_row _ _ _ _ _ _ hB]; rfl
  have c1 : w.cell? ⟨B, 1, none⟩ = some (.int .i64 at') := by rw [cell_of_row _ _ _ _ _ _ hB]; rfl
  have f1 : w.frozen? ⟨B, 1, none⟩ = false := frozen_of_row _ _ _ _ _ hB
  have f2 : w.frozen? ⟨B, 2, none⟩ = false := frozen_of_row _ _ _ _ _ hB
  have c2 : w.cell? ⟨B, 2, none⟩ = some (.int .u64 seed) := by rw [cell_of_row _ _ _ _ _ _ hB]; rfl
  have HB := Lib.hid hB
  by_cases hlt : at' < bs.length
  · obtain ⟨b0, off, rfl, -, hcs⟩ := h.2.cells (by omega)
    have hc := hcs at' hlt
    clear hcs
    have hb := h.1 bs[at'] (List.getElem_mem hlt)
    generalize bs[at'] = x at *
    have hltI : (at' : Int) < (bs.length : Int) := by omega
    have ha0 : (0 : Int) ≤ (at' : Int) := by omega
    have hx : IntKind.i64.wrap x = x := IntWalk.i64_in _ (by omega)
    have Hbl := Lib.hid hl
    have hge : (at' : Int) + 1 ≤ (bs.length : Int) := by omega
    have hge2 : at' + 1 ≤ bs.length := by omega
    clear h hB
    go_enter Try.func68, Try.ntmps68
    go_wp2_with fail
    go_quiet (fail)
    go_wp2_with fail
    go_quiet (fail)
    go_wp2_with fail
    go_quiet (fail)
    go_wp2
    go_ret
    exact Drw.of hb rfl _ rfl HB.out (u64_in _) _ rfl
  · have hltI : ¬ (at' : Int) < (bs.length : Int) := by omega
    have ha0 : (0 : Int) ≤ (at' : Int) := by omega
    have hge : ¬ (at' : Int) + 1 ≤ (bs.length : Int) := by omega
    have hge2 : ¬ at' + 1 ≤ bs.length := by omega
    clear h hB
    go_enter Try.func68, Try.ntmps68
    go_wp2_with fail
    go_quiet (fail)
    go_wp2_with fail
    go_quiet (fail)
    go_wp2
    go_ret
    exact Drw.of (and255w _) rfl _ rfl HB.out (u64_in _) _ rfl
theorem Drw.grown {P : Int → Prop} {N : Nat} {w : World} {B : Nat} {v : Value} {at0 : Nat} {e : Ending} {w' : World} (h : Drw P N w B v at0 e w') : w.grownBy w' (some B) := by obtain ⟨_, _, _, _, _, _, _, h⟩ := h; exact h
theorem RB.other {w w' : World} {B at' : Nat} {seed : Int} {v : Value} {bs : List Int} (h : RB w v bs) (hs : SrcAt w B v at' seed) (hg : w.grownBy w' (some B)) : RB w' v bs := by
  refine ⟨h.1, ?_⟩
  obtain ⟨ao, cap, rfl, h1, h2, h3⟩ := h.2
  refine ⟨ao, cap, rfl, h1, h2, fun i hi => ?_⟩
  obtain ⟨b, off, rfl, hc⟩ := h3 i hi
  refine ⟨b, off, rfl, hg.cell hc ?_⟩
  intro e
  obtain rfl : b = B := by simpa using e
  rw [cell_of_row _ _ _ _ _ _ hs.1] at hc
  generalize off + i = k at hc
  match k, hc with
  | 0, hc => simp at hc
  | 1, hc => simp at hc
  | 2, hc => simp at hc
  | k + 3, hc => simp at hc
set_option maxHeartbeats 2000000 in
theorem pick_any (B : Nat) (v : Value) (bs : List Int) (at' : Nat) (seed n : Int) (w : World) (h : RB w v bs) (hs : SrcAt w B v at' seed) (ha : at' ≤ 1099511627000) (hl : bs.length ≤ 1099511627776) (hn : n ≤ 1073741824) :
    Calls Try.prog 50 #[.pointer (some ⟨B, 0, none⟩), .int .i64 n] w (Drw (fun x => 0 ≤ x ∧ (x < n ∨ x = 0)) 2 w B v at') := by
  have HN := Lib.hid (next_any B v bs at' seed w h hs (by omega) hl)
  have H := Lib.hid h
  have Hs := Lib.hid hs
  clear h hs
  by_cases h1 : n ≤ 1
  · go_enter Try.func50, Try.ntmps50
    go_wp2
    go_ret
    exact ⟨0, at', seed, ⟨Int.le_refl _, .inr rfl⟩, rfl, Hs.out, by omega, World.grownBy.refl _ _⟩
  · by_cases h2 : 200 < n
    · go_enter Try.func50, Try.ntmps50
      go_wp2_with fail
      refine HN.out.mono ?_
      rintro e w1 ⟨x, at1, seed1, ⟨hx0, hx1⟩, rfl, hs1, hat1, hg1⟩
      have HN2 := Lib.hid (next_any B v bs at1 seed1 w1 (H.out.other Hs.out hg1) hs1 (by omega) hl)
      have Hg1 := Lib.hid hg1
      clear hs1 hg1
      go_wp2_with fail
      refine HN2.out.mono ?_
      rintro e w2 ⟨y, at2, seed2, ⟨hy0, hy1⟩, rfl, hs2, hat2, hg2⟩
      have Hg2 := Lib.hid (grown_trans Hg1.out hg2)
      have Hs2 := Lib.hid hs2
      have q1 := Int.emod_nonneg (x * 256 + y) (show n ≠ 0 by omega)
      have q2 := Int.emod_lt_of_pos (x * 256 + y) (show 0 < n by omega)
      clear hs2 hg2 HN HN2
      go_wp2
      go_ret
      exact ⟨_, at2, seed2, ⟨q1, .inl q2⟩, rfl, Hs2.out, by omega, Hg2.out⟩
    · go_enter Try.func50, Try.ntmps50
      go_wp2_with fail
      refine HN.out.mono ?_
      rintro e w1 ⟨x, at1, seed1, ⟨hx0, hx1⟩, rfl, hs1, hat1, hg1⟩
      have Hg1 := Lib.hid hg1
      have Hs1 := Lib.hid hs1
      have q1 := Int.emod_nonneg x (show n ≠ 0 by omega)
      have q2 := Int.emod_lt_of_pos x (show 0 < n by omega)
      clear hs1 hg1 HN
      go_wp2
      go_ret
      exact ⟨_, at1, seed1, ⟨q1, .inl q2⟩, rfl, Hs1.out, by omega, Hg1.out⟩
set_option maxHeartbeats 400000 in
theorem from_any (v : Value) (bs : List Int) (w : World) (h : RB w v bs) :
    Calls Try.prog 23 #[v] w fun e w' => e = .returned (.pointer (some ⟨w.heap.size, 0, none⟩)) ∧ SrcAt w' w.heap.size v 0 0 ∧ Below w.heap.size w w' := by
  obtain ⟨ao, cap, rfl⟩ := h.shape
  have hb : Below w.heap.size w (w.alloc (.cells #[.slice ao bs.length cap, .int .i64 0, .int .u64 0] 69)) := by go_grown
  have hn := heap_alloc_new w (.cells #[.slice ao bs.length cap, .int .i64 0, .int .u64 0] 69)
  have H := Lib.hid (And.intro hb hn)
  clear hb hn h
  go_enter Try.func23, Try.ntmps23
  go_wp2
  go_ret
  exact ⟨rfl, ⟨H.out.2, by decide, by decide⟩, H.out.1⟩
def Gvn (P : Int → Prop) (n : Nat) (w : World) (e : Ending) (w' : World) : Prop := ∃ v' zs, e = .returned v' ∧ OI w.heap.size w' v' zs ∧ zs.length = n ∧ (∀ z ∈ zs, P z) ∧ Below w.heap.size w w'
def At (n : Int) (w : World) (e : Ending) (w' : World) : Prop := ∃ x : Int, 0 ≤ x ∧ x < n ∧ e = .returned (.int .i64 x) ∧ w = w'
set_option maxHeartbeats 400000 in
theorem b10At_any (v : Value) (bs : List Int) (i n : Nat) (w : World) (h : RB w v bs) (hi : i ≤ 1000) (hn : 2 ≤ n) (hn2 : n ≤ 1000) :
    Calls Try.prog 6 #[v, .int .i64 i, .int .i64 n] w (At n w) := by
  have hlen := h.len
  obtain ⟨ao, cap, rfl⟩ := h.shape
  have hn1 : ¬ (n : Int) ≤ 1 := by omega
  have hn1' : ¬ n ≤ 1 := by omega
  by_cases hlt : i < bs.length
  · obtain ⟨b0, off, rfl, -, hcs⟩ := h.2.cells (by omega)
    have hc := hcs i hlt
    have hb := h.1 bs[i] (List.getElem_mem hlt)
    generalize bs[i] = x at *
    have q1 := Int.emod_nonneg x (show (n : Int) ≠ 0 by omega)
    have q2 := Int.emod_lt_of_pos x (show (0 : Int) < n by omega)
    clear h hcs
    go_enter Try.func6, Try.ntmps6
    go_wp2
    go_ret
    exact ⟨_, q1, q2, rfl, rfl⟩
  · have q1 := Int.emod_nonneg ((i : Int) * 37 + 11) (show (n : Int) ≠ 0 by omega)
    have q2 := Int.emod_lt_of_pos ((i : Int) * 37 + 11) (show (0 : Int) < n by omega)
    clear h
    go_enter Try.func6, Try.ntmps6
    go_wp2
    go_ret
    exact ⟨_, q1, q2, rfl, rfl⟩
set_option maxHeartbeats 400000 in
theorem b10Long_any (v v' : Value) (bs bs' : List Int) (w : World) (h : RB w v bs) (h' : RB w v' bs') :
    Calls Try.prog 5 #[v, v'] w fun e w' => e = .returned (.bool (decide (1048576 < bs.length) || decide (1048576 < bs'.length))) ∧ w = w' := by
  obtain ⟨ao, cap, rfl⟩ := h.shape
  obtain ⟨ao', cap', rfl⟩ := h'.shape
  by_cases h1 : 1048576 < bs.length
  · have d1 : decide ((1048576 : Int) < (bs.length : Int)) = true := decide_eq_true (by omega)
    have d1' : decide (1048576 < bs.length) = true := decide_eq_true h1
    go_enter Try.func5, Try.ntmps5
    go_wp2
    go_ret
    exact ⟨ret_bool (by first | rfl | (simp [h1]; done) | (simp [h1]; omega)), rfl⟩
  · have d1 : decide ((1048576 : Int) < (bs.length : Int)) = false := decide_eq_false (by omega)
    have d1' : decide (1048576 < bs.length) = false := decide_eq_false h1
    go_enter Try.func5, Try.ntmps5
    go_wp2
    go_ret
    exact ⟨ret_bool (by first | rfl | (simp [h1]; done) | (simp [h1]; omega)), rfl⟩
end Go.Proofs.Ytiejljlmbpgbiaa
