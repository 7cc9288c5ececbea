/- Grown text, in the program: what lies in memory between two pairs. No conditions. -/
import Derived.Test.YtjeakgakpioieaaGtP
import Derived.Test.YtjeakgakpioieaaWds
import Derived.Test.YtjeakgakpioieaaGrS
import Derived.Test.YtjeakgakpioieaaPopL
import Derived.Test.YtjeakgakpioieaaChunk
import Derived.Test.YtjeakgakpioieaaClone
import Derived.Deep.CutRange
namespace Go.Proofs.Ytjeakgakpioieaa
open Go.RowKit
set_option maxRecDepth 100000
set_option linter.unusedVariables false
set_option linter.unusedSimpArgs false

def NoCell (W : World) (row : Option Nat) : Prop := ∀ r, row = some r → ∃ o : Obj, W.heap[r]? = some o ∧ o.isCells = false
section
variable {W W' : World} {row : Option Nat}
theorem nocell_ne {b off : Nat} {u : Value} (hr : NoCell W row) (hc : W.cell? ⟨b, off, none⟩ = some u) : some b ≠ row := by
  intro e
  obtain ⟨o, ho, hn⟩ := hr b e.symm
  obtain ⟨o', ho', hy⟩ := cells_of_cell hc
  rw [show W.heap[b]? = some o from ho] at ho'
  cases ho'
  rw [hn] at hy; cases hy
theorem Rg.turn {α : Type} {enc : α → Value} {v : Value} {xs : List α} (hg : W.grownBy W' row) (hr : NoCell W row) (h : Rg enc W v xs) : Rg enc W' v xs := by
  obtain ⟨ao, cap, rfl, h1, h2, h3⟩ := h
  refine ⟨ao, cap, rfl, h1, h2, fun i hi => ?_⟩
  obtain ⟨b, off, rfl, hc⟩ := h3 i hi
  exact ⟨b, off, rfl, hg.cell hc (nocell_ne hr hc)⟩
theorem row_turn {B e size n : Nat} {v : Value} {xs : List Value} (hg : W.grownBy W' row) (hr : NoCell W row) (h : W.ownsRow B e size v n xs) : W'.ownsRow B e size v n xs := by
  refine h.kept hg ?_
  rcases h.2 with ⟨rfl, _⟩ | ⟨g, cap, cur, rfl, _, hgb, _⟩
  · exact .inl rfl
  · refine .inr fun e' => ?_
    obtain ⟨o, ho, hc⟩ := hr g (by simpa [Value.ownBlock] using e'.symm)
    rw [hgb] at ho; cases ho; cases hc
theorem WdS.turn {F : Nat → Prop} {B : Nat} {vw vo : Value} {ws : List (Value × List Int)} {out : List Int} (hg : W.grownBy W' row) (hr : NoCell W row) (h : WdS F B W vw vo ws out) : WdS F B W' vw vo ws out :=
  ⟨row_turn hg hr h.hd, fun p hp => ⟨(h.rd p hp).1, (h.rd p hp).2.turn hg hr⟩, fun p hp k hk => ⟨Nat.lt_of_lt_of_le (h.lt p hp k hk).1 hg.size, (h.lt p hp k hk).2⟩, row_turn hg hr h.o, h.ap, fun k hk => ⟨Nat.lt_of_lt_of_le (h.av k hk).1 hg.size, (h.av k hk).2⟩⟩
theorem box_turn {B : Nat} {t : TypeId} {u : Value} (h : Boxed W B t u) (hg : W.grownBy W' row) (hr : NoCell W row) : Boxed W' B t u := h.kept hg (nocell_ne hr h.cell)
end
/-- The boxes. -/
def GF (s : Nat) : Nat → Prop := fun k => k = s ∨ k = s + 1 ∨ k = s + 1 + 1 + 1 + 1 ∨ k = s + 1 + 1 + 1 + 1 + 1 + 1 ∨ k = s + 1 + 1 + 1 + 1 + 1 + 1 + 1 ∨ k = s + 1 + 1 + 1 + 1 + 1 + 1 + 1 + 1
structure Gb (s : Nat) (sv : Value) (wr : World) (ws : List (Value × List Int)) (out : List Int) (vw vo : Value) : Prop where
  bw : Boxed wr (s + 1 + 1 + 1 + 1) 40 vw
  bo : Boxed wr (s + 1 + 1 + 1 + 1 + 1 + 1) 25 vo
  st : WdS (GF s) (s + 1 + 1) wr vw vo ws out
  r0 : Boxed wr s 25 (.slice none 0 0)
  r1 : Boxed wr (s + 1) 4 (.bool false)
  i0 : Boxed wr (s + 1 + 1 + 1 + 1 + 1 + 1 + 1) 25 sv
  i1 : Boxed wr (s + 1 + 1 + 1 + 1 + 1 + 1 + 1 + 1) 3 (.int .i64 2)
theorem Gb.turn {s : Nat} {sv : Value} {W W' : World} {row : Option Nat} {ws : List (Value × List Int)} {out : List Int} {vw vo : Value} (hg : W.grownBy W' row) (hr : NoCell W row) (h : Gb s sv W ws out vw vo) : Gb s sv W' ws out vw vo :=
  ⟨box_turn h.bw hg hr, box_turn h.bo hg hr, h.st.turn hg hr, box_turn h.r0 hg hr, box_turn h.r1 hg hr, box_turn h.i0 hg hr, box_turn h.i1 hg hr⟩
theorem Gb.below {s : Nat} {sv : Value} {W W' : World} {ws : List (Value × List Int)} {out : List Int} {vw vo : Value} (hb : Below W.heap.size W W') (h : Gb s sv W ws out vw vo) : Gb s sv W' ws out vw vo :=
  ⟨blk_next hb h.bw, blk_next hb h.bo, h.st.below hb, blk_next hb h.r0, blk_next hb h.r1, blk_next hb h.i0, blk_next hb h.i1⟩
theorem gf_ne {s k : Nat} {b : Option Nat} (hF : GF s k) {W : World} {B : Nat} {vw vo : Value} {ws : List (Value × List Int)} {out : List Int} (h : WdS (GF s) B W vw vo ws out) (hb : b = vw.ownBlock ∨ b = vo.ownBlock) : some k ≠ b := by
  obtain ⟨_, h1, h2, _⟩ := h.av k hF
  rcases hb with rfl | rfl
  · exact fun e => h1 e.symm
  · exact fun e => h2 e.symm
theorem keepsOf_below' {W W' : World} (hb : Below W.heap.size W W') : KeepsOthers W W' :=
  ⟨hb.size, fun k o hk _ => (hb.block k (blk_lt hk)).trans hk⟩
theorem keeps_row {W W' : World} {B e size n : Nat} {v : Value} {xs : List Value} (hr : W.ownsRow B e size v n xs) (hg : W.grownBy W' v.ownBlock) : KeepsOthers W W' :=
  KeepsOthers.of_grownBy hg fun j o ej hj => by
    rcases hr.2 with ⟨rfl, _⟩ | ⟨g, cap, cur, rfl, _, hgb, _⟩
    · cases ej
    · obtain rfl : g = j := by simpa [Value.ownBlock] using ej
      rw [hgb] at hj; cases hj; rfl
/-- .. behind a new word. -/
theorem Gb.word {s : Nat} {sv : Value} {wr w6 : World} {ws : List (Value × List Int)} {out : List Int} {vw vo v6 : Value} {p : Value × List Int} {ob : Obj} (h : Gb s sv wr ws out vw vo) (hp : RI wr p.1 p.2)
    (hpl : ∀ k, p.1.ownBlock = some k → k < wr.heap.size ∧ vw.ownBlock ≠ some k ∧ vo.ownBlock ≠ some k ∧ ¬ GF s k) (hown : OwnR (s + 1 + 1) w6 v6 (ws ++ [p])) (hg : (wr.alloc ob).grownBy w6 vw.ownBlock)
    (hat : ∀ k, v6.ownBlock = some k → vw.ownBlock = some k ∨ wr.heap.size + 1 ≤ k) :
    Gb s sv (w6.setCell ⟨s + 1 + 1 + 1 + 1, 0, none⟩ v6) (ws ++ [p]) out v6 vo ∧ KeepsOthers wr (w6.setCell ⟨s + 1 + 1 + 1 + 1, 0, none⟩ v6) ∧ Below s wr (w6.setCell ⟨s + 1 + 1 + 1 + 1, 0, none⟩ v6) := by
  have hlt := h.bw.lt
  have kp : ∀ {B : Nat} {t : TypeId} {u : Value}, Boxed wr B t u → GF s B → B ≠ s + 1 + 1 + 1 + 1 → Boxed (w6.setCell ⟨s + 1 + 1 + 1 + 1, 0, none⟩ v6) B t u := fun hb hF hne => ((hb.alloc ob).kept hg (gf_ne hF h.st (.inl rfl))).other hne v6
  refine ⟨⟨((h.bw.alloc ob).kept hg (gf_ne (by simp [GF]) h.st (.inl rfl))).set v6, kp h.bo (by simp [GF]) (by omega), (h.st.pushW hp hpl hown hg hat).set (p := ⟨s + 1 + 1 + 1 + 1, 0, none⟩) (by simp [GF]) v6, kp h.r0 (by simp [GF]) (by omega), kp h.r1 (by simp [GF]) (by omega), kp h.i0 (by simp [GF]) (by omega), kp h.i1 (by simp [GF]) (by omega)⟩, ?_, ?_⟩
  · exact ((KeepsOthers.alloc wr ob).trans (keeps_row (World.ownsRow.alloc h.st.hd ob) hg)).trans (KeepsOthers.setCell _ _ _)
  · refine Below.setCell (p := ⟨s + 1 + 1 + 1 + 1, 0, none⟩) ?_ (by show s ≤ s + 1 + 1 + 1 + 1; omega) v6
    exact ((Below.refl s wr).alloc (by omega) ob).grown hg (by simp; omega) (fun k e => by have := (World.ownsRow.lt h.st.hd k e).1; omega)
/-- .. behind more text. -/
theorem Gb.text {s : Nat} {sv : Value} {wr w6 : World} {ws : List (Value × List Int)} {out out' : List Int} {vw vo v6 : Value} (h : Gb s sv wr ws out vw vo) (hown : OwnI (s + 1 + 1) w6 v6 out') (hg : wr.grownBy w6 vo.ownBlock)
    (hat : ∀ k, v6.ownBlock = some k → vo.ownBlock = some k ∨ wr.heap.size ≤ k) :
    Gb s sv (w6.setCell ⟨s + 1 + 1 + 1 + 1 + 1 + 1, 0, none⟩ v6) ws out' vw v6 ∧ KeepsOthers wr (w6.setCell ⟨s + 1 + 1 + 1 + 1 + 1 + 1, 0, none⟩ v6) ∧ Below s wr (w6.setCell ⟨s + 1 + 1 + 1 + 1 + 1 + 1, 0, none⟩ v6) := by
  have hlt := h.bw.lt
  have kp : ∀ {B : Nat} {t : TypeId} {u : Value}, Boxed wr B t u → GF s B → B ≠ s + 1 + 1 + 1 + 1 + 1 + 1 → Boxed (w6.setCell ⟨s + 1 + 1 + 1 + 1 + 1 + 1, 0, none⟩ v6) B t u := fun hb hF hne => (hb.kept hg (gf_ne hF h.st (.inr rfl))).other hne v6
  refine ⟨⟨kp h.bw (by simp [GF]) (by omega), (h.bo.kept hg (gf_ne (by simp [GF]) h.st (.inr rfl))).set v6, (h.st.grow hown hg hat).set (p := ⟨s + 1 + 1 + 1 + 1 + 1 + 1, 0, none⟩) (by simp [GF]) v6, kp h.r0 (by simp [GF]) (by omega), kp h.r1 (by simp [GF]) (by omega), kp h.i0 (by simp [GF]) (by omega), kp h.i1 (by simp [GF]) (by omega)⟩, ?_, ?_⟩
  · exact (keeps_row h.st.o hg).trans (KeepsOthers.setCell _ _ _)
  · refine Below.setCell (p := ⟨s + 1 + 1 + 1 + 1 + 1 + 1, 0, none⟩) ?_ (by show s ≤ s + 1 + 1 + 1 + 1 + 1 + 1; omega) v6
    exact (Below.refl s wr).grown hg (by omega) (fun k e => by have := (h.st.o.lt k e).1; omega)
/-- Refused: both results are set. -/
theorem Gb.no {s : Nat} {sv : Value} {wr : World} {ws : List (Value × List Int)} {out : List Int} {vw vo : Value} (h : Gb s sv wr ws out vw vo) : KeepsOthers wr ((wr.setCell ⟨s, 0, none⟩ (.slice none 0 0)).setCell ⟨s + 1, 0, none⟩ (.bool false)) ∧
    Boxed ((wr.setCell ⟨s, 0, none⟩ (.slice none 0 0)).setCell ⟨s + 1, 0, none⟩ (.bool false)) s 25 (.slice none 0 0) ∧ Boxed ((wr.setCell ⟨s, 0, none⟩ (.slice none 0 0)).setCell ⟨s + 1, 0, none⟩ (.bool false)) (s + 1) 4 (.bool false) ∧
    Below s wr ((wr.setCell ⟨s, 0, none⟩ (.slice none 0 0)).setCell ⟨s + 1, 0, none⟩ (.bool false)) :=
  ⟨(KeepsOthers.setCell _ _ _).trans (KeepsOthers.setCell _ _ _), (h.r0.set _).other (by omega) _, (h.r1.other (by omega) _).set _, ((Below.refl _ _).setCell (p := ⟨s, 0, none⟩) (Nat.le_refl _) _).setCell (p := ⟨s + 1, 0, none⟩) (by show s ≤ s + 1; omega) _⟩
/-- The invariant of the rounds. -/
def GI (zs : List Int) (s : Nat) (sv : Value) {q : Nat} (pre : List (Ck q)) (W : World) : Prop :=
  ∃ vw vo ws out, gdF zs (ckN pre) = some (ws.map Prod.snd, out) ∧ ws.length = pre.length + 1 ∧ (∀ p ∈ ws, p.2.length ≤ pre.length) ∧ out.length ≤ 65 * pre.length ∧ AllI64 out ∧ Gb s sv W ws out vw vo
theorem gi_own (zs : List Int) (s : Nat) (sv : Value) (q : Nat) : Own (GI zs s sv (q := q)) := by
  rintro pre W W' row ⟨vw, vo, ws, out, h1, h2, h3, h4, h5, h6⟩ hg hr
  exact ⟨vw, vo, ws, out, h1, h2, h3, h4, h5, h6.turn hg hr⟩
set_option maxHeartbeats 1000000 in
theorem cloneO_any (v : Value) (zs : List Int) (w : World) (h : RI w v zs) (hl : zs.length ≤ 1048576) :
    Calls Try.prog 27 #[v] w fun e w' => ∃ v', e = .returned v' ∧ OwnI w.heap.size w' v' zs ∧ Below w.heap.size w w' := by
  obtain ⟨hz, ao, cap, rfl, h1, h2, h3⟩ := h
  have he := fun (w : World) (a : Option Addr) (n c : Nat) => Lib.run_eql_slice_nil (P := Try.prog) w 25 2 a n c 0 0 Try.underlying25
  cases ao with
  | none =>
    have h0 : zs.length = 0 := by
      rcases Nat.eq_zero_or_pos zs.length with h | h
      · exact h
      · obtain ⟨b, off, e, _⟩ := h3 0 h; cases e
    obtain rfl := List.eq_nil_of_length_eq_zero h0
    go_enter Try.func27, Try.ntmps27
    go_wp2
    go_ret
    exact ⟨_, rfl, own_nil _ _, Below.refl _ _⟩
  | some a =>
    go_enter Try.func27, Try.ntmps27
    go_wp2_with (at_builtin; go_must (refine app_src rfl _ _ rfl w.heap.size w.heap.size (Nat.le_refl _) (.slice (some ⟨w.heap.size, 0, none⟩) 0 0) [] rfl ?_ (w0 := w) (by go_grown) zs a cap rfl ?_ (by simp; omega) (by simp) ?_))
    · exact own_empty w _ (Nat.le_refl _)
    · intro j hj
      obtain ⟨b, off, e, hc⟩ := h3 j hj
      obtain rfl := Option.some.inj e
      rw [Addr.add_lit]
      exact cnext ((Below.refl _ _).alloc (Nat.le_refl _) _) hc
    · intro v' w' hown hB hg
      go_wp2
      go_ret
      exact ⟨_, rfl, hown, hB⟩
end Go.Proofs.Ytjeakgakpioieaa
