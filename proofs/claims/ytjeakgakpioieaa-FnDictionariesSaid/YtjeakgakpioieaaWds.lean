/- Words (a slice of slices of integers) and a text that grow side by side, in memory of the call's own; appends of which it is known where the new slice lies. No conditions but lengths. -/
import Derived.Test.YtjeakgakpioieaaMem
import Derived.Test.YtjeakgakpioieaaKpt
import Derived.Maps.AppendAt
namespace Go.Proofs.Ytjeakgakpioieaa
open Go.RowKit
set_option maxRecDepth 100000
set_option linter.unusedVariables false
set_option linter.unusedSimpArgs false

theorem info_rows : (Try.prog.info? 25).map (fun i => (i.zero, i.size, i.bytes)) = some (some (.slice none 0 0), 1, 24) := by kernel_rfl
theorem app_ints_at {W w0 : World} {ops : Array Oper} {rest : List Oper} {o : Oper} {a : Act} {Q : Exit → Act → World → Prop} (hgd : o.guard = none) (s x : Operand)
    (ho : o.op = .call { callee := .builtin .append, args := #[s, x], argTypes := #[25, 25] })
    (B B0 : Nat) (hB0 : B0 ≤ B) (v : Value) (zs : List Int) (hs : a.eval s = v) (hown : OwnI B W v zs) (hB : Below B0 w0 W)
    (c : Array Value) (Tc : TypeId) (news : List Int) (hx : a.eval x = .slice (some ⟨W.heap.size, 0, none⟩) news.length news.length) (hc : c = (news.map (Value.int .i64)).toArray)
    (hl : zs.length + news.length ≤ 1099511627776) (hbs : B ≤ W.heap.size)
    (h : ∀ v' w', OwnI B w' v' (zs ++ news) → Below B0 w0 w' → (W.alloc (.cells c Tc)).grownBy w' v.ownBlock → (∀ k, v'.ownBlock = some k → v.ownBlock = some k ∨ W.heap.size + 1 ≤ k) → wpList Try.prog ops Q rest (a.put o.dst v') w') :
    wpList Try.prog ops Q (o :: rest) a (W.alloc (.cells c Tc)) := by
  obtain ⟨i0, hi, hz0, hz1, hz2⟩ := info_parts info_int
  subst hc
  refine wpList_append_own_at _ hgd s x 25 ho B 2 i0 (.int .i64 0) 1 8 Try.underlying25 hi hz0 hz1 hz2 rfl (by decide) v zs.length (zs.map (Value.int .i64)) hs (hown.alloc _) ⟨W.heap.size, 0, none⟩ news.length news.length (news.map (Value.int .i64)) hx (by simp) ?_ (ints_oneCell _ _) (by unfold maxLen; omega) (by omega) (by simp; omega) ?_
  · intro j u hu
    have hh : (W.alloc (.cells (news.map (Value.int .i64)).toArray Tc)).heap[W.heap.size]? = some (.cells (news.map (Value.int .i64)).toArray Tc (0, 0)) := heap_alloc_new W _
    rw [Addr.add_lit, cell_of_row _ _ _ _ _ _ hh]
    simpa using hu
  · intro v' w' h1 h2 _ h4
    refine h v' w' (by unfold OwnI; simpa using h1) ((hB.alloc (by omega) _).grown h2 (by simp; omega) fun k hk => ?_) h2 fun k hk => ?_
    · exact Nat.le_trans hB0 (hown.lt k hk).1
    · rcases h4 with h4 | h4
      · exact .inl (h4 ▸ hk)
      · rw [hk] at h4; simp at h4; exact .inr (by omega)
theorem app_src_at {W w0 : World} {ops : Array Oper} {rest : List Oper} {o : Oper} {a : Act} {Q : Exit → Act → World → Prop} (hgd : o.guard = none) (s x : Operand)
    (ho : o.op = .call { callee := .builtin .append, args := #[s, x], argTypes := #[25, 25] })
    (B B0 : Nat) (hB0 : B0 ≤ B) (v : Value) (zs : List Int) (hs : a.eval s = v) (hown : OwnI B W v zs) (hB : Below B0 w0 W)
    (news : List Int) (xv : Value) (hx : a.eval x = xv) (hr : Rg (Value.int .i64) W xv news)
    (hl : zs.length + news.length ≤ 1099511627776) (hbs : B ≤ W.heap.size)
    (h : ∀ v' w', OwnI B w' v' (zs ++ news) → Below B0 w0 w' → W.grownBy w' v.ownBlock → (∀ k, v'.ownBlock = some k → v.ownBlock = some k ∨ W.heap.size ≤ k) → wpList Try.prog ops Q rest (a.put o.dst v') w') :
    wpList Try.prog ops Q (o :: rest) a W := by
  obtain ⟨ao, cap, rfl, h1, h2, h3⟩ := hr
  obtain ⟨i0, hi, hz0, hz1, hz2⟩ := info_parts info_int
  cases ao with
  | none =>
    have h0 : news = [] := by
      cases news with
      | nil => rfl
      | cons n ns => obtain ⟨b, off, e, _⟩ := h3 0 (by simp); cases e
    subst h0
    refine wpList_plain hgd fun K hK => ?_
    have hrun := run_app_none (P := Try.prog) (w := W) B 25 o.type 2 i0 1 cap Try.underlying25 hi v zs.length (zs.map (Value.int .i64)) hown
    unfold Oper.wp
    simp only [List.length_nil] at hx
    simp [execOp, ho, resolve, invoke, builtin, hs, hx, hrun, Result.andThen]
    exact hK _ _ (h v W (by rw [List.append_nil]; exact hown) hB (World.grownBy.refl _ _) (fun k hk => .inl hk))
  | some ad =>
    refine wpList_append_own_at _ hgd s x 25 ho B 2 i0 (.int .i64 0) 1 8 Try.underlying25 hi hz0 hz1 hz2 rfl (by decide) v zs.length (zs.map (Value.int .i64)) hs hown ad news.length cap (news.map (Value.int .i64)) hx (by simp) ?_ (ints_oneCell _ _) (by unfold maxLen; omega) (by omega) hbs ?_
    · intro j u hu
      obtain ⟨hj, e⟩ := List.getElem?_eq_some_iff.1 hu
      rw [List.length_map] at hj
      obtain ⟨b, off, e2, hc⟩ := h3 j hj
      obtain rfl := Option.some.inj e2
      rw [Addr.add_lit, hc, ← e]; simp
    · intro v' w' h1 h2 _ h4
      refine h v' w' (by unfold OwnI; simpa using h1) (hB.grown h2 (by omega) fun k hk => ?_) h2 fun k hk => ?_
      · exact Nat.le_trans hB0 (World.ownsRow.lt hown k hk).1
      · rcases h4 with h4 | h4
        · exact .inl (h4 ▸ hk)
        · rw [hk] at h4; simp at h4; exact .inr (by omega)
/-- The slice v owns the rows of ws (their values). -/
def OwnR (B : Nat) (W : World) (v : Value) (ws : List (Value × List Int)) : Prop := W.ownsRow B 25 1 v ws.length (ws.map Prod.fst)
theorem OwnR.shape {B : Nat} {W : World} {v : Value} {ws : List (Value × List Int)} (h : OwnR B W v ws) : ∃ ao cap, v = .slice ao ws.length cap := own_shape h
theorem OwnR.at {B : Nat} {W : World} {v : Value} {ws : List (Value × List Int)} (h : OwnR B W v ws) (j : Nat) (hj : j < ws.length) : ∃ g cap, v = .slice (some ⟨g, 0, none⟩) ws.length cap ∧ W.cell? ⟨g, j, none⟩ = some ws[j].1 := by
  obtain ⟨ao, cap, rfl⟩ := h.shape
  have h1 := h
  rcases h1.2 with ⟨_, h0⟩ | ⟨g, cap', cur, e, _⟩
  · exact absurd h0 (by omega)
  · simp only [Value.slice.injEq, true_and] at e
    obtain ⟨rfl, rfl⟩ := e
    have := World.ownsRow.cells h (g := g) rfl j ws[j].1 (by simp [hj])
    rw [Addr.add_lit] at this
    exact ⟨g, cap, rfl, by simpa using this⟩
theorem app_row_at {W w0 : World} {ops : Array Oper} {rest : List Oper} {o : Oper} {a : Act} {Q : Exit → Act → World → Prop} (hgd : o.guard = none) (s x : Operand)
    (ho : o.op = .call { callee := .builtin .append, args := #[s, x], argTypes := #[40, 40] })
    (B B0 : Nat) (hB0 : B0 ≤ B) (v : Value) (ws : List (Value × List Int)) (hs : a.eval s = v) (hown : OwnR B W v ws) (hB : Below B0 w0 W)
    (c : Array Value) (Tc : TypeId) (p : Value × List Int) (hone : p.1.oneCell' = true) (hx : a.eval x = .slice (some ⟨W.heap.size, 0, none⟩) 1 1) (hc : c = #[p.1])
    (hl : ws.length + 1 ≤ 1099511627776) (hbs : B ≤ W.heap.size)
    (h : ∀ v' w', OwnR B w' v' (ws ++ [p]) → Below B0 w0 w' → (W.alloc (.cells c Tc)).grownBy w' v.ownBlock → (∀ k, v'.ownBlock = some k → v.ownBlock = some k ∨ W.heap.size + 1 ≤ k) → wpList Try.prog ops Q rest (a.put o.dst v') w') :
    wpList Try.prog ops Q (o :: rest) a (W.alloc (.cells c Tc)) := by
  obtain ⟨i0, hi, hz0, hz1, hz2⟩ := info_parts info_rows
  subst hc
  refine wpList_append_own_at _ hgd s x 40 ho B 25 i0 (.slice none 0 0) 1 24 Try.underlying40 hi hz0 hz1 hz2 rfl (by decide) v ws.length (ws.map Prod.fst) hs (World.ownsRow.alloc hown _) ⟨W.heap.size, 0, none⟩ 1 1 [p.1] hx (by simp) (cell_one_new _ _ _) (fun u hu => by obtain rfl := List.mem_singleton.1 hu; exact hone) (by unfold maxLen; omega) (by omega) (by simp; omega) ?_
  intro v' w' h1 h2 _ h4
  refine h v' w' (by unfold OwnR; simpa using h1) ((hB.alloc (by omega) _).grown h2 (by simp; omega) fun k hk => ?_) h2 fun k hk => ?_
  · exact Nat.le_trans hB0 (World.ownsRow.lt hown k hk).1
  · rcases h4 with h4 | h4
    · exact .inl (h4 ▸ hk)
    · rw [hk] at h4; simp at h4; exact .inr (by omega)

/-- The words ws (slice vw, each word a row of its own) and the text out (slice vo) lie apart from one another and from the blocks of which F holds. -/
structure WdS (F : Nat → Prop) (B : Nat) (W : World) (vw vo : Value) (ws : List (Value × List Int)) (out : List Int) : Prop where
  hd : OwnR B W vw ws
  rd : ∀ p ∈ ws, RI W p.1 p.2
  lt : ∀ p ∈ ws, ∀ k, p.1.ownBlock = some k → k < W.heap.size ∧ vw.ownBlock ≠ some k ∧ vo.ownBlock ≠ some k
  o : OwnI B W vo out
  ap : ∀ k, vw.ownBlock = some k → vo.ownBlock ≠ some k
  av : ∀ k, F k → k < W.heap.size ∧ vw.ownBlock ≠ some k ∧ vo.ownBlock ≠ some k ∧ ∀ p ∈ ws, p.1.ownBlock ≠ some k
section
variable {F : Nat → Prop} {B : Nat} {W W' : World} {vw vo v' : Value} {ws : List (Value × List Int)} {out : List Int}
theorem ne_row {v : Value} {b : Option Nat} (h : ∀ k, v.ownBlock = some k → b ≠ some k) : v.ownBlock = none ∨ v.ownBlock ≠ b := by
  cases hv : v.ownBlock with
  | none => exact .inl rfl
  | some k => exact .inr fun e => h k hv e.symm
theorem ne_row' {v : Value} {b : Option Nat} (h : ∀ k, b = some k → v.ownBlock ≠ some k) : v.ownBlock = none ∨ v.ownBlock ≠ b := by
  cases hv : v.ownBlock with
  | none => exact .inl rfl
  | some k => exact .inr fun e => h k e.symm hv
theorem WdS.below (h : WdS F B W vw vo ws out) (hb : Below W.heap.size W W') : WdS F B W' vw vo ws out :=
  ⟨own_below hb h.hd, fun p hp => (h.rd p hp).below hb, fun p hp k hk => ⟨Nat.lt_of_lt_of_le (h.lt p hp k hk).1 hb.size, (h.lt p hp k hk).2⟩, own_below hb h.o, h.ap, fun k hk => ⟨Nat.lt_of_lt_of_le (h.av k hk).1 hb.size, (h.av k hk).2⟩⟩
theorem WdS.pushW (h : WdS F B W vw vo ws out) {p : Value × List Int} {ob : Obj} (hp : RI W p.1 p.2) (hpl : ∀ k, p.1.ownBlock = some k → k < W.heap.size ∧ vw.ownBlock ≠ some k ∧ vo.ownBlock ≠ some k ∧ ¬ F k)
    (hown : OwnR B W' v' (ws ++ [p])) (hg : (W.alloc ob).grownBy W' vw.ownBlock) (hat : ∀ k, v'.ownBlock = some k → vw.ownBlock = some k ∨ W.heap.size + 1 ≤ k) : WdS F B W' v' vo (ws ++ [p]) out := by
  have hb : Below W.heap.size W (W.alloc ob) := (Below.refl _ _).alloc (Nat.le_refl _) _
  have hsz : W.heap.size ≤ W'.heap.size := Nat.le_trans hb.size hg.size
  have key : ∀ k, k < W.heap.size → vw.ownBlock ≠ some k → v'.ownBlock ≠ some k := fun k hk hn e => by rcases hat k e with e | e <;> first | exact hn e | omega
  refine ⟨hown, fun q hq => ?_, fun q hq k hk => ?_, World.ownsRow.kept (World.ownsRow.alloc h.o _) hg (ne_row' h.ap), fun k hk => ?_, fun k hk => ?_⟩
  · rcases List.mem_append.1 hq with hq | hq
    · exact ((h.rd q hq).below hb).other hg (ne_row fun k hk => (h.lt q hq k hk).2.1)
    · obtain rfl := List.mem_singleton.1 hq
      exact (hp.below hb).other hg (ne_row fun k hk => (hpl k hk).2.1)
  · rcases List.mem_append.1 hq with hq | hq
    · obtain ⟨a, b, c⟩ := h.lt q hq k hk
      exact ⟨by omega, key k a b, c⟩
    · obtain rfl := List.mem_singleton.1 hq
      obtain ⟨a, b, c, _⟩ := hpl k hk
      exact ⟨by omega, key k a b, c⟩
  · rcases hat k hk with e | e
    · exact h.ap k e
    · intro e2; have := (h.o.lt k e2).2; omega
  · obtain ⟨a, b, c, d⟩ := h.av k hk
    refine ⟨by omega, key k a b, c, fun q hq => ?_⟩
    rcases List.mem_append.1 hq with hq | hq
    · exact d q hq
    · obtain rfl := List.mem_singleton.1 hq
      exact fun e => (hpl k e).2.2.2 hk
theorem WdS.grow (h : WdS F B W vw vo ws out) {out' : List Int} (hown : OwnI B W' v' out') (hg : W.grownBy W' vo.ownBlock) (hat : ∀ k, v'.ownBlock = some k → vo.ownBlock = some k ∨ W.heap.size ≤ k) : WdS F B W' vw v' ws out' := by
  have hsz : W.heap.size ≤ W'.heap.size := hg.size
  have key : ∀ k, k < W.heap.size → vo.ownBlock ≠ some k → v'.ownBlock ≠ some k := fun k hk hn e => by rcases hat k e with e | e <;> first | exact hn e | omega
  refine ⟨World.ownsRow.kept h.hd hg (ne_row h.ap), fun q hq => (h.rd q hq).other hg (ne_row fun k hk => (h.lt q hq k hk).2.2), fun q hq k hk => ?_, hown, fun k hk => ?_, fun k hk => ?_⟩
  · obtain ⟨a, b, c⟩ := h.lt q hq k hk
    exact ⟨by omega, b, key k a c⟩
  · exact key k (World.ownsRow.lt h.hd k hk).2 (h.ap k hk)
  · obtain ⟨a, b, c, d⟩ := h.av k hk
    exact ⟨by omega, b, key k a c, d⟩
theorem WdS.pushO (h : WdS F B W vw vo ws out) {out' : List Int} {ob : Obj} (hown : OwnI B W' v' out') (hg : (W.alloc ob).grownBy W' vo.ownBlock) (hat : ∀ k, v'.ownBlock = some k → vo.ownBlock = some k ∨ W.heap.size + 1 ≤ k) : WdS F B W' vw v' ws out' :=
  (h.below ((Below.refl _ _).alloc (Nat.le_refl _) ob)).grow hown hg fun k hk => by
    rcases hat k hk with e | e
    · exact .inl e
    · right; simpa using e
theorem WdS.set (h : WdS F B W vw vo ws out) {p : Addr} (hp : F p.block) (u : Value) : WdS F B (W.setCell p u) vw vo ws out := by
  have hg := grown_setCell W p u
  obtain ⟨a, b, c, d⟩ := h.av _ hp
  refine ⟨World.ownsRow.kept h.hd hg (.inr b), fun q hq => (h.rd q hq).other hg (.inr (d q hq)), fun q hq k hk => ?_, h.o.kept hg (.inr c), h.ap, fun k hk => ?_⟩
  · rw [World.size_setCell]; exact h.lt q hq k hk
  · rw [World.size_setCell]; exact h.av k hk
end
end Go.Proofs.Ytjeakgakpioieaa
