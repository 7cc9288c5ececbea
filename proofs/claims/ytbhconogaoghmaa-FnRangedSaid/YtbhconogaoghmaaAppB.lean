/- Appends to one's own slice of truth values. No conditions but those each lemma names. -/
import Derived.Test.YtbhconogaoghmaaOwn
import Derived.Test.YtbhconogaoghmaaLawsB
namespace Go.Proofs.Ytbhconogaoghmaa
open Go.RowKit
set_option maxRecDepth 100000
set_option linter.unusedVariables false
set_option linter.unusedSimpArgs false

def OwnB (B : Nat) (W : World) (v : Value) (zs : List Bool) : Prop := W.ownsRow B 4 1 v zs.length (zs.map Value.bool)
theorem bools_oneCell (zs : List Bool) : ∀ u ∈ zs.map Value.bool, u.oneCell' = true := by
  intro u hu
  obtain ⟨_, _, rfl⟩ := List.mem_map.1 hu
  rfl
theorem ownB_empty (w : World) (B : Nat) (hB : B ≤ w.heap.size) : OwnB B (w.alloc (.cells #[] 4)) (.slice (some ⟨w.heap.size, 0, none⟩) 0 0) [] :=
  World.ownsRow_made w #[] 0 hB (by unfold maxLen; omega) (by simp)
theorem OwnB.shape {B : Nat} {w : World} {v : Value} {zs : List Bool} (h : OwnB B w v zs) : ∃ ao cap, v = .slice ao zs.length cap := own_shape h
theorem OwnB.og {B : Nat} {w : World} {v : Value} {zs : List Bool} (h : OwnB B w v zs) : Og Value.bool B w v zs := Og.own h
theorem app_bools {W w0 : World} {ops : Array Oper} {rest : List Oper} {o : Oper} {a : Act} {Q : Exit → Act → World → Prop} (hgd : o.guard = none) (s x : Operand)
    (ho : o.op = .call { callee := .builtin .append, args := #[s, x], argTypes := #[30, 30] })
    (B B0 : Nat) (hB0 : B0 ≤ B) (v : Value) (zs : List Bool) (hs : a.eval s = v) (hown : OwnB B W v zs) (hB : Below B0 w0 W)
    (c : Array Value) (Tc : TypeId) (news : List Bool) (hx : a.eval x = .slice (some ⟨W.heap.size, 0, none⟩) news.length news.length) (hc : c = (news.map Value.bool).toArray)
    (hl : zs.length + news.length ≤ 1099511627776) (hbs : B ≤ W.heap.size)
    (h : ∀ v' w', OwnB B w' v' (zs ++ news) → Below B0 w0 w' → (W.alloc (.cells c Tc)).grownBy w' v.ownBlock → wpList Try.prog ops Q rest (a.put o.dst v') w') :
    wpList Try.prog ops Q (o :: rest) a (W.alloc (.cells c Tc)) := by
  obtain ⟨i0, hi, hz0, hz1, hz2⟩ := info_parts info_bool
  subst hc
  refine wpList_append_own _ hgd s x 30 ho B 4 i0 (.bool false) 1 1 Try.underlying30 hi hz0 hz1 hz2 rfl (by decide) v zs.length (zs.map Value.bool) hs (hown.alloc _) ⟨W.heap.size, 0, none⟩ news.length news.length (news.map Value.bool) hx (by simp) ?_ (bools_oneCell _) (by unfold maxLen; omega) (by omega) (by simp; omega) ?_
  · intro j u hu
    have hh : (W.alloc (.cells (news.map Value.bool).toArray Tc)).heap[W.heap.size]? = some (.cells (news.map Value.bool).toArray Tc (0, 0)) := heap_alloc_new W _
    rw [Addr.add_lit, cell_of_row _ _ _ _ _ _ hh]
    simpa using hu
  · intro v' w' h1 h2 _
    refine h v' w' (by unfold OwnB; simpa using h1) ((hB.alloc (by omega) _).grown h2 (by simp; omega) fun k hk => ?_) h2
    exact Nat.le_trans hB0 (World.ownsRow.lt hown k hk).1
end Go.Proofs.Ytbhconogaoghmaa
