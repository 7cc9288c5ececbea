/- Appends of floats of which it is known where the new slice lies; two slices of the call's own that grow side by side. No conditions but lengths. -/
import Derived.Test.YthafmldcfdcngaaAppF
import Derived.Maps.AppendAt
namespace Go.Proofs.Ythafmldcfdcngaa
open Go.RowKit
set_option maxRecDepth 100000
set_option linter.unusedVariables false
set_option linter.unusedSimpArgs false

theorem app_flt_at {W w0 : World} {ops : Array Oper} {rest : List Oper} {o : Oper} {a : Act} {Q : Exit → Act → World → Prop} (hgd : o.guard = none) (s x : Operand)
    (ho : o.op = .call { callee := .builtin .append, args := #[s, x], argTypes := #[31, 31] })
    (B B0 : Nat) (hB0 : B0 ≤ B) (v : Value) (zs : List Nat) (hs : a.eval s = v) (hown : OwnF B W v zs) (hB : Below B0 w0 W)
    (c : Array Value) (Tc : TypeId) (news : List Nat) (hx : a.eval x = .slice (some ⟨W.heap.size, 0, none⟩) news.length news.length) (hc : c = (news.map eF).toArray)
    (hl : zs.length + news.length ≤ 1099511627776) (hbs : B ≤ W.heap.size)
    (h : ∀ v' w', OwnF B w' v' (zs ++ news) → Below B0 w0 w' → (W.alloc (.cells c Tc)).grownBy w' v.ownBlock → (∀ k, v'.ownBlock = some k → v.ownBlock = some k ∨ W.heap.size + 1 ≤ k) → wpList Try.prog ops Q rest (a.put o.dst v') w') :
    wpList Try.prog ops Q (o :: rest) a (W.alloc (.cells c Tc)) := by
  obtain ⟨i0, hi, hz0, hz1, hz2⟩ := info_parts info_flt
  subst hc
  refine wpList_append_own_at _ hgd s x 31 ho B 27 i0 (eF 0) 1 4 Try.underlying31 hi hz0 hz1 hz2 rfl (by decide) v zs.length (zs.map eF) hs (hown.alloc _) ⟨W.heap.size, 0, none⟩ news.length news.length (news.map eF) hx (by simp) ?_ (flts_oneCell _) (by unfold maxLen; omega) (by omega) (by simp; omega) ?_
  · intro j u hu
    have hh : (W.alloc (.cells (news.map eF).toArray Tc)).heap[W.heap.size]? = some (.cells (news.map eF).toArray Tc (0, 0)) := heap_alloc_new W _
    rw [Addr.add_lit, cell_of_row _ _ _ _ _ _ hh]
    simpa using hu
  · intro v' w' h1 h2 _ h4
    refine h v' w' (by unfold OwnF; simpa using h1) ((hB.alloc (by omega) _).grown h2 (by simp; omega) fun k hk => ?_) h2 fun k hk => ?_
    · exact Nat.le_trans hB0 (World.ownsRow.lt hown k hk).1
    · rcases h4 with h4 | h4
      · exact .inl (h4 ▸ hk)
      · rw [hk] at h4; simp at h4; exact .inr (by omega)
/-- Two slices of floats, apart. -/
structure TwoF (B : Nat) (W : World) (v1 v2 : Value) (l1 l2 : List Nat) : Prop where
  a : OwnF B W v1 l1
  b : OwnF B W v2 l2
  ap : ∀ k, v1.ownBlock = some k → v2.ownBlock ≠ some k
section
variable {B : Nat} {W W' : World} {v1 v2 v' : Value} {l1 l2 l' : List Nat}
theorem twoF_ne {v : Value} {b : Option Nat} (h : ∀ k, v.ownBlock = some k → b ≠ some k) : v.ownBlock = none ∨ v.ownBlock ≠ b := by
  cases hv : v.ownBlock with
  | none => exact .inl rfl
  | some k => exact .inr fun e => h k hv e.symm
theorem TwoF.swap (h : TwoF B W v1 v2 l1 l2) : TwoF B W v2 v1 l2 l1 := ⟨h.b, h.a, fun k hk e => h.ap k e hk⟩
theorem TwoF.first {ob : Obj} (h : TwoF B W v1 v2 l1 l2) (hown : OwnF B W' v' l') (hg : (W.alloc ob).grownBy W' v1.ownBlock) (hat : ∀ k, v'.ownBlock = some k → v1.ownBlock = some k ∨ W.heap.size + 1 ≤ k) : TwoF B W' v' v2 l' l2 := by
  refine ⟨hown, World.ownsRow.kept (World.ownsRow.alloc h.b ob) hg (twoF_ne fun k hk e => h.ap k e hk), fun k hk e => ?_⟩
  rcases hat k hk with h1 | h1
  · exact h.ap k h1 e
  · have := (World.ownsRow.lt h.b k e).2; omega
theorem TwoF.second {ob : Obj} (h : TwoF B W v1 v2 l1 l2) (hown : OwnF B W' v' l') (hg : (W.alloc ob).grownBy W' v2.ownBlock) (hat : ∀ k, v'.ownBlock = some k → v2.ownBlock = some k ∨ W.heap.size + 1 ≤ k) : TwoF B W' v1 v' l1 l' := (h.swap.first hown hg hat).swap
theorem twoF_new (w : World) (B : Nat) (hB : B ≤ w.heap.size) : TwoF B ((w.alloc (.cells #[] 27)).alloc (.cells #[] 27)) (.slice (some ⟨w.heap.size, 0, none⟩) 0 0) (.slice (some ⟨w.heap.size + 1, 0, none⟩) 0 0) [] [] := by
  refine ⟨World.ownsRow.alloc (ownF_empty w B hB) _, ?_, fun k hk e => ?_⟩
  · have h := ownF_empty (w.alloc (.cells #[] 27)) B (by simp; omega)
    rwa [World.size_alloc] at h
  · simp [Value.ownBlock] at hk e; omega
end
end Go.Proofs.Ythafmldcfdcngaa
