/- Appends of which it is known where the new slice lies; two slices of the call's own that grow side by side. No conditions but lengths. -/
import Derived.Test.YtgkciionmhoofaaMem
import Derived.Maps.AppendAt
namespace Go.Proofs.Ytgkciionmhoofaa
open Go.RowKit
set_option maxRecDepth 100000
set_option linter.unusedVariables false
set_option linter.unusedSimpArgs false

theorem app_int_at {W w0 : World} {ops : Array Oper} {rest : List Oper} {o : Oper} {a : Act} {Q : Exit → Act → World → Prop} (hgd : o.guard = none) (s x : Operand)
    (ho : o.op = .call { callee := .builtin .append, args := #[s, x], argTypes := #[24, 24] })
    (B B0 : Nat) (hB0 : B0 ≤ B) (v : Value) (zs : List Int) (hs : a.eval s = v) (hown : OwnI B W v zs) (hB : Below B0 w0 W)
    (c : Array Value) (Tc : TypeId) (news : List Int) (hx : a.eval x = .slice (some ⟨W.heap.size, 0, none⟩) news.length news.length) (hc : c = (news.map (Value.int .i64)).toArray)
    (hl : zs.length + news.length ≤ 1099511627776) (hbs : B ≤ W.heap.size)
    (h : ∀ v' w', OwnI B w' v' (zs ++ news) → Below B0 w0 w' → (W.alloc (.cells c Tc)).grownBy w' v.ownBlock → (∀ k, v'.ownBlock = some k → v.ownBlock = some k ∨ W.heap.size + 1 ≤ k) → wpList Try.prog ops Q rest (a.put o.dst v') w') :
    wpList Try.prog ops Q (o :: rest) a (W.alloc (.cells c Tc)) := by
  obtain ⟨i0, hi, hz0, hz1, hz2⟩ := info_parts info_int
  subst hc
  refine wpList_append_own_at _ hgd s x 24 ho B 2 i0 (.int .i64 0) 1 8 Try.underlying24 hi hz0 hz1 hz2 rfl (by decide) v zs.length (zs.map (Value.int .i64)) hs (hown.alloc _) ⟨W.heap.size, 0, none⟩ news.length news.length (news.map (Value.int .i64)) hx (by simp) ?_ (ints_oneCell _ _) (by unfold maxLen; omega) (by omega) (by simp; omega) ?_
  · intro j u hu
    have hh : (W.alloc (.cells (news.map (Value.int .i64)).toArray Tc)).heap[W.heap.size]? = some (.cells (news.map (Value.int .i64)).toArray Tc (0, 0)) := heap_alloc_new W _
    rw [Addr.add_lit, cell_of_row _ _ _ _ _ _ hh]
    simpa using hu
  · intro v' w' h1 h2 _ h4
    refine h v' w' (by unfold OwnI; simpa using h1) ((hB.alloc (by omega) _).grown h2 (by simp; omega) fun k hk => ?_) h2 fun k hk => ?_
    · exact Nat.le_trans hB0 (hown.lt k hk).1
    · rcases h4 with h4 | h4
      · exact .inl (h4 ▸ hk)
      · rw [hk] at h4; simp at h4; exact .inr (by omega)
/-- Two slices, apart. -/
structure Two (B : Nat) (W : World) (v1 v2 : Value) (l1 l2 : List Int) : Prop where
  a : OwnI B W v1 l1
  b : OwnI B W v2 l2
  ap : ∀ k, v1.ownBlock = some k → v2.ownBlock ≠ some k
section
variable {B : Nat} {W W' : World} {v1 v2 v' : Value} {l1 l2 l' : List Int}
theorem two_ne {v : Value} {b : Option Nat} (h : ∀ k, v.ownBlock = some k → b ≠ some k) : v.ownBlock = none ∨ v.ownBlock ≠ b := by
  cases hv : v.ownBlock with
  | none => exact .inl rfl
  | some k => exact .inr fun e => h k hv e.symm
theorem Two.swap (h : Two B W v1 v2 l1 l2) : Two B W v2 v1 l2 l1 := ⟨h.b, h.a, fun k hk e => h.ap k e hk⟩
theorem Two.first {ob : Obj} (h : Two B W v1 v2 l1 l2) (hown : OwnI B W' v' l') (hg : (W.alloc ob).grownBy W' v1.ownBlock) (hat : ∀ k, v'.ownBlock = some k → v1.ownBlock = some k ∨ W.heap.size + 1 ≤ k) : Two B W' v' v2 l' l2 := by
  refine ⟨hown, (h.b.alloc ob).kept hg (two_ne fun k hk e => h.ap k e hk), fun k hk e => ?_⟩
  rcases hat k hk with h1 | h1
  · exact h.ap k h1 e
  · have := (h.b.lt k e).2; omega
theorem Two.second {ob : Obj} (h : Two B W v1 v2 l1 l2) (hown : OwnI B W' v' l') (hg : (W.alloc ob).grownBy W' v2.ownBlock) (hat : ∀ k, v'.ownBlock = some k → v2.ownBlock = some k ∨ W.heap.size + 1 ≤ k) : Two B W' v1 v' l1 l' := (h.swap.first hown hg hat).swap
theorem two_new (w : World) (B : Nat) (hB : B ≤ w.heap.size) : Two B ((w.alloc (.cells #[] 2)).alloc (.cells #[] 2)) (.slice (some ⟨w.heap.size, 0, none⟩) 0 0) (.slice (some ⟨w.heap.size + 1, 0, none⟩) 0 0) [] [] := by
  refine ⟨(own_empty w B hB).alloc _, ?_, fun k hk e => ?_⟩
  · have h := own_empty (w.alloc (.cells #[] 2)) B (by simp; omega)
    rwa [World.size_alloc] at h
  · simp [Value.ownBlock] at hk e; omega
end
end Go.Proofs.Ytgkciionmhoofaa
