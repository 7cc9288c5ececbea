/- What a statement's walk carries from call to call: what came in is as it was, the cells of its own variables, its own slices, each apart from all others. No conditions. -/
import Derived.Test.YtiejljlmbpgbiaaBase
namespace Go.Proofs.Ytiejljlmbpgbiaa
open Go.RowKit
set_option maxRecDepth 100000
set_option linter.unusedVariables false
set_option linter.unusedSimpArgs false

def Cs (W : World) : List (Addr × Value) → Prop
  | [] => True
  | p :: t => W.cell? p.1 = some p.2 ∧ Cs W t
def sep (a b : Value) : Prop := a.ownBlock = none ∨ a.ownBlock ≠ b.ownBlock
theorem sep.symm {a b : Value} (h : sep a b) : sep b a := ownBlock_symm h
def Env (B : Nat) (W : World) : List (Value × List Value) → Prop
  | [] => True
  | p :: l => Og (fun x => x) B W p.1 p.2 ∧ (∀ q ∈ l, sep p.1 q.1) ∧ Env B W l

theorem Og.toId {α : Type} {enc : α → Value} {B : Nat} {w : World} {v : Value} {xs : List α} (h : Og enc B w v xs) : Og (fun x => x) B w v (xs.map enc) := by
  obtain ⟨ao, cap, rfl, h1, h2, h4, h3⟩ := h
  refine ⟨ao, cap, by simp, by simpa using h1, h2, h4, fun i hi => ?_⟩
  obtain ⟨b, off, e, hc, hf⟩ := h3 i (by simpa using hi)
  exact ⟨b, off, e, by simpa using hc, hf⟩
theorem Og.ofId {α : Type} {enc : α → Value} {B : Nat} {w : World} {v : Value} {xs : List α} (h : Og (fun x => x) B w v (xs.map enc)) : Og enc B w v xs := by
  obtain ⟨ao, cap, rfl, h1, h2, h4, h3⟩ := h
  refine ⟨ao, cap, by simp, by simpa using h1, h2, h4, fun i hi => ?_⟩
  obtain ⟨b, off, e, hc, hf⟩ := h3 i (by simpa using hi)
  exact ⟨b, off, e, by simpa using hc, hf⟩

theorem Env.get {B : Nat} {W : World} : ∀ {l : List (Value × List Value)}, Env B W l → ∀ {v : Value} {c : List Value}, (v, c) ∈ l → Og (fun x => x) B W v c
  | [], _, _, _, h => by cases h
  | p :: l, ⟨h1, _, h3⟩, v, c, h => by
    rcases List.mem_cons.1 h with e | e
    · rw [← e] at h1; exact h1
    · exact h3.get e
theorem Env.imp {B : Nat} {W W' : World} : ∀ {l : List (Value × List Value)}, (∀ p ∈ l, Og (fun x => x) B W p.1 p.2 → Og (fun x => x) B W' p.1 p.2) → Env B W l → Env B W' l
  | [], _, _ => trivial
  | p :: l, h, ⟨h1, h2, h3⟩ => ⟨h p (by simp) h1, h2, h3.imp fun q hq => h q (List.mem_cons_of_mem _ hq)⟩
theorem Env.seps {B : Nat} {W : World} : ∀ {l : List (Value × List Value)}, Env B W l → l.Pairwise fun p q => sep p.1 q.1
  | [], _ => .nil
  | p :: l, ⟨_, h2, h3⟩ => .cons h2 h3.seps
theorem Env.mk {B : Nat} {W : World} : ∀ {l : List (Value × List Value)}, (∀ p ∈ l, Og (fun x => x) B W p.1 p.2) → (l.Pairwise fun p q => sep p.1 q.1) → Env B W l
  | [], _, _ => trivial
  | p :: l, h, hp => by
    rw [List.pairwise_cons] at hp
    exact ⟨h p (by simp), hp.1, Env.mk (fun q hq => h q (List.mem_cons_of_mem _ hq)) hp.2⟩

structure St (w W : World) (ks : List (Addr × Value)) (l : List (Value × List Value)) : Prop where
  bt : Below w.heap.size w W
  cs : Cs W ks
  env : Env w.heap.size W l
  ke : ∀ k ∈ ks, ∀ p ∈ l, p.1.ownBlock ≠ some k.1.block

theorem St.refl (w : World) : St w w [] [] := ⟨Below.refl _ _, trivial, trivial, fun _ h => by cases h⟩
theorem Cs.imp {W W' : World} : ∀ {ks : List (Addr × Value)}, (∀ p ∈ ks, W.cell? p.1 = some p.2 → W'.cell? p.1 = some p.2) → Cs W ks → Cs W' ks
  | [], _, _ => trivial
  | p :: t, h, ⟨h1, h2⟩ => ⟨h p (by simp) h1, h2.imp fun q hq => h q (List.mem_cons_of_mem _ hq)⟩
theorem Cs.mem {W : World} : ∀ {ks : List (Addr × Value)}, Cs W ks → ∀ p ∈ ks, W.cell? p.1 = some p.2
  | [], _, _, h => by cases h
  | q :: t, ⟨h1, h2⟩, p, h => by
    rcases List.mem_cons.1 h with rfl | h
    · exact h1
    · exact h2.mem p h

section
variable {w W W1 : World} {ks : List (Addr × Value)} {l : List (Value × List Value)}
theorem St.below (s : St w W ks l) (hb : Below W.heap.size W W1) : St w W1 ks l :=
  ⟨bnext s.bt hb, s.cs.imp fun _ _ h => cnext hb h, s.env.imp fun _ _ h => h.below hb, s.ke⟩
theorem St.drew (s : St w W ks l) : St w W.drew ks l := s.below ((Below.refl _ _).drew)
theorem St.drewN (s : St w W ks l) (n : Nat) : St w (W.drewN n) ks l := s.below (below_drewN _ _)
theorem St.push {α : Type} {enc : α → Value} {v : Value} {xs : List α} (s : St w W ks l) (hb : Below W.heap.size W W1) (ho : Og enc W.heap.size W1 v xs) : St w W1 ks ((v, xs.map enc) :: l) := by
  have s1 := s.below hb
  have hv := ho.blk
  refine ⟨s1.bt, s1.cs, ⟨(ho.mono s.bt.size).toId, fun q hq => ?_, s1.env⟩, fun k hk p hp => ?_⟩
  · have hq' := (s.env.get (v := q.1) (c := q.2) hq).blk
    unfold sep
    cases e : v.ownBlock with
    | none => exact .inl rfl
    | some b => right; intro e'; have := hv b e; have := hq' b e'.symm; omega
  · rcases List.mem_cons.1 hp with rfl | hp
    · intro e
      have h1 := hv _ e
      have h2 := World.block_lt_of_cell? W _ (s.cs.mem k hk)
      omega
    · exact s.ke k hk p hp
theorem St.box2 (s : St w W ks l) (a b : Value) (t : TypeId) : St w (W.alloc (.cells #[a, b] t)) ((⟨W.heap.size, 0, none⟩, a) :: (⟨W.heap.size, 1, none⟩, b) :: ks) l := by
  have hb : Below W.heap.size W (W.alloc (.cells #[a, b] t)) := (Below.refl _ _).alloc (Nat.le_refl _) _
  have s1 := s.below hb
  refine ⟨s1.bt, ⟨by simp [go_sem], by simp [go_sem], s1.cs⟩, s1.env, fun k hk p hp => ?_⟩
  have hp' := (s.env.get (v := p.1) (c := p.2) hp).blk
  rcases List.mem_cons.1 hk with rfl | hk
  · intro e; have := hp' _ e; simp at this
  · rcases List.mem_cons.1 hk with rfl | hk
    · intro e; have := hp' _ e; simp at this
    · exact s.ke k hk p hp
theorem pairwise_set {α : Type} {R : α → α → Prop} (i : Nat) (a b : α) : ∀ (l : List α), l[i]? = some a → (∀ x, R x a → R x b) → (∀ x, R a x → R b x) → l.Pairwise R → (l.set i b).Pairwise R := by
  induction i with
  | zero =>
    intro l hl h1 h2 hp
    cases l with
    | nil => simp at hl
    | cons c t =>
      simp at hl; subst hl
      rw [List.pairwise_cons] at hp
      simp only [List.set_cons_zero, List.pairwise_cons]
      exact ⟨fun x hx => h2 x (hp.1 x hx), hp.2⟩
  | succ i ih =>
    intro l hl h1 h2 hp
    cases l with
    | nil => simp at hl
    | cons c t =>
      rw [List.pairwise_cons] at hp
      simp only [List.set_cons_succ, List.pairwise_cons]
      simp at hl
      refine ⟨fun x hx => ?_, ih t hl h1 h2 hp.2⟩
      rcases List.mem_or_eq_of_mem_set hx with hx | rfl
      · exact hp.1 x hx
      · exact h1 c (hp.1 a (List.mem_of_getElem? hl))
/-- A slice of one's own has been written; all else is as it was. -/
theorem St.mark {α : Type} {enc : α → Value} {v : Value} {c : List Value} {xs : List α} (s : St w W ks l) (i : Nat) (hi : l[i]? = some (v, c)) (hg : W.grownBy W1 v.ownBlock) (ho : Og enc w.heap.size W1 v xs) :
    St w W1 ks (l.set i (v, xs.map enc)) := by
  have hv := (s.env.get (List.mem_of_getElem? hi)).blk
  have hsp := s.env.seps
  refine ⟨bgrown s.bt hg fun k hk => (hv k hk).1, s.cs.imp fun k hk h => hg.cell h (Ne.symm (s.ke k hk _ (List.mem_of_getElem? hi))), Env.mk (fun p hp => ?_) (pairwise_set i (v, c) _ l hi (fun _ h => h) (fun _ h => h) hsp), fun k hk p hp => ?_⟩
  · obtain ⟨j, hj, rfl⟩ := List.getElem_of_mem hp
    rw [List.length_set] at hj
    by_cases e : i = j
    · subst e; rw [List.getElem_set_self]; exact ho.toId
    · rw [List.getElem_set_ne e]
      refine (s.env.get (List.getElem_mem hj)).other hg ?_
      obtain ⟨hi', hie⟩ := List.getElem?_eq_some_iff.1 hi
      rcases Nat.lt_or_gt_of_ne e with h | h
      · have := List.pairwise_iff_getElem.1 hsp i j hi' hj h
        rw [hie] at this
        exact this.symm
      · have := List.pairwise_iff_getElem.1 hsp j i hj hi' h
        rw [hie] at this
        exact this
  · rcases List.mem_or_eq_of_mem_set hp with hp | rfl
    · exact s.ke k hk p hp
    · exact s.ke k hk (v, c) (List.mem_of_getElem? hi)
/-- What is no longer asked is let go. -/
theorem St.drop {p : Value × List Value} (s : St w W ks (p :: l)) : St w W ks l := ⟨s.bt, s.cs, s.env.2.2, fun k hk q hq => s.ke k hk q (List.mem_cons_of_mem _ hq)⟩
theorem St.oi {v : Value} {zs : List Int} (s : St w W ks l) (hz : AllI64 zs) (h : (v, zs.map (Value.int .i64)) ∈ l) : OI w.heap.size W v zs := ⟨hz, (s.env.get h).ofId⟩
end
end Go.Proofs.Ytiejljlmbpgbiaa
