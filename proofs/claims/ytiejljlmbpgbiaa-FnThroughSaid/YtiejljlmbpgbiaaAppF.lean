/- Appends to one's own slice of floats. No conditions but those each lemma names. -/
import Derived.Test.YtiejljlmbpgbiaaOwn
import Derived.Test.YtiejljlmbpgbiaaEF
namespace Go.Proofs.Ytiejljlmbpgbiaa
open Go.RowKit
set_option maxRecDepth 100000
set_option linter.unusedVariables false
set_option linter.unusedSimpArgs false

theorem info_flt : (Try.prog.info? 36).map (fun i => (i.zero, i.size, i.bytes)) = some (some (eF 0), 1, 4) := by kernel_rfl
def OwnF (B : Nat) (W : World) (v : Value) (zs : List Nat) : Prop := W.ownsRow B 36 1 v zs.length (zs.map eF)
theorem flts_oneCell (zs : List Nat) : ∀ u ∈ zs.map eF, u.oneCell' = true := by
  intro u hu
  obtain ⟨_, _, rfl⟩ := List.mem_map.1 hu
  rfl
theorem ownF_empty (w : World) (B : Nat) (hB : B ≤ w.heap.size) : OwnF B (w.alloc (.cells #[] 36)) (.slice (some ⟨w.heap.size, 0, none⟩) 0 0) [] :=
  World.ownsRow_made w #[] 0 hB (by unfold maxLen; omega) (by simp)
theorem OwnF.shape {B : Nat} {w : World} {v : Value} {zs : List Nat} (h : OwnF B w v zs) : ∃ ao cap, v = .slice ao zs.length cap := own_shape h
theorem OwnF.og {B : Nat} {w : World} {v : Value} {zs : List Nat} (h : OwnF B w v zs) : Og eF B w v zs := Og.own h
theorem app_flts {W w0 : World} {ops : Array Oper} {rest : List Oper} {o : Oper} {a : Act} {Q : Exit → Act → World → Prop} (hgd : o.guard = none) (s x : Operand)
    (ho : o.op = .call { callee := .builtin .append, args := #[s, x], argTypes := #[25, 25] })
    (B B0 : Nat) (hB0 : B0 ≤ B) (v : Value) (zs : List Nat) (hs : a.eval s = v) (hown : OwnF B W v zs) (hB : Below B0 w0 W)
    (c : Array Value) (Tc : TypeId) (news : List Nat) (hx : a.eval x = .slice (some ⟨W.heap.size, 0, none⟩) news.length news.length) (hc : c = (news.map eF).toArray)
    (hl : zs.length + news.length ≤ 1099511627776) (hbs : B ≤ W.heap.size)
    (h : ∀ v' w', OwnF B w' v' (zs ++ news) → Below B0 w0 w' → (W.alloc (.cells c Tc)).grownBy w' v.ownBlock → wpList Try.prog ops Q rest (a.put o.dst v') w') :
    wpList Try.prog ops Q (o :: rest) a (W.alloc (.cells c Tc)) := by
  obtain ⟨i0, hi, hz0, hz1, hz2⟩ := info_parts info_flt
  subst hc
  refine wpList_append_own _ hgd s x 25 ho B 36 i0 (eF 0) 1 4 Try.underlying25 hi hz0 hz1 hz2 rfl (by decide) v zs.length (zs.map eF) hs (hown.alloc _) ⟨W.heap.size, 0, none⟩ news.length news.length (news.map eF) hx (by simp) ?_ (flts_oneCell _) (by unfold maxLen; omega) (by omega) (by simp; omega) ?_
  · intro j u hu
    have hh : (W.alloc (.cells (news.map eF).toArray Tc)).heap[W.heap.size]? = some (.cells (news.map eF).toArray Tc (0, 0)) := heap_alloc_new W _
    rw [Addr.add_lit, cell_of_row _ _ _ _ _ _ hh]
    simpa using hu
  · intro v' w' h1 h2 _
    refine h v' w' (by unfold OwnF; simpa using h1) ((hB.alloc (by omega) _).grown h2 (by simp; omega) fun k hk => ?_) h2
    exact Nat.le_trans hB0 (World.ownsRow.lt hown k hk).1
theorem app_fsrc {W w0 : World} {ops : Array Oper} {rest : List Oper} {o : Oper} {a : Act} {Q : Exit → Act → World → Prop} (hgd : o.guard = none) (s x : Operand)
    (ho : o.op = .call { callee := .builtin .append, args := #[s, x], argTypes := #[25, 25] })
    (B B0 : Nat) (hB0 : B0 ≤ B) (v : Value) (zs : List Nat) (hs : a.eval s = v) (hown : OwnF B W v zs) (hB : Below B0 w0 W)
    (news : List Nat) (ad : Addr) (c : Nat) (hx : a.eval x = .slice (some ad) news.length c) (hc : ∀ j (_ : j < news.length), W.cell? (ad.add j) = some (eF news[j]))
    (hl : zs.length + news.length ≤ 1099511627776) (hbs : B ≤ W.heap.size)
    (h : ∀ v' w', OwnF B w' v' (zs ++ news) → Below B0 w0 w' → W.grownBy w' v.ownBlock → wpList Try.prog ops Q rest (a.put o.dst v') w') :
    wpList Try.prog ops Q (o :: rest) a W := by
  obtain ⟨i0, hi, hz0, hz1, hz2⟩ := info_parts info_flt
  refine wpList_append_own _ hgd s x 25 ho B 36 i0 (eF 0) 1 4 Try.underlying25 hi hz0 hz1 hz2 rfl (by decide) v zs.length (zs.map eF) hs hown ad news.length c (news.map eF) hx (by simp) ?_ (flts_oneCell _) (by unfold maxLen; omega) (by omega) hbs ?_
  · intro j u hu
    obtain ⟨hj, e⟩ := List.getElem?_eq_some_iff.1 hu
    rw [List.length_map] at hj
    rw [hc j hj, ← e]; simp
  · intro v' w' h1 h2 _
    refine h v' w' (by unfold OwnF; simpa using h1) (hB.grown h2 (by omega) fun k hk => ?_) h2
    exact Nat.le_trans hB0 (World.ownsRow.lt hown k hk).1

theorem step_appF {W w0 : World} {ops : Array Oper} {o : Oper} {a : Act} {K : Act → World → Prop} {Q : Exit → Act → World → Prop} {E : Prop} (hgd : o.guard = none) (s x : Operand)
    (ho : o.op = .call { callee := .builtin .append, args := #[s, x], argTypes := #[25, 25] })
    (B B0 : Nat) (hB0 : B0 ≤ B) (v : Value) (zs : List Nat) (hs : a.eval s = v) (hown : OwnF B W v zs) (hB : Below B0 w0 W)
    (news : List Nat) (ad : Addr) (c : Nat) (hx : a.eval x = .slice (some ad) news.length c) (hc : ∀ j (_ : j < news.length), W.cell? (ad.add j) = some (eF news[j]))
    (hl : zs.length + news.length ≤ 1099511627776) (hbs : B ≤ W.heap.size)
    (h : ∀ v' w', OwnF B w' v' (zs ++ news) → Below B0 w0 w' → W.grownBy w' v.ownBlock → K (a.put o.dst v') w') :
    if Region.wanted o (yielded ops a.tmps) = true then Oper.wp Try.prog o a W K Q else E := by
  have hw : Region.wanted o (yielded ops a.tmps) = true := by simp [Region.wanted, hgd]
  rw [if_pos hw]
  obtain ⟨i0, hi, hz0, hz1, hz2⟩ := info_parts info_flt
  refine wp_append_own _ s x 25 ho B 36 i0 (eF 0) 1 4 Try.underlying25 hi hz0 hz1 hz2 rfl (by decide) v zs.length (zs.map eF) hs hown ad news.length c (news.map eF) hx (by simp) ?_ (flts_oneCell _) (by unfold maxLen; omega) (by omega) hbs ?_
  · intro j u hu
    obtain ⟨hj, e⟩ := List.getElem?_eq_some_iff.1 hu
    rw [List.length_map] at hj
    rw [hc j hj, ← e]; simp
  · intro v' w' h1 h2 _
    refine h v' w' (by unfold OwnF; simpa using h1) (hB.grown h2 (by omega) fun k hk => ?_) h2
    exact Nat.le_trans hB0 (World.ownsRow.lt hown k hk).1

theorem ownF_nil (B : Nat) (w : World) : OwnF B w (.slice none 0 0) [] := World.ownsRow_nil _ _ _ _
end Go.Proofs.Ytiejljlmbpgbiaa
