/- An append of truth values as a step of a drawn region. No conditions but those it names. -/
import Derived.Test.YtnhcoggjnbldiaaAppB
namespace Go.Proofs.Ytnhcoggjnbldiaa
open Go.RowKit
set_option maxRecDepth 100000
set_option linter.unusedVariables false
set_option linter.unusedSimpArgs false

theorem step_appB {W w0 : World} {ops : Array Oper} {o : Oper} {a : Act} {K : Act → World → Prop} {Q : Exit → Act → World → Prop} {E : Prop} (hgd : o.guard = none) (s x : Operand)
    (ho : o.op = .call { callee := .builtin .append, args := #[s, x], argTypes := #[37, 37] })
    (B B0 : Nat) (hB0 : B0 ≤ B) (v : Value) (zs : List Bool) (hs : a.eval s = v) (hown : OwnB B W v zs) (hB : Below B0 w0 W)
    (news : List Bool) (ad : Addr) (c : Nat) (hx : a.eval x = .slice (some ad) news.length c) (hc : ∀ j (_ : j < news.length), W.cell? (ad.add j) = some (.bool news[j]))
    (hl : zs.length + news.length ≤ 1099511627776) (hbs : B ≤ W.heap.size)
    (h : ∀ v' w', OwnB B w' v' (zs ++ news) → Below B0 w0 w' → W.grownBy w' v.ownBlock → K (a.put o.dst v') w') :
    if Region.wanted o (yielded ops a.tmps) = true then Oper.wp Try.prog o a W K Q else E := by
  have hw : Region.wanted o (yielded ops a.tmps) = true := by simp [Region.wanted, hgd]
  rw [if_pos hw]
  obtain ⟨i0, hi, hz0, hz1, hz2⟩ := info_parts info_bool
  refine wp_append_own _ s x 37 ho B 4 i0 (.bool false) 1 1 Try.underlying37 hi hz0 hz1 hz2 rfl (by decide) v zs.length (zs.map Value.bool) hs hown ad news.length c (news.map Value.bool) hx (by simp) ?_ (bools_oneCell _) (by unfold maxLen; omega) (by omega) hbs ?_
  · intro j u hu
    obtain ⟨hj, e⟩ := List.getElem?_eq_some_iff.1 hu
    rw [List.length_map] at hj
    rw [hc j hj, ← e]; simp
  · intro v' w' h1 h2 _
    refine h v' w' (by unfold OwnB; simpa using h1) (hB.grown h2 (by omega) fun k hk => ?_) h2
    exact Nat.le_trans hB0 (World.ownsRow.lt hown k hk).1
end Go.Proofs.Ytnhcoggjnbldiaa
