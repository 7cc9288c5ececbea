/- Ranges of letters, in the reference: a range is narrowed to a letter, doubled, bits are told. Conditions: counts of at least 1, not above 16384 in all; a range of 16 bits. -/
import Derived.Test.YtbhconogaoghmaaRngJ
import Derived.Deep.LoopGhost
import Derived.Handy
namespace Go.Proofs.Ytbhconogaoghmaa
open Go.RowKit
set_option maxRecDepth 100000
set_option linter.unusedVariables false
set_option linter.unusedSimpArgs false
attribute [local go_sem ↓] Go.wp_at_zero Go.wp_at_succ

theorem blk4 {W : World} {b : Nat} {x y z u : Value} {t : TypeId} (h : W.heap[b]? = some (.cells #[x, y, z, u] t (0, 0))) :
    (W.cell? ⟨b, 0, none⟩ = some x ∧ W.cell? ⟨b, 1, none⟩ = some y ∧ W.cell? ⟨b, 2, none⟩ = some z ∧ W.cell? ⟨b, 3, none⟩ = some u) ∧ ∀ i, W.frozen? ⟨b, i, none⟩ = false :=
  ⟨⟨by rw [cell_of_row _ _ _ _ _ _ h]; rfl, by rw [cell_of_row _ _ _ _ _ _ h]; rfl, by rw [cell_of_row _ _ _ _ _ _ h]; rfl, by rw [cell_of_row _ _ _ _ _ _ h]; rfl⟩, fun i => frozen_of_row _ _ _ _ _ h⟩
theorem four0 {W : World} {b : Nat} {x y z u v : Value} {t : TypeId} (h : W.heap[b]? = some (.cells #[x, y, z, u] t (0, 0))) : (W.setCell ⟨b, 0, none⟩ v).heap[b]? = some (.cells #[v, y, z, u] t (0, 0)) :=
  heap_setCell_same W b 0 #[x, y, z, u] t v h
theorem four1 {W : World} {b : Nat} {x y z u v : Value} {t : TypeId} (h : W.heap[b]? = some (.cells #[x, y, z, u] t (0, 0))) : (W.setCell ⟨b, 1, none⟩ v).heap[b]? = some (.cells #[x, v, z, u] t (0, 0)) :=
  heap_setCell_same W b 1 #[x, y, z, u] t v h
theorem four2 {W : World} {b : Nat} {x y z u v : Value} {t : TypeId} (h : W.heap[b]? = some (.cells #[x, y, z, u] t (0, 0))) : (W.setCell ⟨b, 2, none⟩ v).heap[b]? = some (.cells #[x, y, v, u] t (0, 0)) :=
  heap_setCell_same W b 2 #[x, y, z, u] t v h
theorem four3 {W : World} {b : Nat} {x y z u v : Value} {t : TypeId} (h : W.heap[b]? = some (.cells #[x, y, z, u] t (0, 0))) : (W.setCell ⟨b, 3, none⟩ v).heap[b]? = some (.cells #[x, y, z, v] t (0, 0)) :=
  heap_setCell_same W b 3 #[x, y, z, u] t v h
theorem sndF_next {B S : Nat} {w wr w' : World} (hk : Kpt (SndF B S w) w wr) (k : Kpt (SndF B S wr) wr w') : Kpt (SndF B S w) w w' := by
  refine hk.next k fun i hi => ?_
  by_cases hlt : i < w.heap.size
  · left
    refine Classical.byContradiction fun hn => ?_
    rcases hi with e | ⟨hb, cur, x, hg⟩
    · exact hn (.inl e)
    · rw [hk.block i hlt hn] at hg
      exact hn (.inr ⟨hb, cur, x, hg⟩)
  · right; omega
theorem befo_small {cs : List Int} (hp : Pos cs) (hs : sumL cs ≤ 16384) (k : Nat) : 0 ≤ befo cs k ∧ befo cs k ≤ 16384 := by have := befo_bd hp k; omega
end Go.Proofs.Ytbhconogaoghmaa
