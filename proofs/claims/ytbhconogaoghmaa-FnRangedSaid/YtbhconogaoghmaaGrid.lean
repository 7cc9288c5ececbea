/- Slices of slices of integers: what one reads as; the helpers of the statements' own package for them. No conditions but that the slices read. -/
import Derived.Test.YtbhconogaoghmaaLaws
import Derived.Test.YtbhconogaoghmaaSt
import Derived.Test.YtbhconogaoghmaaMem
import Derived.Test.YtbhconogaoghmaaState
import Derived.Test.YtbhconogaoghmaaKpt
import Derived.Handy
namespace Go.Proofs.Ytbhconogaoghmaa
open Go.RowKit
set_option maxRecDepth 100000
set_option linter.unusedVariables false
set_option linter.unusedSimpArgs false

abbrev Row := Value × List Int
/-- The slice v reads as rows, each of which reads as its list. -/
def SS (w : World) (v : Value) (ps : List Row) : Prop := Rg Prod.fst w v ps ∧ ∀ p ∈ ps, RI w p.1 p.2
/-- .. in memory of block B or later that may be written, the rows apart from one another. -/
def SSo (B : Nat) (w : World) (v : Value) (ps : List Row) : Prop := Og Prod.fst B w v ps ∧ (∀ p ∈ ps, OI B w p.1 p.2) ∧ ps.Pairwise (fun p q => sep p.1 q.1) ∧ ∀ p ∈ ps, sep v p.1
section
variable {w w' : World} {v : Value} {ps : List Row} {B : Nat}
theorem SS.below (hb : Below w.heap.size w w') (h : SS w v ps) : SS w' v ps := ⟨h.1.below hb, fun p hp => (h.2 p hp).below hb⟩
theorem SSo.below (hb : Below w.heap.size w w') (h : SSo B w v ps) : SSo B w' v ps := ⟨h.1.below hb, fun p hp => (h.2.1 p hp).below hb, h.2.2⟩
theorem SSo.ss (h : SSo B w v ps) : SS w v ps := ⟨h.1.rg, fun p hp => (h.2.1 p hp).ri⟩
theorem SS.shape (h : SS w v ps) : ∃ ao cap, v = .slice ao ps.length cap := h.1.shape
theorem SS.len (h : SS w v ps) : ps.length ≤ 9223372036854775807 := h.1.len
end
def totR : List Row → Nat
  | [] => 0
  | p :: ps => p.2.length + totR ps
theorem totR_drop {ps : List Row} {k : Nat} (h : k < ps.length) : totR (ps.drop k) = ps[k].2.length + totR (ps.drop (k + 1)) := by
  rw [List.drop_eq_getElem_cons h, totR]
theorem le_totR {ps : List Row} {p : Row} (h : p ∈ ps) : p.2.length ≤ totR ps := by
  induction ps with
  | nil => cases h
  | cons a t ih =>
    rw [totR]
    rcases List.mem_cons.1 h with rfl | h
    · omega
    · have := ih h; omega
theorem totR_snd {ps qs : List Row} (h : ps.map Prod.snd = qs.map Prod.snd) : totR ps = totR qs := by
  induction ps generalizing qs with
  | nil => cases qs with
    | nil => rfl
    | cons q t => simp at h
  | cons p t ih => cases qs with
    | nil => simp at h
    | cons q s =>
      simp only [List.map_cons, List.cons.injEq] at h
      rw [totR, totR, ih h.2, h.1]
theorem snd_len {ps qs : List Row} (h : ps.map Prod.snd = qs.map Prod.snd) : ps.length = qs.length := by
  have := congrArg List.length h; simpa using this
theorem snd_get {ps qs : List Row} (h : ps.map Prod.snd = qs.map Prod.snd) (k : Nat) (hk : k < ps.length) (hq : k < qs.length) : ps[k].2 = qs[k].2 := by
  have h1 : (ps.map Prod.snd)[k]'(by simpa using hk) = (qs.map Prod.snd)[k]'(by simpa using hq) := by simp only [h]
  simpa using h1
end Go.Proofs.Ytbhconogaoghmaa
