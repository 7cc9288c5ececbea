/- What an argument that is a slice of slices of integers reads as. No conditions. -/
import Derived.Test.YtnhgloplobphnaaGrid
import Derived.Test.YtnhgloplobphnaaFrame
import Derived.Deep.Slices
namespace Go.Proofs.Ytnhgloplobphnaa
open Go.ChangeShapes Go.WideShapes Go.ChangeAt Go.RowKit Go.Deep
set_option maxRecDepth 100000
set_option linter.unusedVariables false

section
variable {H : Type} {enc : TypeId × Value → H} {W : World} {base : Nat} {v : Value} {d : DataW H} {p : List MemPlace}
theorem view_SS (hv : Value.okWide Try.prog W .any base 22 v) (h : DataW.Trod enc Try.prog W 0 (fun _ => true) true 22 v d p) : ∃ ps, SS W v ps := by
  obtain ⟨a, len, cap, rfl⟩ := okWide_slice Try.underlying22 hv
  obtain ⟨fuel, hf⟩ := h
  rcases open_slice1 Try.underlying22 (by kernel_rfl) hf with ⟨hcs, _⟩ | ⟨x, l, c, m, n, V, D, Pl, hcs, _, hl, hm, hmm, _, hx⟩
  · simp [Value.cells] at hcs
    obtain ⟨rfl, rfl, rfl⟩ := hcs
    exact ⟨[], ⟨none, 0, rfl, by simp, by unfold maxLen; omega, fun i hi => by simp at hi⟩, fun p hp => by cases hp⟩
  · simp [Value.cells] at hcs
    obtain ⟨rfl, rfl, rfl⟩ := hcs
    simp only [if_true] at hmm
    subst hmm
    obtain ⟨Z, hZ⟩ := choose_lt (α := List Int) (p := fun r zs => RI W (V r) zs) (fun r hr => view_list (hx r hr).2)
    refine ⟨(List.range len).map (fun r => (V r, Z r)), ⟨some x, m, by simp, by simpa using hl, hm, fun i hi => ?_⟩, fun q hq => ?_⟩
    · have hi' : i < len := by simpa using hi
      have hc := (hx i (by omega)).1
      obtain ⟨b, off, spot⟩ := x
      have hspot : spot = none := by simpa [Addr.add] using World.cell?_spot (hx 0 (by omega)).1
      subst hspot
      refine ⟨b, off, rfl, ?_⟩
      rw [Addr.add_lit] at hc
      rw [hc]; simp
    · obtain ⟨r, hr, rfl⟩ := List.mem_map.1 hq
      exact hZ r (by have := List.mem_range.1 hr; omega)
end
end Go.Proofs.Ytnhgloplobphnaa
