/- Slices of truth values: what the statements' arguments read as, copies, comparisons, marks. No conditions but that the slices read. -/
import Derived.Test.YtbhconogaoghmaaLaws
import Derived.Test.YtbhconogaoghmaaFrame
import Derived.Test.YtbhconogaoghmaaState
import Derived.Deep.Grids
namespace Go.Proofs.Ytbhconogaoghmaa
open Go.ChangeShapes Go.WideShapes Go.ChangeAt Go.RowKit
set_option maxRecDepth 100000
set_option linter.unusedVariables false
set_option linter.unusedSimpArgs false

theorem info_bool : (Try.prog.info? 4).map (fun i => (i.zero, i.size, i.bytes)) = some (some (.bool false), 1, 1) := by kernel_rfl
def marksB (k : Int) (n : Nat) : List Bool := (List.range n).map fun (i : Nat) => (k + (i : Int)) % 3 == 0
theorem marksB_len (k : Int) (n : Nat) : (marksB k n).length = n := by simp [marksB]
theorem marksB_get (k : Int) (n i : Nat) (h : i < (marksB k n).length) : (marksB k n)[i] = ((k + (i : Int)) % 3 == 0) := by simp [marksB]
theorem St.ob {w W : World} {ks : List (Addr × Value)} {l : List (Value × List Value)} {v : Value} {zs : List Bool} (s : St w W ks l) (h : (v, zs.map Value.bool) ∈ l) : Og Value.bool w.heap.size W v zs := (s.env.get h).ofId

section
variable {H : Type} {enc : TypeId × Value → H} {W : World} {base : Nat} {v : Value} {d : DataW H} {p : List MemPlace}
theorem view_bools (hv : Value.okWide Try.prog W .any base 30 v) (h : DataW.Trod enc Try.prog W 0 (fun _ => true) true 30 v d p) : ∃ zs, Rg Value.bool W v zs := by
  obtain ⟨a, len, cap, rfl⟩ := okWide_slice Try.underlying30 hv
  obtain ⟨fuel, hf⟩ := h
  rcases Go.Deep.open_bools Try.underlying30 Try.underlying4 (by kernel_rfl) hf with ⟨hcs, _⟩ | ⟨x, l, c, B, hcs, _, hl, hm, _, hcell⟩
  · simp [Value.cells] at hcs
    obtain ⟨rfl, rfl, rfl⟩ := hcs
    exact ⟨[], none, 0, rfl, by simp, by unfold maxLen; omega, fun i hi => by simp at hi⟩
  · simp [Value.cells] at hcs
    obtain ⟨rfl, rfl, rfl⟩ := hcs
    refine ⟨(List.range len).map B, some x, cap, by simp, by simpa using hl, hm, fun i hi => ?_⟩
    have hi' : i < len := by simpa using hi
    obtain ⟨b, off, spot⟩ := x
    have hspot : spot = none := by simpa [Addr.add] using World.cell?_spot (hcell 0 (by omega))
    subst hspot
    refine ⟨b, off, rfl, ?_⟩
    have hc := hcell i (by omega)
    rw [Addr.add_lit] at hc
    rw [hc]; simp
end

end Go.Proofs.Ytbhconogaoghmaa
