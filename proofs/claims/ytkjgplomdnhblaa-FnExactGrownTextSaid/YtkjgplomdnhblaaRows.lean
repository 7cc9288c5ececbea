/-
  No cell of these rows narrows 'for every input' (looked for: loops, veiled, ifaces, maps, wideKeys, modest, calm, conditions, laid).
  DERIVED. THE GIVEN ROWS OF THIS SEAT. 3 by the template 'for every input the law returns true; each argument reads behind the call as it read before'; 0 by the template 'total and deterministic' (their statements: YtkjgplomdnhblaaTotals.lean).
  GIVEN WITH THE SEED: the statements are not yours to turn. If you find one false, say at which input.
  Laid BY PROGRAM, IN A SANDBOX (cutbox-rows.mjs): the forced cells as the released guide's own fill.sh prints them over the translation 50ff4360c7f67223… (all of the seat's roots in one cut). By AI agents, Wed Nov 11 2026. No macro, syntax, notation, axiom, sorry.
-/
import Derived.Test.YtkjgplomdnhblaaChecked
import GoSem.Claim
import GoSem.ClaimJoined
import GoSem.ClaimMapViews
import Derived.JoinedTies
import Derived.KernelRfl
namespace Go.Proofs.Ytkjgplomdnhblaa
/- THE CELL 'sum', in the pinned program and in every row, IS THE sha256 OF THE DUMP (.gsa) THAT YtkjgplomdnhblaaProg.lean LOADS. Nothing in Lean hashes anything: it is a label: what it is worth is what the hold of that sum in a sandbox is worth. -/
noncomputable def Try.pinned : Pinned := { name := "ytkjgplomdnhblaa", sum := "50ff4360c7f672235d28140c067078ba4adc15e4aaba1f85c6c99a8c2e35426b", checked := Try.checked }
namespace Rows
def none {H : Type} : Left H := { results := [], args := [] }

/-- 'laws.FnExactSlidText': WHATEVER THE INPUT: true; the input reads as it did. -/
def fnExactSlidTextSpec : ChangeSpec := { name := "fnExactSlidText", fn := fun _ => fun
  | [d1, d2] => { results := [.lit (.bool true)], args := [d1, d2] }
  | _ => none }
def fnExactSlidTextRow : OpenClaim := { program := "ytkjgplomdnhblaa", sum := "50ff4360c7f672235d28140c067078ba4adc15e4aaba1f85c6c99a8c2e35426b", func := "loop.example/g01364/laws.FnExactSlidText", spec := "fnExactSlidText", unfollowed := true, recurses := true, plainKeys := false, apart := false }
def FnExactSlidTextSaid : Prop := fnExactSlidTextRow.holds Try.pinned (OpenSpec.ofChange fnExactSlidTextSpec)

/-- ITS FALSE NEIGHBOUR: 'it returns false'. Refute it at one input. -/
def fnExactSlidTextWrong : ChangeSpec := { name := "fnExactSlidText", fn := fun _ => fun
  | [d1, d2] => { results := [.lit (.bool false)], args := [d1, d2] }
  | _ => none }
def FnExactSlidTextWrongFalsely : Prop := fnExactSlidTextRow.holds Try.pinned (OpenSpec.ofChange fnExactSlidTextWrong)

/-- 'laws.FnExactGrowPairs': WHATEVER THE INPUT: true; the input reads as it did. -/
def fnExactGrowPairsSpec : ChangeSpec := { name := "fnExactGrowPairs", fn := fun _ => fun
  | [d1, d2] => { results := [.lit (.bool true)], args := [d1, d2] }
  | _ => none }
def fnExactGrowPairsRow : OpenClaim := { program := "ytkjgplomdnhblaa", sum := "50ff4360c7f672235d28140c067078ba4adc15e4aaba1f85c6c99a8c2e35426b", func := "loop.example/g01364/laws.FnExactGrowPairs", spec := "fnExactGrowPairs", plainKeys := false, apart := false }
def FnExactGrowPairsSaid : Prop := fnExactGrowPairsRow.holds Try.pinned (OpenSpec.ofChange fnExactGrowPairsSpec)

/-- ITS FALSE NEIGHBOUR: 'it returns false'. Refute it at one input. -/
def fnExactGrowPairsWrong : ChangeSpec := { name := "fnExactGrowPairs", fn := fun _ => fun
  | [d1, d2] => { results := [.lit (.bool false)], args := [d1, d2] }
  | _ => none }
def FnExactGrowPairsWrongFalsely : Prop := fnExactGrowPairsRow.holds Try.pinned (OpenSpec.ofChange fnExactGrowPairsWrong)

/-- 'laws.FnExactGrownText': WHATEVER THE INPUT: true; the input reads as it did. -/
def fnExactGrownTextSpec : ChangeSpec := { name := "fnExactGrownText", fn := fun _ => fun
  | [d1, d2] => { results := [.lit (.bool true)], args := [d1, d2] }
  | _ => none }
def fnExactGrownTextRow : OpenClaim := { program := "ytkjgplomdnhblaa", sum := "50ff4360c7f672235d28140c067078ba4adc15e4aaba1f85c6c99a8c2e35426b", func := "loop.example/g01364/laws.FnExactGrownText", spec := "fnExactGrownText", unfollowed := true, recurses := true, plainKeys := false, apart := false }
def FnExactGrownTextSaid : Prop := fnExactGrownTextRow.holds Try.pinned (OpenSpec.ofChange fnExactGrownTextSpec)

/-- ITS FALSE NEIGHBOUR: 'it returns false'. Refute it at one input. -/
def fnExactGrownTextWrong : ChangeSpec := { name := "fnExactGrownText", fn := fun _ => fun
  | [d1, d2] => { results := [.lit (.bool false)], args := [d1, d2] }
  | _ => none }
def FnExactGrownTextWrongFalsely : Prop := fnExactGrownTextRow.holds Try.pinned (OpenSpec.ofChange fnExactGrownTextWrong)

/- THE SECOND FORM. 'bulk': how many values and letters a reading holds, each counted each time it is reached (what is shared counts as often as it is met; a slice's spare places count too). A statement '..UptoSaid' is the law's where the arguments, and the package variables that the reading takes, are together of bulk at most 1048576: NARROWER than '..Said'. Prove '..Said' where nothing that the law and all that it calls make is longer than what came in: it says more and counts as full. Else prove '..UptoSaid'. A law counts once. -/
mutual
def uptoBulk {H : Type} : DataW H → Nat
  | .lit (.string bytes) => bytes.length + 1
  | .lit _ => 1
  | .nil => 1
  | .ptr d => uptoBulk d + 1
  | .slice elems spare => uptoBulkAll elems + uptoBulkAll spare + 1
  | .agg parts => uptoBulkAll parts + 1
  | .iface _ d => uptoBulk d + 1
  | .map entries => uptoBulkEntries entries + 1
  | .held _ => 1
def uptoBulkAll {H : Type} : List (DataW H) → Nat
  | [] => 0
  | d :: r => uptoBulk d + uptoBulkAll r
def uptoBulkEntries {H : Type} : List (Lit × DataW H) → Nat
  | [] => 0
  | x :: r => uptoBulkEntry x + uptoBulkEntries r
def uptoBulkEntry {H : Type} : Lit × DataW H → Nat
  | (.string bytes, d) => bytes.length + uptoBulk d + 1
  | (_, d) => uptoBulk d + 1
 end
def uptoSmall : (H : Type) → List (DataW H) → Bool := fun _ ds => decide (uptoBulkAll ds ≤ 1048576)
def OpenSpec.upto (s : _root_.Go.ChangeSpec) : _root_.Go.OpenSpec := { _root_.Go.OpenSpec.ofChange s with cond := some uptoSmall }

/-- 'laws.FnExactSlidText', WHERE WHAT IT READS IS OF BULK AT MOST 1048576: true; the input reads as it did. -/
def fnExactSlidTextUptoRow : OpenClaim := { program := "ytkjgplomdnhblaa", sum := "50ff4360c7f672235d28140c067078ba4adc15e4aaba1f85c6c99a8c2e35426b", func := "loop.example/g01364/laws.FnExactSlidText", spec := "fnExactSlidText", unfollowed := true, recurses := true, plainKeys := false, apart := false, narrowed := true }
def FnExactSlidTextUptoSaid : Prop := fnExactSlidTextUptoRow.holds Try.pinned (OpenSpec.upto fnExactSlidTextSpec)

/-- 'laws.FnExactGrowPairs', WHERE WHAT IT READS IS OF BULK AT MOST 1048576: true; the input reads as it did. -/
def fnExactGrowPairsUptoRow : OpenClaim := { program := "ytkjgplomdnhblaa", sum := "50ff4360c7f672235d28140c067078ba4adc15e4aaba1f85c6c99a8c2e35426b", func := "loop.example/g01364/laws.FnExactGrowPairs", spec := "fnExactGrowPairs", plainKeys := false, apart := false, narrowed := true }
def FnExactGrowPairsUptoSaid : Prop := fnExactGrowPairsUptoRow.holds Try.pinned (OpenSpec.upto fnExactGrowPairsSpec)

/-- 'laws.FnExactGrownText', WHERE WHAT IT READS IS OF BULK AT MOST 1048576: true; the input reads as it did. -/
def fnExactGrownTextUptoRow : OpenClaim := { program := "ytkjgplomdnhblaa", sum := "50ff4360c7f672235d28140c067078ba4adc15e4aaba1f85c6c99a8c2e35426b", func := "loop.example/g01364/laws.FnExactGrownText", spec := "fnExactGrownText", unfollowed := true, recurses := true, plainKeys := false, apart := false, narrowed := true }
def FnExactGrownTextUptoSaid : Prop := fnExactGrownTextUptoRow.holds Try.pinned (OpenSpec.upto fnExactGrownTextSpec)

end Rows
end Go.Proofs.Ytkjgplomdnhblaa
