/-
  No cell of these rows narrows 'for every input' (looked for: loops, veiled, ifaces, maps, wideKeys, modest, calm, conditions, laid).
  DERIVED. THE GIVEN ROWS OF THIS SEAT. 12 by the template 'for every input the law returns true; each argument reads behind the call as it read before'; 0 by the template 'total and deterministic' (their statements: YtgkgfpljblnpnaaTotals.lean).
  GIVEN WITH THE SEED: the statements are not yours to turn. If you find one false, say at which input.
  Laid BY PROGRAM, IN A SANDBOX (cutbox-rows.mjs): the forced cells as the released guide's own fill.sh prints them over the translation 548fc06129344f89… (all of the seat's roots in one cut). By AI agents, Wed Nov 11 2026. No macro, syntax, notation, axiom, sorry.
-/
import Derived.Test.YtgkgfpljblnpnaaChecked
import GoSem.Claim
import GoSem.ClaimJoined
import GoSem.ClaimMapViews
import Derived.JoinedTies
import Derived.KernelRfl
namespace Go.Proofs.Ytgkgfpljblnpnaa
/- THE CELL 'sum', in the pinned program and in every row, IS THE sha256 OF THE DUMP (.gsa) THAT YtgkgfpljblnpnaaProg.lean LOADS. Nothing in Lean hashes anything: it is a label: what it is worth is what the hold of that sum in a sandbox is worth. -/
noncomputable def Try.pinned : Pinned := { name := "ytgkgfpljblnpnaa", sum := "548fc06129344f89161a742e86cb9a8483cc6c13c5b7827e221d5beede4fe6fe", checked := Try.checked }
namespace Rows
def none {H : Type} : Left H := { results := [], args := [] }

/-- 'laws.FnExactSlidText': WHATEVER THE INPUT: true; the input reads as it did. -/
def fnExactSlidTextSpec : ChangeSpec := { name := "fnExactSlidText", fn := fun _ => fun
  | [d1, d2] => { results := [.lit (.bool true)], args := [d1, d2] }
  | _ => none }
def fnExactSlidTextRow : OpenClaim := { program := "ytgkgfpljblnpnaa", sum := "548fc06129344f89161a742e86cb9a8483cc6c13c5b7827e221d5beede4fe6fe", func := "loop.example/g01364/laws.FnExactSlidText", spec := "fnExactSlidText", unfollowed := true, recurses := true, plainKeys := false, apart := false }
def FnExactSlidTextSaid : Prop := fnExactSlidTextRow.holds Try.pinned (OpenSpec.ofChange fnExactSlidTextSpec)

/-- ITS FALSE NEIGHBOUR: 'it returns false'. Refute it at one input. -/
def fnExactSlidTextWrong : ChangeSpec := { name := "fnExactSlidText", fn := fun _ => fun
  | [d1, d2] => { results := [.lit (.bool false)], args := [d1, d2] }
  | _ => none }
def FnExactSlidTextWrongFalsely : Prop := fnExactSlidTextRow.holds Try.pinned (OpenSpec.ofChange fnExactSlidTextWrong)

/-- 'laws.FnExactSlidePairs': WHATEVER THE INPUT: true; the input reads as it did. -/
def fnExactSlidePairsSpec : ChangeSpec := { name := "fnExactSlidePairs", fn := fun _ => fun
  | [d1, d2, d3] => { results := [.lit (.bool true)], args := [d1, d2, d3] }
  | _ => none }
def fnExactSlidePairsRow : OpenClaim := { program := "ytgkgfpljblnpnaa", sum := "548fc06129344f89161a742e86cb9a8483cc6c13c5b7827e221d5beede4fe6fe", func := "loop.example/g01364/laws.FnExactSlidePairs", spec := "fnExactSlidePairs", plainKeys := false, apart := false }
def FnExactSlidePairsSaid : Prop := fnExactSlidePairsRow.holds Try.pinned (OpenSpec.ofChange fnExactSlidePairsSpec)

/-- ITS FALSE NEIGHBOUR: 'it returns false'. Refute it at one input. -/
def fnExactSlidePairsWrong : ChangeSpec := { name := "fnExactSlidePairs", fn := fun _ => fun
  | [d1, d2, d3] => { results := [.lit (.bool false)], args := [d1, d2, d3] }
  | _ => none }
def FnExactSlidePairsWrongFalsely : Prop := fnExactSlidePairsRow.holds Try.pinned (OpenSpec.ofChange fnExactSlidePairsWrong)

/-- 'laws.FnExactUnmergeText': WHATEVER THE INPUT: true; the input reads as it did. -/
def fnExactUnmergeTextSpec : ChangeSpec := { name := "fnExactUnmergeText", fn := fun _ => fun
  | [d1, d2, d3] => { results := [.lit (.bool true)], args := [d1, d2, d3] }
  | _ => none }
def fnExactUnmergeTextRow : OpenClaim := { program := "ytgkgfpljblnpnaa", sum := "548fc06129344f89161a742e86cb9a8483cc6c13c5b7827e221d5beede4fe6fe", func := "loop.example/g01364/laws.FnExactUnmergeText", spec := "fnExactUnmergeText", plainKeys := false, apart := false }
def FnExactUnmergeTextSaid : Prop := fnExactUnmergeTextRow.holds Try.pinned (OpenSpec.ofChange fnExactUnmergeTextSpec)

/-- ITS FALSE NEIGHBOUR: 'it returns false'. Refute it at one input. -/
def fnExactUnmergeTextWrong : ChangeSpec := { name := "fnExactUnmergeText", fn := fun _ => fun
  | [d1, d2, d3] => { results := [.lit (.bool false)], args := [d1, d2, d3] }
  | _ => none }
def FnExactUnmergeTextWrongFalsely : Prop := fnExactUnmergeTextRow.holds Try.pinned (OpenSpec.ofChange fnExactUnmergeTextWrong)

/-- 'laws.FnExactEvenCounts': WHATEVER THE INPUT: true; the input reads as it did. -/
def fnExactEvenCountsSpec : ChangeSpec := { name := "fnExactEvenCounts", fn := fun _ => fun
  | [d] => { results := [.lit (.bool true)], args := [d] }
  | _ => none }
def fnExactEvenCountsRow : OpenClaim := { program := "ytgkgfpljblnpnaa", sum := "548fc06129344f89161a742e86cb9a8483cc6c13c5b7827e221d5beede4fe6fe", func := "loop.example/g01364/laws.FnExactEvenCounts", spec := "fnExactEvenCounts", plainKeys := false, apart := false }
def FnExactEvenCountsSaid : Prop := fnExactEvenCountsRow.holds Try.pinned (OpenSpec.ofChange fnExactEvenCountsSpec)

/-- ITS FALSE NEIGHBOUR: 'it returns false'. Refute it at one input. -/
def fnExactEvenCountsWrong : ChangeSpec := { name := "fnExactEvenCounts", fn := fun _ => fun
  | [d] => { results := [.lit (.bool false)], args := [d] }
  | _ => none }
def FnExactEvenCountsWrongFalsely : Prop := fnExactEvenCountsRow.holds Try.pinned (OpenSpec.ofChange fnExactEvenCountsWrong)

/-- 'laws.FnExactGrowPairs': WHATEVER THE INPUT: true; the input reads as it did. -/
def fnExactGrowPairsSpec : ChangeSpec := { name := "fnExactGrowPairs", fn := fun _ => fun
  | [d1, d2] => { results := [.lit (.bool true)], args := [d1, d2] }
  | _ => none }
def fnExactGrowPairsRow : OpenClaim := { program := "ytgkgfpljblnpnaa", sum := "548fc06129344f89161a742e86cb9a8483cc6c13c5b7827e221d5beede4fe6fe", func := "loop.example/g01364/laws.FnExactGrowPairs", spec := "fnExactGrowPairs", plainKeys := false, apart := false }
def FnExactGrowPairsSaid : Prop := fnExactGrowPairsRow.holds Try.pinned (OpenSpec.ofChange fnExactGrowPairsSpec)

/-- ITS FALSE NEIGHBOUR: 'it returns false'. Refute it at one input. -/
def fnExactGrowPairsWrong : ChangeSpec := { name := "fnExactGrowPairs", fn := fun _ => fun
  | [d1, d2] => { results := [.lit (.bool false)], args := [d1, d2] }
  | _ => none }
def FnExactGrowPairsWrongFalsely : Prop := fnExactGrowPairsRow.holds Try.pinned (OpenSpec.ofChange fnExactGrowPairsWrong)

/-- 'laws.FnExactHalveCounts': WHATEVER THE INPUT: true; the input reads as it did. -/
def fnExactHalveCountsSpec : ChangeSpec := { name := "fnExactHalveCounts", fn := fun _ => fun
  | [d] => { results := [.lit (.bool true)], args := [d] }
  | _ => none }
def fnExactHalveCountsRow : OpenClaim := { program := "ytgkgfpljblnpnaa", sum := "548fc06129344f89161a742e86cb9a8483cc6c13c5b7827e221d5beede4fe6fe", func := "loop.example/g01364/laws.FnExactHalveCounts", spec := "fnExactHalveCounts", plainKeys := false, apart := false }
def FnExactHalveCountsSaid : Prop := fnExactHalveCountsRow.holds Try.pinned (OpenSpec.ofChange fnExactHalveCountsSpec)

/-- ITS FALSE NEIGHBOUR: 'it returns false'. Refute it at one input. -/
def fnExactHalveCountsWrong : ChangeSpec := { name := "fnExactHalveCounts", fn := fun _ => fun
  | [d] => { results := [.lit (.bool false)], args := [d] }
  | _ => none }
def FnExactHalveCountsWrongFalsely : Prop := fnExactHalveCountsRow.holds Try.pinned (OpenSpec.ofChange fnExactHalveCountsWrong)

/-- 'laws.FnExactSpreadTable': WHATEVER THE INPUT: true; the input reads as it did. -/
def fnExactSpreadTableSpec : ChangeSpec := { name := "fnExactSpreadTable", fn := fun _ => fun
  | [d] => { results := [.lit (.bool true)], args := [d] }
  | _ => none }
def fnExactSpreadTableRow : OpenClaim := { program := "ytgkgfpljblnpnaa", sum := "548fc06129344f89161a742e86cb9a8483cc6c13c5b7827e221d5beede4fe6fe", func := "loop.example/g01364/laws.FnExactSpreadTable", spec := "fnExactSpreadTable", plainKeys := false, apart := false }
def FnExactSpreadTableSaid : Prop := fnExactSpreadTableRow.holds Try.pinned (OpenSpec.ofChange fnExactSpreadTableSpec)

/-- ITS FALSE NEIGHBOUR: 'it returns false'. Refute it at one input. -/
def fnExactSpreadTableWrong : ChangeSpec := { name := "fnExactSpreadTable", fn := fun _ => fun
  | [d] => { results := [.lit (.bool false)], args := [d] }
  | _ => none }
def FnExactSpreadTableWrongFalsely : Prop := fnExactSpreadTableRow.holds Try.pinned (OpenSpec.ofChange fnExactSpreadTableWrong)

/-- 'laws.FnExactPutCount': WHATEVER THE INPUT: true; the input reads as it did. -/
def fnExactPutCountSpec : ChangeSpec := { name := "fnExactPutCount", fn := fun _ => fun
  | [d1, d2, d3] => { results := [.lit (.bool true)], args := [d1, d2, d3] }
  | _ => none }
def fnExactPutCountRow : OpenClaim := { program := "ytgkgfpljblnpnaa", sum := "548fc06129344f89161a742e86cb9a8483cc6c13c5b7827e221d5beede4fe6fe", func := "loop.example/g01364/laws.FnExactPutCount", spec := "fnExactPutCount", plainKeys := false, apart := false }
def FnExactPutCountSaid : Prop := fnExactPutCountRow.holds Try.pinned (OpenSpec.ofChange fnExactPutCountSpec)

/-- ITS FALSE NEIGHBOUR: 'it returns false'. Refute it at one input. -/
def fnExactPutCountWrong : ChangeSpec := { name := "fnExactPutCount", fn := fun _ => fun
  | [d1, d2, d3] => { results := [.lit (.bool false)], args := [d1, d2, d3] }
  | _ => none }
def FnExactPutCountWrongFalsely : Prop := fnExactPutCountRow.holds Try.pinned (OpenSpec.ofChange fnExactPutCountWrong)

/-- 'laws.FnExactMergeText': WHATEVER THE INPUT: true; the input reads as it did. -/
def fnExactMergeTextSpec : ChangeSpec := { name := "fnExactMergeText", fn := fun _ => fun
  | [d1, d2, d3] => { results := [.lit (.bool true)], args := [d1, d2, d3] }
  | _ => none }
def fnExactMergeTextRow : OpenClaim := { program := "ytgkgfpljblnpnaa", sum := "548fc06129344f89161a742e86cb9a8483cc6c13c5b7827e221d5beede4fe6fe", func := "loop.example/g01364/laws.FnExactMergeText", spec := "fnExactMergeText", plainKeys := false, apart := false }
def FnExactMergeTextSaid : Prop := fnExactMergeTextRow.holds Try.pinned (OpenSpec.ofChange fnExactMergeTextSpec)

/-- ITS FALSE NEIGHBOUR: 'it returns false'. Refute it at one input. -/
def fnExactMergeTextWrong : ChangeSpec := { name := "fnExactMergeText", fn := fun _ => fun
  | [d1, d2, d3] => { results := [.lit (.bool false)], args := [d1, d2, d3] }
  | _ => none }
def FnExactMergeTextWrongFalsely : Prop := fnExactMergeTextRow.holds Try.pinned (OpenSpec.ofChange fnExactMergeTextWrong)

/-- 'laws.FnExactCountsOf': WHATEVER THE INPUT: true; the input reads as it did. -/
def fnExactCountsOfSpec : ChangeSpec := { name := "fnExactCountsOf", fn := fun _ => fun
  | [d1, d2] => { results := [.lit (.bool true)], args := [d1, d2] }
  | _ => none }
def fnExactCountsOfRow : OpenClaim := { program := "ytgkgfpljblnpnaa", sum := "548fc06129344f89161a742e86cb9a8483cc6c13c5b7827e221d5beede4fe6fe", func := "loop.example/g01364/laws.FnExactCountsOf", spec := "fnExactCountsOf", plainKeys := false, apart := false }
def FnExactCountsOfSaid : Prop := fnExactCountsOfRow.holds Try.pinned (OpenSpec.ofChange fnExactCountsOfSpec)

/-- ITS FALSE NEIGHBOUR: 'it returns false'. Refute it at one input. -/
def fnExactCountsOfWrong : ChangeSpec := { name := "fnExactCountsOf", fn := fun _ => fun
  | [d1, d2] => { results := [.lit (.bool false)], args := [d1, d2] }
  | _ => none }
def FnExactCountsOfWrongFalsely : Prop := fnExactCountsOfRow.holds Try.pinned (OpenSpec.ofChange fnExactCountsOfWrong)

/-- 'laws.FnExactGrownText': WHATEVER THE INPUT: true; the input reads as it did. -/
def fnExactGrownTextSpec : ChangeSpec := { name := "fnExactGrownText", fn := fun _ => fun
  | [d1, d2] => { results := [.lit (.bool true)], args := [d1, d2] }
  | _ => none }
def fnExactGrownTextRow : OpenClaim := { program := "ytgkgfpljblnpnaa", sum := "548fc06129344f89161a742e86cb9a8483cc6c13c5b7827e221d5beede4fe6fe", func := "loop.example/g01364/laws.FnExactGrownText", spec := "fnExactGrownText", unfollowed := true, recurses := true, plainKeys := false, apart := false }
def FnExactGrownTextSaid : Prop := fnExactGrownTextRow.holds Try.pinned (OpenSpec.ofChange fnExactGrownTextSpec)

/-- ITS FALSE NEIGHBOUR: 'it returns false'. Refute it at one input. -/
def fnExactGrownTextWrong : ChangeSpec := { name := "fnExactGrownText", fn := fun _ => fun
  | [d1, d2] => { results := [.lit (.bool false)], args := [d1, d2] }
  | _ => none }
def FnExactGrownTextWrongFalsely : Prop := fnExactGrownTextRow.holds Try.pinned (OpenSpec.ofChange fnExactGrownTextWrong)

/-- 'laws.FnDictionaries': WHATEVER THE INPUT: true; the input reads as it did. -/
def fnDictionariesSpec : ChangeSpec := { name := "fnDictionaries", fn := fun _ => fun
  | [d1, d2] => { results := [.lit (.bool true)], args := [d1, d2] }
  | _ => none }
def fnDictionariesRow : OpenClaim := { program := "ytgkgfpljblnpnaa", sum := "548fc06129344f89161a742e86cb9a8483cc6c13c5b7827e221d5beede4fe6fe", func := "loop.example/g01364/laws.FnDictionaries", spec := "fnDictionaries", unfollowed := true, recurses := true, plainKeys := false, apart := false }
def FnDictionariesSaid : Prop := fnDictionariesRow.holds Try.pinned (OpenSpec.ofChange fnDictionariesSpec)

/-- ITS FALSE NEIGHBOUR: 'it returns false'. Refute it at one input. -/
def fnDictionariesWrong : ChangeSpec := { name := "fnDictionaries", fn := fun _ => fun
  | [d1, d2] => { results := [.lit (.bool false)], args := [d1, d2] }
  | _ => none }
def FnDictionariesWrongFalsely : Prop := fnDictionariesRow.holds Try.pinned (OpenSpec.ofChange fnDictionariesWrong)

/- THE SECOND FORM. 'bulk': how many values and letters a reading holds, each counted each time it is reached (what is shared counts as often as it is met; a slice's spare places count too). A statement '..UptoSaid' is the law's where the arguments, and the package variables that the reading takes, are together of bulk at most 1048576: NARROWER than '..Said'. Prove '..Said' where nothing that the law and all that it calls make is longer than what came in: it says more and counts as full. Else prove '..UptoSaid'. A law counts once. -/
mutual
def uptoBulk {H : Type} : DataW H → Nat
  | .lit (.string bytes) => bytes.length + 1
  | .lit _ => 1
  | .nil => 1
  | .ptr d => uptoBulk d + 1
  | .slice elems spare => uptoBulkAll elems + uptoBulkAll spare + 1
  | .agg parts => uptoBulkAll parts + 1
  | .iface _ d => uptoBulk d + 1
  | .map entries => uptoBulkEntries entries + 1
  | .held _ => 1
def uptoBulkAll {H : Type} : List (DataW H) → Nat
  | [] => 0
  | d :: r => uptoBulk d + uptoBulkAll r
def uptoBulkEntries {H : Type} : List (Lit × DataW H) → Nat
  | [] => 0
  | x :: r => uptoBulkEntry x + uptoBulkEntries r
def uptoBulkEntry {H : Type} : Lit × DataW H → Nat
  | (.string bytes, d) => bytes.length + uptoBulk d + 1
  | (_, d) => uptoBulk d + 1
 end
def uptoSmall : (H : Type) → List (DataW H) → Bool := fun _ ds => decide (uptoBulkAll ds ≤ 1048576)
def OpenSpec.upto (s : _root_.Go.ChangeSpec) : _root_.Go.OpenSpec := { _root_.Go.OpenSpec.ofChange s with cond := some uptoSmall }

/-- 'laws.FnExactSlidText', WHERE WHAT IT READS IS OF BULK AT MOST 1048576: true; the input reads as it did. -/
def fnExactSlidTextUptoRow : OpenClaim := { program := "ytgkgfpljblnpnaa", sum := "548fc06129344f89161a742e86cb9a8483cc6c13c5b7827e221d5beede4fe6fe", func := "loop.example/g01364/laws.FnExactSlidText", spec := "fnExactSlidText", unfollowed := true, recurses := true, plainKeys := false, apart := false, narrowed := true }
def FnExactSlidTextUptoSaid : Prop := fnExactSlidTextUptoRow.holds Try.pinned (OpenSpec.upto fnExactSlidTextSpec)

/-- 'laws.FnExactSlidePairs', WHERE WHAT IT READS IS OF BULK AT MOST 1048576: true; the input reads as it did. -/
def fnExactSlidePairsUptoRow : OpenClaim := { program := "ytgkgfpljblnpnaa", sum := "548fc06129344f89161a742e86cb9a8483cc6c13c5b7827e221d5beede4fe6fe", func := "loop.example/g01364/laws.FnExactSlidePairs", spec := "fnExactSlidePairs", plainKeys := false, apart := false, narrowed := true }
def FnExactSlidePairsUptoSaid : Prop := fnExactSlidePairsUptoRow.holds Try.pinned (OpenSpec.upto fnExactSlidePairsSpec)

/-- 'laws.FnExactUnmergeText', WHERE WHAT IT READS IS OF BULK AT MOST 1048576: true; the input reads as it did. -/
def fnExactUnmergeTextUptoRow : OpenClaim := { program := "ytgkgfpljblnpnaa", sum := "548fc06129344f89161a742e86cb9a8483cc6c13c5b7827e221d5beede4fe6fe", func := "loop.example/g01364/laws.FnExactUnmergeText", spec := "fnExactUnmergeText", plainKeys := false, apart := false, narrowed := true }
def FnExactUnmergeTextUptoSaid : Prop := fnExactUnmergeTextUptoRow.holds Try.pinned (OpenSpec.upto fnExactUnmergeTextSpec)

/-- 'laws.FnExactEvenCounts', WHERE WHAT IT READS IS OF BULK AT MOST 1048576: true; the input reads as it did. -/
def fnExactEvenCountsUptoRow : OpenClaim := { program := "ytgkgfpljblnpnaa", sum := "548fc06129344f89161a742e86cb9a8483cc6c13c5b7827e221d5beede4fe6fe", func := "loop.example/g01364/laws.FnExactEvenCounts", spec := "fnExactEvenCounts", plainKeys := false, apart := false, narrowed := true }
def FnExactEvenCountsUptoSaid : Prop := fnExactEvenCountsUptoRow.holds Try.pinned (OpenSpec.upto fnExactEvenCountsSpec)

/-- 'laws.FnExactGrowPairs', WHERE WHAT IT READS IS OF BULK AT MOST 1048576: true; the input reads as it did. -/
def fnExactGrowPairsUptoRow : OpenClaim := { program := "ytgkgfpljblnpnaa", sum := "548fc06129344f89161a742e86cb9a8483cc6c13c5b7827e221d5beede4fe6fe", func := "loop.example/g01364/laws.FnExactGrowPairs", spec := "fnExactGrowPairs", plainKeys := false, apart := false, narrowed := true }
def FnExactGrowPairsUptoSaid : Prop := fnExactGrowPairsUptoRow.holds Try.pinned (OpenSpec.upto fnExactGrowPairsSpec)

/-- 'laws.FnExactHalveCounts', WHERE WHAT IT READS IS OF BULK AT MOST 1048576: true; the input reads as it did. -/
def fnExactHalveCountsUptoRow : OpenClaim := { program := "ytgkgfpljblnpnaa", sum := "548fc06129344f89161a742e86cb9a8483cc6c13c5b7827e221d5beede4fe6fe", func := "loop.example/g01364/laws.FnExactHalveCounts", spec := "fnExactHalveCounts", plainKeys := false, apart := false, narrowed := true }
def FnExactHalveCountsUptoSaid : Prop := fnExactHalveCountsUptoRow.holds Try.pinned (OpenSpec.upto fnExactHalveCountsSpec)

/-- 'laws.FnExactSpreadTable', WHERE WHAT IT READS IS OF BULK AT MOST 1048576: true; the input reads as it did. -/
def fnExactSpreadTableUptoRow : OpenClaim := { program := "ytgkgfpljblnpnaa", sum := "548fc06129344f89161a742e86cb9a8483cc6c13c5b7827e221d5beede4fe6fe", func := "loop.example/g01364/laws.FnExactSpreadTable", spec := "fnExactSpreadTable", plainKeys := false, apart := false, narrowed := true }
def FnExactSpreadTableUptoSaid : Prop := fnExactSpreadTableUptoRow.holds Try.pinned (OpenSpec.upto fnExactSpreadTableSpec)

/-- 'laws.FnExactPutCount', WHERE WHAT IT READS IS OF BULK AT MOST 1048576: true; the input reads as it did. -/
def fnExactPutCountUptoRow : OpenClaim := { program := "ytgkgfpljblnpnaa", sum := "548fc06129344f89161a742e86cb9a8483cc6c13c5b7827e221d5beede4fe6fe", func := "loop.example/g01364/laws.FnExactPutCount", spec := "fnExactPutCount", plainKeys := false, apart := false, narrowed := true }
def FnExactPutCountUptoSaid : Prop := fnExactPutCountUptoRow.holds Try.pinned (OpenSpec.upto fnExactPutCountSpec)

/-- 'laws.FnExactMergeText', WHERE WHAT IT READS IS OF BULK AT MOST 1048576: true; the input reads as it did. -/
def fnExactMergeTextUptoRow : OpenClaim := { program := "ytgkgfpljblnpnaa", sum := "548fc06129344f89161a742e86cb9a8483cc6c13c5b7827e221d5beede4fe6fe", func := "loop.example/g01364/laws.FnExactMergeText", spec := "fnExactMergeText", plainKeys := false, apart := false, narrowed := true }
def FnExactMergeTextUptoSaid : Prop := fnExactMergeTextUptoRow.holds Try.pinned (OpenSpec.upto fnExactMergeTextSpec)

/-- 'laws.FnExactCountsOf', WHERE WHAT IT READS IS OF BULK AT MOST 1048576: true; the input reads as it did. -/
def fnExactCountsOfUptoRow : OpenClaim := { program := "ytgkgfpljblnpnaa", sum := "548fc06129344f89161a742e86cb9a8483cc6c13c5b7827e221d5beede4fe6fe", func := "loop.example/g01364/laws.FnExactCountsOf", spec := "fnExactCountsOf", plainKeys := false, apart := false, narrowed := true }
def FnExactCountsOfUptoSaid : Prop := fnExactCountsOfUptoRow.holds Try.pinned (OpenSpec.upto fnExactCountsOfSpec)

/-- 'laws.FnExactGrownText', WHERE WHAT IT READS IS OF BULK AT MOST 1048576: true; the input reads as it did. -/
def fnExactGrownTextUptoRow : OpenClaim := { program := "ytgkgfpljblnpnaa", sum := "548fc06129344f89161a742e86cb9a8483cc6c13c5b7827e221d5beede4fe6fe", func := "loop.example/g01364/laws.FnExactGrownText", spec := "fnExactGrownText", unfollowed := true, recurses := true, plainKeys := false, apart := false, narrowed := true }
def FnExactGrownTextUptoSaid : Prop := fnExactGrownTextUptoRow.holds Try.pinned (OpenSpec.upto fnExactGrownTextSpec)

/-- 'laws.FnDictionaries', WHERE WHAT IT READS IS OF BULK AT MOST 1048576: true; the input reads as it did. -/
def fnDictionariesUptoRow : OpenClaim := { program := "ytgkgfpljblnpnaa", sum := "548fc06129344f89161a742e86cb9a8483cc6c13c5b7827e221d5beede4fe6fe", func := "loop.example/g01364/laws.FnDictionaries", spec := "fnDictionaries", unfollowed := true, recurses := true, plainKeys := false, apart := false, narrowed := true }
def FnDictionariesUptoSaid : Prop := fnDictionariesUptoRow.holds Try.pinned (OpenSpec.upto fnDictionariesSpec)

end Rows
end Go.Proofs.Ytgkgfpljblnpnaa
