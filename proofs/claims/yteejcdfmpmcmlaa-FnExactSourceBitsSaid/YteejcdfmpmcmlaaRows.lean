/-
  No cell of these rows narrows 'for every input' (looked for: loops, veiled, ifaces, maps, wideKeys, modest, calm, conditions, laid).
  DERIVED. THE GIVEN ROWS OF THIS SEAT. 4 by the template 'for every input the law returns true; each argument reads behind the call as it read before'; 0 by the template 'total and deterministic' (their statements: YteejcdfmpmcmlaaTotals.lean).
  GIVEN WITH THE SEED: the statements are not yours to turn. If you find one false, say at which input.
  Laid BY PROGRAM, IN A SANDBOX (cutbox-rows.mjs): the forced cells as the released guide's own fill.sh prints them over the translation 8bc224e6f4154981… (all of the seat's roots in one cut). By AI agents, Wed Nov 11 2026. No macro, syntax, notation, axiom, sorry.
-/
import Derived.Test.YteejcdfmpmcmlaaChecked
import GoSem.Claim
import GoSem.ClaimJoined
import GoSem.ClaimMapViews
import Derived.JoinedTies
import Derived.KernelRfl
namespace Go.Proofs.Yteejcdfmpmcmlaa
/- THE CELL 'sum', in the pinned program and in every row, IS THE sha256 OF THE DUMP (.gsa) THAT YteejcdfmpmcmlaaProg.lean LOADS. Nothing in Lean hashes anything: it is a label: what it is worth is what the hold of that sum in a sandbox is worth. -/
noncomputable def Try.pinned : Pinned := { name := "yteejcdfmpmcmlaa", sum := "8bc224e6f415498116ea538f19134b4a9f8d5598589c9e306f3385a4583218b9", checked := Try.checked }
namespace Rows
def none {H : Type} : Left H := { results := [], args := [] }

/-- 'laws.FnExactThroughOf': WHATEVER THE INPUT: true; the input reads as it did. -/
def fnExactThroughOfSpec : ChangeSpec := { name := "fnExactThroughOf", fn := fun _ => fun
  | [d1, d2] => { results := [.lit (.bool true)], args := [d1, d2] }
  | _ => none }
def fnExactThroughOfRow : OpenClaim := { program := "yteejcdfmpmcmlaa", sum := "8bc224e6f415498116ea538f19134b4a9f8d5598589c9e306f3385a4583218b9", func := "loop.example/g01364/laws.FnExactThroughOf", spec := "fnExactThroughOf", apart := false }
def FnExactThroughOfSaid : Prop := fnExactThroughOfRow.holds Try.pinned (OpenSpec.ofChange fnExactThroughOfSpec)

/-- ITS FALSE NEIGHBOUR: 'it returns false'. Refute it at one input. -/
def fnExactThroughOfWrong : ChangeSpec := { name := "fnExactThroughOf", fn := fun _ => fun
  | [d1, d2] => { results := [.lit (.bool false)], args := [d1, d2] }
  | _ => none }
def FnExactThroughOfWrongFalsely : Prop := fnExactThroughOfRow.holds Try.pinned (OpenSpec.ofChange fnExactThroughOfWrong)

/-- 'laws.FnExactChainChannels': WHATEVER THE INPUT: true; the input reads as it did. -/
def fnExactChainChannelsSpec : ChangeSpec := { name := "fnExactChainChannels", fn := fun _ => fun
  | [d1, d2] => { results := [.lit (.bool true)], args := [d1, d2] }
  | _ => none }
def fnExactChainChannelsRow : OpenClaim := { program := "yteejcdfmpmcmlaa", sum := "8bc224e6f415498116ea538f19134b4a9f8d5598589c9e306f3385a4583218b9", func := "loop.example/g01364/laws.FnExactChainChannels", spec := "fnExactChainChannels", unfollowed := true, recurses := true, apart := false }
def FnExactChainChannelsSaid : Prop := fnExactChainChannelsRow.holds Try.pinned (OpenSpec.ofChange fnExactChainChannelsSpec)

/-- ITS FALSE NEIGHBOUR: 'it returns false'. Refute it at one input. -/
def fnExactChainChannelsWrong : ChangeSpec := { name := "fnExactChainChannels", fn := fun _ => fun
  | [d1, d2] => { results := [.lit (.bool false)], args := [d1, d2] }
  | _ => none }
def FnExactChainChannelsWrongFalsely : Prop := fnExactChainChannelsRow.holds Try.pinned (OpenSpec.ofChange fnExactChainChannelsWrong)

/-- 'laws.FnExactRestRow': WHATEVER THE INPUT: true; the input reads as it did. -/
def fnExactRestRowSpec : ChangeSpec := { name := "fnExactRestRow", fn := fun _ => fun
  | [d1, d2, d3] => { results := [.lit (.bool true)], args := [d1, d2, d3] }
  | _ => none }
def fnExactRestRowRow : OpenClaim := { program := "yteejcdfmpmcmlaa", sum := "8bc224e6f415498116ea538f19134b4a9f8d5598589c9e306f3385a4583218b9", func := "loop.example/g01364/laws.FnExactRestRow", spec := "fnExactRestRow", apart := false }
def FnExactRestRowSaid : Prop := fnExactRestRowRow.holds Try.pinned (OpenSpec.ofChange fnExactRestRowSpec)

/-- ITS FALSE NEIGHBOUR: 'it returns false'. Refute it at one input. -/
def fnExactRestRowWrong : ChangeSpec := { name := "fnExactRestRow", fn := fun _ => fun
  | [d1, d2, d3] => { results := [.lit (.bool false)], args := [d1, d2, d3] }
  | _ => none }
def FnExactRestRowWrongFalsely : Prop := fnExactRestRowRow.holds Try.pinned (OpenSpec.ofChange fnExactRestRowWrong)

/-- 'laws.FnExactSourceBits': WHATEVER THE INPUT: true; the input reads as it did. -/
def fnExactSourceBitsSpec : ChangeSpec := { name := "fnExactSourceBits", fn := fun _ => fun
  | [d1, d2, d3] => { results := [.lit (.bool true)], args := [d1, d2, d3] }
  | _ => none }
def fnExactSourceBitsRow : OpenClaim := { program := "yteejcdfmpmcmlaa", sum := "8bc224e6f415498116ea538f19134b4a9f8d5598589c9e306f3385a4583218b9", func := "loop.example/g01364/laws.FnExactSourceBits", spec := "fnExactSourceBits", inPlace := ["math.Float64frombits", "math.Float64bits"], apart := false }
def FnExactSourceBitsSaid : Prop := fnExactSourceBitsRow.holds Try.pinned (OpenSpec.ofChange fnExactSourceBitsSpec)

/-- ITS FALSE NEIGHBOUR: 'it returns false'. Refute it at one input. -/
def fnExactSourceBitsWrong : ChangeSpec := { name := "fnExactSourceBits", fn := fun _ => fun
  | [d1, d2, d3] => { results := [.lit (.bool false)], args := [d1, d2, d3] }
  | _ => none }
def FnExactSourceBitsWrongFalsely : Prop := fnExactSourceBitsRow.holds Try.pinned (OpenSpec.ofChange fnExactSourceBitsWrong)

/- THE SECOND FORM. 'bulk': how many values and letters a reading holds, each counted each time it is reached (what is shared counts as often as it is met; a slice's spare places count too). A statement '..UptoSaid' is the law's where the arguments, and the package variables that the reading takes, are together of bulk at most 1048576: NARROWER than '..Said'. Prove '..Said' where nothing that the law and all that it calls make is longer than what came in: it says more and counts as full. Else prove '..UptoSaid'. A law counts once. -/
mutual
def uptoBulk {H : Type} : DataW H → Nat
  | .lit (.string bytes) => bytes.length + 1
  | .lit _ => 1
  | .nil => 1
  | .ptr d => uptoBulk d + 1
  | .slice elems spare => uptoBulkAll elems + uptoBulkAll spare + 1
  | .agg parts => uptoBulkAll parts + 1
  | .iface _ d => uptoBulk d + 1
  | .map entries => uptoBulkEntries entries + 1
  | .held _ => 1
def uptoBulkAll {H : Type} : List (DataW H) → Nat
  | [] => 0
  | d :: r => uptoBulk d + uptoBulkAll r
def uptoBulkEntries {H : Type} : List (Lit × DataW H) → Nat
  | [] => 0
  | x :: r => uptoBulkEntry x + uptoBulkEntries r
def uptoBulkEntry {H : Type} : Lit × DataW H → Nat
  | (.string bytes, d) => bytes.length + uptoBulk d + 1
  | (_, d) => uptoBulk d + 1
 end
def uptoSmall : (H : Type) → List (DataW H) → Bool := fun _ ds => decide (uptoBulkAll ds ≤ 1048576)
def OpenSpec.upto (s : _root_.Go.ChangeSpec) : _root_.Go.OpenSpec := { _root_.Go.OpenSpec.ofChange s with cond := some uptoSmall }

/-- 'laws.FnExactThroughOf', WHERE WHAT IT READS IS OF BULK AT MOST 1048576: true; the input reads as it did. -/
def fnExactThroughOfUptoRow : OpenClaim := { program := "yteejcdfmpmcmlaa", sum := "8bc224e6f415498116ea538f19134b4a9f8d5598589c9e306f3385a4583218b9", func := "loop.example/g01364/laws.FnExactThroughOf", spec := "fnExactThroughOf", apart := false, narrowed := true }
def FnExactThroughOfUptoSaid : Prop := fnExactThroughOfUptoRow.holds Try.pinned (OpenSpec.upto fnExactThroughOfSpec)

/-- 'laws.FnExactChainChannels', WHERE WHAT IT READS IS OF BULK AT MOST 1048576: true; the input reads as it did. -/
def fnExactChainChannelsUptoRow : OpenClaim := { program := "yteejcdfmpmcmlaa", sum := "8bc224e6f415498116ea538f19134b4a9f8d5598589c9e306f3385a4583218b9", func := "loop.example/g01364/laws.FnExactChainChannels", spec := "fnExactChainChannels", unfollowed := true, recurses := true, apart := false, narrowed := true }
def FnExactChainChannelsUptoSaid : Prop := fnExactChainChannelsUptoRow.holds Try.pinned (OpenSpec.upto fnExactChainChannelsSpec)

/-- 'laws.FnExactRestRow', WHERE WHAT IT READS IS OF BULK AT MOST 1048576: true; the input reads as it did. -/
def fnExactRestRowUptoRow : OpenClaim := { program := "yteejcdfmpmcmlaa", sum := "8bc224e6f415498116ea538f19134b4a9f8d5598589c9e306f3385a4583218b9", func := "loop.example/g01364/laws.FnExactRestRow", spec := "fnExactRestRow", apart := false, narrowed := true }
def FnExactRestRowUptoSaid : Prop := fnExactRestRowUptoRow.holds Try.pinned (OpenSpec.upto fnExactRestRowSpec)

/-- 'laws.FnExactSourceBits', WHERE WHAT IT READS IS OF BULK AT MOST 1048576: true; the input reads as it did. -/
def fnExactSourceBitsUptoRow : OpenClaim := { program := "yteejcdfmpmcmlaa", sum := "8bc224e6f415498116ea538f19134b4a9f8d5598589c9e306f3385a4583218b9", func := "loop.example/g01364/laws.FnExactSourceBits", spec := "fnExactSourceBits", inPlace := ["math.Float64frombits", "math.Float64bits"], apart := false, narrowed := true }
def FnExactSourceBitsUptoSaid : Prop := fnExactSourceBitsUptoRow.holds Try.pinned (OpenSpec.upto fnExactSourceBitsSpec)

end Rows
end Go.Proofs.Yteejcdfmpmcmlaa
