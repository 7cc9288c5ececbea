/-
  No cell of these rows narrows 'for every input' (looked for: loops, veiled, ifaces, maps, wideKeys, modest, calm, conditions, laid).
  DERIVED. THE GIVEN ROWS OF THIS SEAT. 4 by the template 'for every input the law returns true; each argument reads behind the call as it read before'; 0 by the template 'total and deterministic' (their statements: YtnemfdiagejboaaTotals.lean).
  GIVEN WITH THE SEED: the statements are not yours to turn. If you find one false, say at which input.
  Laid BY PROGRAM, IN A SANDBOX (cutbox-rows.mjs): the forced cells as the released guide's own fill.sh prints them over the translation a3d6e72bb7fa196c… (all of the seat's roots in one cut). By AI agents, Wed Nov 11 2026. No macro, syntax, notation, axiom, sorry.
-/
import Derived.Test.YtnemfdiagejboaaChecked
import GoSem.Claim
import GoSem.ClaimJoined
import GoSem.ClaimMapViews
import Derived.JoinedTies
import Derived.KernelRfl
namespace Go.Proofs.Ytnemfdiagejboaa
/- THE CELL 'sum', in the pinned program and in every row, IS THE sha256 OF THE DUMP (.gsa) THAT YtnemfdiagejboaaProg.lean LOADS. Nothing in Lean hashes anything: it is a label: what it is worth is what the hold of that sum in a sandbox is worth. -/
noncomputable def Try.pinned : Pinned := { name := "ytnemfdiagejboaa", sum := "a3d6e72bb7fa196c0cb1350a005c52541cf531341ecb1419c316ef7d9d772fd7", checked := Try.checked }
namespace Rows
def none {H : Type} : Left H := { results := [], args := [] }

/-- 'laws.FnExactRangeBits': WHATEVER THE INPUT: true; the input reads as it did. -/
def fnExactRangeBitsSpec : ChangeSpec := { name := "fnExactRangeBits", fn := fun _ => fun
  | [d1, d2] => { results := [.lit (.bool true)], args := [d1, d2] }
  | _ => none }
def fnExactRangeBitsRow : OpenClaim := { program := "ytnemfdiagejboaa", sum := "a3d6e72bb7fa196c0cb1350a005c52541cf531341ecb1419c316ef7d9d772fd7", func := "loop.example/g01364/laws.FnExactRangeBits", spec := "fnExactRangeBits", apart := false }
def FnExactRangeBitsSaid : Prop := fnExactRangeBitsRow.holds Try.pinned (OpenSpec.ofChange fnExactRangeBitsSpec)

/-- ITS FALSE NEIGHBOUR: 'it returns false'. Refute it at one input. -/
def fnExactRangeBitsWrong : ChangeSpec := { name := "fnExactRangeBits", fn := fun _ => fun
  | [d1, d2] => { results := [.lit (.bool false)], args := [d1, d2] }
  | _ => none }
def FnExactRangeBitsWrongFalsely : Prop := fnExactRangeBitsRow.holds Try.pinned (OpenSpec.ofChange fnExactRangeBitsWrong)

/-- 'laws.FnExactRangeText': WHATEVER THE INPUT: true; the input reads as it did. -/
def fnExactRangeTextSpec : ChangeSpec := { name := "fnExactRangeText", fn := fun _ => fun
  | [d1, d2, d3] => { results := [.lit (.bool true)], args := [d1, d2, d3] }
  | _ => none }
def fnExactRangeTextRow : OpenClaim := { program := "ytnemfdiagejboaa", sum := "a3d6e72bb7fa196c0cb1350a005c52541cf531341ecb1419c316ef7d9d772fd7", func := "loop.example/g01364/laws.FnExactRangeText", spec := "fnExactRangeText", apart := false }
def FnExactRangeTextSaid : Prop := fnExactRangeTextRow.holds Try.pinned (OpenSpec.ofChange fnExactRangeTextSpec)

/-- ITS FALSE NEIGHBOUR: 'it returns false'. Refute it at one input. -/
def fnExactRangeTextWrong : ChangeSpec := { name := "fnExactRangeText", fn := fun _ => fun
  | [d1, d2, d3] => { results := [.lit (.bool false)], args := [d1, d2, d3] }
  | _ => none }
def FnExactRangeTextWrongFalsely : Prop := fnExactRangeTextRow.holds Try.pinned (OpenSpec.ofChange fnExactRangeTextWrong)

/-- 'laws.FnExactGrowingBits': WHATEVER THE INPUT: true; the input reads as it did. -/
def fnExactGrowingBitsSpec : ChangeSpec := { name := "fnExactGrowingBits", fn := fun _ => fun
  | [d1, d2] => { results := [.lit (.bool true)], args := [d1, d2] }
  | _ => none }
def fnExactGrowingBitsRow : OpenClaim := { program := "ytnemfdiagejboaa", sum := "a3d6e72bb7fa196c0cb1350a005c52541cf531341ecb1419c316ef7d9d772fd7", func := "loop.example/g01364/laws.FnExactGrowingBits", spec := "fnExactGrowingBits", apart := false }
def FnExactGrowingBitsSaid : Prop := fnExactGrowingBitsRow.holds Try.pinned (OpenSpec.ofChange fnExactGrowingBitsSpec)

/-- ITS FALSE NEIGHBOUR: 'it returns false'. Refute it at one input. -/
def fnExactGrowingBitsWrong : ChangeSpec := { name := "fnExactGrowingBits", fn := fun _ => fun
  | [d1, d2] => { results := [.lit (.bool false)], args := [d1, d2] }
  | _ => none }
def FnExactGrowingBitsWrongFalsely : Prop := fnExactGrowingBitsRow.holds Try.pinned (OpenSpec.ofChange fnExactGrowingBitsWrong)

/-- 'laws.FnExactGrowingText': WHATEVER THE INPUT: true; the input reads as it did. -/
def fnExactGrowingTextSpec : ChangeSpec := { name := "fnExactGrowingText", fn := fun _ => fun
  | [d1, d2, d3] => { results := [.lit (.bool true)], args := [d1, d2, d3] }
  | _ => none }
def fnExactGrowingTextRow : OpenClaim := { program := "ytnemfdiagejboaa", sum := "a3d6e72bb7fa196c0cb1350a005c52541cf531341ecb1419c316ef7d9d772fd7", func := "loop.example/g01364/laws.FnExactGrowingText", spec := "fnExactGrowingText", apart := false }
def FnExactGrowingTextSaid : Prop := fnExactGrowingTextRow.holds Try.pinned (OpenSpec.ofChange fnExactGrowingTextSpec)

/-- ITS FALSE NEIGHBOUR: 'it returns false'. Refute it at one input. -/
def fnExactGrowingTextWrong : ChangeSpec := { name := "fnExactGrowingText", fn := fun _ => fun
  | [d1, d2, d3] => { results := [.lit (.bool false)], args := [d1, d2, d3] }
  | _ => none }
def FnExactGrowingTextWrongFalsely : Prop := fnExactGrowingTextRow.holds Try.pinned (OpenSpec.ofChange fnExactGrowingTextWrong)

/- THE SECOND FORM. 'bulk': how many values and letters a reading holds, each counted each time it is reached (what is shared counts as often as it is met; a slice's spare places count too). A statement '..UptoSaid' is the law's where the arguments, and the package variables that the reading takes, are together of bulk at most 1048576: NARROWER than '..Said'. Prove '..Said' where nothing that the law and all that it calls make is longer than what came in: it says more and counts as full. Else prove '..UptoSaid'. A law counts once. -/
mutual
def uptoBulk {H : Type} : DataW H → Nat
  | .lit (.string bytes) => bytes.length + 1
  | .lit _ => 1
  | .nil => 1
  | .ptr d => uptoBulk d + 1
  | .slice elems spare => uptoBulkAll elems + uptoBulkAll spare + 1
  | .agg parts => uptoBulkAll parts + 1
  | .iface _ d => uptoBulk d + 1
  | .map entries => uptoBulkEntries entries + 1
  | .held _ => 1
def uptoBulkAll {H : Type} : List (DataW H) → Nat
  | [] => 0
  | d :: r => uptoBulk d + uptoBulkAll r
def uptoBulkEntries {H : Type} : List (Lit × DataW H) → Nat
  | [] => 0
  | x :: r => uptoBulkEntry x + uptoBulkEntries r
def uptoBulkEntry {H : Type} : Lit × DataW H → Nat
  | (.string bytes, d) => bytes.length + uptoBulk d + 1
  | (_, d) => uptoBulk d + 1
 end
def uptoSmall : (H : Type) → List (DataW H) → Bool := fun _ ds => decide (uptoBulkAll ds ≤ 1048576)
def OpenSpec.upto (s : _root_.Go.ChangeSpec) : _root_.Go.OpenSpec := { _root_.Go.OpenSpec.ofChange s with cond := some uptoSmall }

/-- 'laws.FnExactRangeBits', WHERE WHAT IT READS IS OF BULK AT MOST 1048576: true; the input reads as it did. -/
def fnExactRangeBitsUptoRow : OpenClaim := { program := "ytnemfdiagejboaa", sum := "a3d6e72bb7fa196c0cb1350a005c52541cf531341ecb1419c316ef7d9d772fd7", func := "loop.example/g01364/laws.FnExactRangeBits", spec := "fnExactRangeBits", apart := false, narrowed := true }
def FnExactRangeBitsUptoSaid : Prop := fnExactRangeBitsUptoRow.holds Try.pinned (OpenSpec.upto fnExactRangeBitsSpec)

/-- 'laws.FnExactRangeText', WHERE WHAT IT READS IS OF BULK AT MOST 1048576: true; the input reads as it did. -/
def fnExactRangeTextUptoRow : OpenClaim := { program := "ytnemfdiagejboaa", sum := "a3d6e72bb7fa196c0cb1350a005c52541cf531341ecb1419c316ef7d9d772fd7", func := "loop.example/g01364/laws.FnExactRangeText", spec := "fnExactRangeText", apart := false, narrowed := true }
def FnExactRangeTextUptoSaid : Prop := fnExactRangeTextUptoRow.holds Try.pinned (OpenSpec.upto fnExactRangeTextSpec)

/-- 'laws.FnExactGrowingBits', WHERE WHAT IT READS IS OF BULK AT MOST 1048576: true; the input reads as it did. -/
def fnExactGrowingBitsUptoRow : OpenClaim := { program := "ytnemfdiagejboaa", sum := "a3d6e72bb7fa196c0cb1350a005c52541cf531341ecb1419c316ef7d9d772fd7", func := "loop.example/g01364/laws.FnExactGrowingBits", spec := "fnExactGrowingBits", apart := false, narrowed := true }
def FnExactGrowingBitsUptoSaid : Prop := fnExactGrowingBitsUptoRow.holds Try.pinned (OpenSpec.upto fnExactGrowingBitsSpec)

/-- 'laws.FnExactGrowingText', WHERE WHAT IT READS IS OF BULK AT MOST 1048576: true; the input reads as it did. -/
def fnExactGrowingTextUptoRow : OpenClaim := { program := "ytnemfdiagejboaa", sum := "a3d6e72bb7fa196c0cb1350a005c52541cf531341ecb1419c316ef7d9d772fd7", func := "loop.example/g01364/laws.FnExactGrowingText", spec := "fnExactGrowingText", apart := false, narrowed := true }
def FnExactGrowingTextUptoSaid : Prop := fnExactGrowingTextUptoRow.holds Try.pinned (OpenSpec.upto fnExactGrowingTextSpec)

end Rows
end Go.Proofs.Ytnemfdiagejboaa
