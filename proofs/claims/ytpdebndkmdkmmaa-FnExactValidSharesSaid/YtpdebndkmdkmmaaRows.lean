/-
  No cell of these rows narrows 'for every input' (looked for: loops, veiled, ifaces, maps, wideKeys, modest, calm, conditions, laid).
  DERIVED. THE GIVEN ROWS OF THIS SEAT. 6 by the template 'for every input the law returns true; each argument reads behind the call as it read before'; 0 by the template 'total and deterministic' (their statements: YtpdebndkmdkmmaaTotals.lean).
  GIVEN WITH THE SEED: the statements are not yours to turn. If you find one false, say at which input.
  Laid BY PROGRAM, IN A SANDBOX (cutbox-rows.mjs): the forced cells as the released guide's own fill.sh prints them over the translation 9d2c06b28d7cdae1… (all of the seat's roots in one cut). By AI agents, Wed Nov 11 2026. No macro, syntax, notation, axiom, sorry.
-/
import Derived.Test.YtpdebndkmdkmmaaChecked
import GoSem.Claim
import GoSem.ClaimJoined
import GoSem.ClaimMapViews
import Derived.JoinedTies
import Derived.KernelRfl
namespace Go.Proofs.Ytpdebndkmdkmmaa
/- THE CELL 'sum', in the pinned program and in every row, IS THE sha256 OF THE DUMP (.gsa) THAT YtpdebndkmdkmmaaProg.lean LOADS. Nothing in Lean hashes anything: it is a label: what it is worth is what the hold of that sum in a sandbox is worth. -/
noncomputable def Try.pinned : Pinned := { name := "ytpdebndkmdkmmaa", sum := "9d2c06b28d7cdae19eede1b47528e985feed13e1360700d86fe2405b0135d98a", checked := Try.checked }
namespace Rows
def none {H : Type} : Left H := { results := [], args := [] }

/-- 'laws.FnExactIsText': WHATEVER THE INPUT: true; the input reads as it did. -/
def fnExactIsTextSpec : ChangeSpec := { name := "fnExactIsText", fn := fun _ => fun
  | [d1, d2] => { results := [.lit (.bool true)], args := [d1, d2] }
  | _ => none }
def fnExactIsTextRow : OpenClaim := { program := "ytpdebndkmdkmmaa", sum := "9d2c06b28d7cdae19eede1b47528e985feed13e1360700d86fe2405b0135d98a", func := "loop.example/g01364/laws.FnExactIsText", spec := "fnExactIsText", apart := false }
def FnExactIsTextSaid : Prop := fnExactIsTextRow.holds Try.pinned (OpenSpec.ofChange fnExactIsTextSpec)

/-- ITS FALSE NEIGHBOUR: 'it returns false'. Refute it at one input. -/
def fnExactIsTextWrong : ChangeSpec := { name := "fnExactIsText", fn := fun _ => fun
  | [d1, d2] => { results := [.lit (.bool false)], args := [d1, d2] }
  | _ => none }
def FnExactIsTextWrongFalsely : Prop := fnExactIsTextRow.holds Try.pinned (OpenSpec.ofChange fnExactIsTextWrong)

/-- 'laws.FnExactFarOfBits': WHATEVER THE INPUT: true; the input reads as it did. -/
def fnExactFarOfBitsSpec : ChangeSpec := { name := "fnExactFarOfBits", fn := fun _ => fun
  | [d1, d2] => { results := [.lit (.bool true)], args := [d1, d2] }
  | _ => none }
def fnExactFarOfBitsRow : OpenClaim := { program := "ytpdebndkmdkmmaa", sum := "9d2c06b28d7cdae19eede1b47528e985feed13e1360700d86fe2405b0135d98a", func := "loop.example/g01364/laws.FnExactFarOfBits", spec := "fnExactFarOfBits", apart := false }
def FnExactFarOfBitsSaid : Prop := fnExactFarOfBitsRow.holds Try.pinned (OpenSpec.ofChange fnExactFarOfBitsSpec)

/-- ITS FALSE NEIGHBOUR: 'it returns false'. Refute it at one input. -/
def fnExactFarOfBitsWrong : ChangeSpec := { name := "fnExactFarOfBits", fn := fun _ => fun
  | [d1, d2] => { results := [.lit (.bool false)], args := [d1, d2] }
  | _ => none }
def FnExactFarOfBitsWrongFalsely : Prop := fnExactFarOfBitsRow.holds Try.pinned (OpenSpec.ofChange fnExactFarOfBitsWrong)

/-- 'laws.FnExactKeyOfBits': WHATEVER THE INPUT: true; the input reads as it did. -/
def fnExactKeyOfBitsSpec : ChangeSpec := { name := "fnExactKeyOfBits", fn := fun _ => fun
  | [d1, d2, d3] => { results := [.lit (.bool true)], args := [d1, d2, d3] }
  | _ => none }
def fnExactKeyOfBitsRow : OpenClaim := { program := "ytpdebndkmdkmmaa", sum := "9d2c06b28d7cdae19eede1b47528e985feed13e1360700d86fe2405b0135d98a", func := "loop.example/g01364/laws.FnExactKeyOfBits", spec := "fnExactKeyOfBits", apart := false }
def FnExactKeyOfBitsSaid : Prop := fnExactKeyOfBitsRow.holds Try.pinned (OpenSpec.ofChange fnExactKeyOfBitsSpec)

/-- ITS FALSE NEIGHBOUR: 'it returns false'. Refute it at one input. -/
def fnExactKeyOfBitsWrong : ChangeSpec := { name := "fnExactKeyOfBits", fn := fun _ => fun
  | [d1, d2, d3] => { results := [.lit (.bool false)], args := [d1, d2, d3] }
  | _ => none }
def FnExactKeyOfBitsWrongFalsely : Prop := fnExactKeyOfBitsRow.holds Try.pinned (OpenSpec.ofChange fnExactKeyOfBitsWrong)

/-- 'laws.FnExactSameParity': WHATEVER THE INPUT: true; the input reads as it did. -/
def fnExactSameParitySpec : ChangeSpec := { name := "fnExactSameParity", fn := fun _ => fun
  | [d1, d2] => { results := [.lit (.bool true)], args := [d1, d2] }
  | _ => none }
def fnExactSameParityRow : OpenClaim := { program := "ytpdebndkmdkmmaa", sum := "9d2c06b28d7cdae19eede1b47528e985feed13e1360700d86fe2405b0135d98a", func := "loop.example/g01364/laws.FnExactSameParity", spec := "fnExactSameParity", apart := false }
def FnExactSameParitySaid : Prop := fnExactSameParityRow.holds Try.pinned (OpenSpec.ofChange fnExactSameParitySpec)

/-- ITS FALSE NEIGHBOUR: 'it returns false'. Refute it at one input. -/
def fnExactSameParityWrong : ChangeSpec := { name := "fnExactSameParity", fn := fun _ => fun
  | [d1, d2] => { results := [.lit (.bool false)], args := [d1, d2] }
  | _ => none }
def FnExactSameParityWrongFalsely : Prop := fnExactSameParityRow.holds Try.pinned (OpenSpec.ofChange fnExactSameParityWrong)

/-- 'laws.FnExactSameCounts': WHATEVER THE INPUT: true; the input reads as it did. -/
def fnExactSameCountsSpec : ChangeSpec := { name := "fnExactSameCounts", fn := fun _ => fun
  | [d1, d2] => { results := [.lit (.bool true)], args := [d1, d2] }
  | _ => none }
def fnExactSameCountsRow : OpenClaim := { program := "ytpdebndkmdkmmaa", sum := "9d2c06b28d7cdae19eede1b47528e985feed13e1360700d86fe2405b0135d98a", func := "loop.example/g01364/laws.FnExactSameCounts", spec := "fnExactSameCounts", apart := false }
def FnExactSameCountsSaid : Prop := fnExactSameCountsRow.holds Try.pinned (OpenSpec.ofChange fnExactSameCountsSpec)

/-- ITS FALSE NEIGHBOUR: 'it returns false'. Refute it at one input. -/
def fnExactSameCountsWrong : ChangeSpec := { name := "fnExactSameCounts", fn := fun _ => fun
  | [d1, d2] => { results := [.lit (.bool false)], args := [d1, d2] }
  | _ => none }
def FnExactSameCountsWrongFalsely : Prop := fnExactSameCountsRow.holds Try.pinned (OpenSpec.ofChange fnExactSameCountsWrong)

/-- 'laws.FnExactValidShares': WHATEVER THE INPUT: true; the input reads as it did. -/
def fnExactValidSharesSpec : ChangeSpec := { name := "fnExactValidShares", fn := fun _ => fun
  | [d] => { results := [.lit (.bool true)], args := [d] }
  | _ => none }
def fnExactValidSharesRow : OpenClaim := { program := "ytpdebndkmdkmmaa", sum := "9d2c06b28d7cdae19eede1b47528e985feed13e1360700d86fe2405b0135d98a", func := "loop.example/g01364/laws.FnExactValidShares", spec := "fnExactValidShares", apart := false }
def FnExactValidSharesSaid : Prop := fnExactValidSharesRow.holds Try.pinned (OpenSpec.ofChange fnExactValidSharesSpec)

/-- ITS FALSE NEIGHBOUR: 'it returns false'. Refute it at one input. -/
def fnExactValidSharesWrong : ChangeSpec := { name := "fnExactValidShares", fn := fun _ => fun
  | [d] => { results := [.lit (.bool false)], args := [d] }
  | _ => none }
def FnExactValidSharesWrongFalsely : Prop := fnExactValidSharesRow.holds Try.pinned (OpenSpec.ofChange fnExactValidSharesWrong)

/- THE SECOND FORM. 'bulk': how many values and letters a reading holds, each counted each time it is reached (what is shared counts as often as it is met; a slice's spare places count too). A statement '..UptoSaid' is the law's where the arguments, and the package variables that the reading takes, are together of bulk at most 1048576: NARROWER than '..Said'. Prove '..Said' where nothing that the law and all that it calls make is longer than what came in: it says more and counts as full. Else prove '..UptoSaid'. A law counts once. -/
mutual
def uptoBulk {H : Type} : DataW H → Nat
  | .lit (.string bytes) => bytes.length + 1
  | .lit _ => 1
  | .nil => 1
  | .ptr d => uptoBulk d + 1
  | .slice elems spare => uptoBulkAll elems + uptoBulkAll spare + 1
  | .agg parts => uptoBulkAll parts + 1
  | .iface _ d => uptoBulk d + 1
  | .map entries => uptoBulkEntries entries + 1
  | .held _ => 1
def uptoBulkAll {H : Type} : List (DataW H) → Nat
  | [] => 0
  | d :: r => uptoBulk d + uptoBulkAll r
def uptoBulkEntries {H : Type} : List (Lit × DataW H) → Nat
  | [] => 0
  | x :: r => uptoBulkEntry x + uptoBulkEntries r
def uptoBulkEntry {H : Type} : Lit × DataW H → Nat
  | (.string bytes, d) => bytes.length + uptoBulk d + 1
  | (_, d) => uptoBulk d + 1
 end
def uptoSmall : (H : Type) → List (DataW H) → Bool := fun _ ds => decide (uptoBulkAll ds ≤ 1048576)
def OpenSpec.upto (s : _root_.Go.ChangeSpec) : _root_.Go.OpenSpec := { _root_.Go.OpenSpec.ofChange s with cond := some uptoSmall }

/-- 'laws.FnExactIsText', WHERE WHAT IT READS IS OF BULK AT MOST 1048576: true; the input reads as it did. -/
def fnExactIsTextUptoRow : OpenClaim := { program := "ytpdebndkmdkmmaa", sum := "9d2c06b28d7cdae19eede1b47528e985feed13e1360700d86fe2405b0135d98a", func := "loop.example/g01364/laws.FnExactIsText", spec := "fnExactIsText", apart := false, narrowed := true }
def FnExactIsTextUptoSaid : Prop := fnExactIsTextUptoRow.holds Try.pinned (OpenSpec.upto fnExactIsTextSpec)

/-- 'laws.FnExactFarOfBits', WHERE WHAT IT READS IS OF BULK AT MOST 1048576: true; the input reads as it did. -/
def fnExactFarOfBitsUptoRow : OpenClaim := { program := "ytpdebndkmdkmmaa", sum := "9d2c06b28d7cdae19eede1b47528e985feed13e1360700d86fe2405b0135d98a", func := "loop.example/g01364/laws.FnExactFarOfBits", spec := "fnExactFarOfBits", apart := false, narrowed := true }
def FnExactFarOfBitsUptoSaid : Prop := fnExactFarOfBitsUptoRow.holds Try.pinned (OpenSpec.upto fnExactFarOfBitsSpec)

/-- 'laws.FnExactKeyOfBits', WHERE WHAT IT READS IS OF BULK AT MOST 1048576: true; the input reads as it did. -/
def fnExactKeyOfBitsUptoRow : OpenClaim := { program := "ytpdebndkmdkmmaa", sum := "9d2c06b28d7cdae19eede1b47528e985feed13e1360700d86fe2405b0135d98a", func := "loop.example/g01364/laws.FnExactKeyOfBits", spec := "fnExactKeyOfBits", apart := false, narrowed := true }
def FnExactKeyOfBitsUptoSaid : Prop := fnExactKeyOfBitsUptoRow.holds Try.pinned (OpenSpec.upto fnExactKeyOfBitsSpec)

/-- 'laws.FnExactSameParity', WHERE WHAT IT READS IS OF BULK AT MOST 1048576: true; the input reads as it did. -/
def fnExactSameParityUptoRow : OpenClaim := { program := "ytpdebndkmdkmmaa", sum := "9d2c06b28d7cdae19eede1b47528e985feed13e1360700d86fe2405b0135d98a", func := "loop.example/g01364/laws.FnExactSameParity", spec := "fnExactSameParity", apart := false, narrowed := true }
def FnExactSameParityUptoSaid : Prop := fnExactSameParityUptoRow.holds Try.pinned (OpenSpec.upto fnExactSameParitySpec)

/-- 'laws.FnExactSameCounts', WHERE WHAT IT READS IS OF BULK AT MOST 1048576: true; the input reads as it did. -/
def fnExactSameCountsUptoRow : OpenClaim := { program := "ytpdebndkmdkmmaa", sum := "9d2c06b28d7cdae19eede1b47528e985feed13e1360700d86fe2405b0135d98a", func := "loop.example/g01364/laws.FnExactSameCounts", spec := "fnExactSameCounts", apart := false, narrowed := true }
def FnExactSameCountsUptoSaid : Prop := fnExactSameCountsUptoRow.holds Try.pinned (OpenSpec.upto fnExactSameCountsSpec)

/-- 'laws.FnExactValidShares', WHERE WHAT IT READS IS OF BULK AT MOST 1048576: true; the input reads as it did. -/
def fnExactValidSharesUptoRow : OpenClaim := { program := "ytpdebndkmdkmmaa", sum := "9d2c06b28d7cdae19eede1b47528e985feed13e1360700d86fe2405b0135d98a", func := "loop.example/g01364/laws.FnExactValidShares", spec := "fnExactValidShares", apart := false, narrowed := true }
def FnExactValidSharesUptoSaid : Prop := fnExactValidSharesUptoRow.holds Try.pinned (OpenSpec.upto fnExactValidSharesSpec)

end Rows
end Go.Proofs.Ytpdebndkmdkmmaa
