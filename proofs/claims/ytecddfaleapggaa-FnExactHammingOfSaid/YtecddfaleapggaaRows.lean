/-
  No cell of these rows narrows 'for every input' (looked for: loops, veiled, ifaces, maps, wideKeys, modest, calm, conditions, laid).
  DERIVED. THE GIVEN ROWS OF THIS SEAT. 12 by the template 'for every input the law returns true; each argument reads behind the call as it read before'; 0 by the template 'total and deterministic' (their statements: YtecddfaleapggaaTotals.lean).
  GIVEN WITH THE SEED: the statements are not yours to turn. If you find one false, say at which input.
  Laid BY PROGRAM, IN A SANDBOX (cutbox-rows.mjs): the forced cells as the released guide's own fill.sh prints them over the translation 3046169ea760000c… (all of the seat's roots in one cut). By AI agents, Wed Nov 11 2026. No macro, syntax, notation, axiom, sorry.
-/
import Derived.Test.YtecddfaleapggaaChecked
import GoSem.Claim
import GoSem.ClaimJoined
import GoSem.ClaimMapViews
import Derived.JoinedTies
import Derived.KernelRfl
namespace Go.Proofs.Ytecddfaleapggaa
/- THE CELL 'sum', in the pinned program and in every row, IS THE sha256 OF THE DUMP (.gsa) THAT YtecddfaleapggaaProg.lean LOADS. Nothing in Lean hashes anything: it is a label: what it is worth is what the hold of that sum in a sandbox is worth. -/
noncomputable def Try.pinned : Pinned := { name := "ytecddfaleapggaa", sum := "3046169ea760000c9fbeafe36c72f47706173add402394739a1f6f2ff1f4de98", checked := Try.checked }
namespace Rows
def none {H : Type} : Left H := { results := [], args := [] }

/-- 'laws.FnExactValidParity': WHATEVER THE INPUT: true; the input reads as it did. -/
def fnExactValidParitySpec : ChangeSpec := { name := "fnExactValidParity", fn := fun _ => fun
  | [d] => { results := [.lit (.bool true)], args := [d] }
  | _ => none }
def fnExactValidParityRow : OpenClaim := { program := "ytecddfaleapggaa", sum := "3046169ea760000c9fbeafe36c72f47706173add402394739a1f6f2ff1f4de98", func := "loop.example/g01364/laws.FnExactValidParity", spec := "fnExactValidParity", unfollowed := true, recurses := true, apart := false }
def FnExactValidParitySaid : Prop := fnExactValidParityRow.holds Try.pinned (OpenSpec.ofChange fnExactValidParitySpec)

/-- ITS FALSE NEIGHBOUR: 'it returns false'. Refute it at one input. -/
def fnExactValidParityWrong : ChangeSpec := { name := "fnExactValidParity", fn := fun _ => fun
  | [d] => { results := [.lit (.bool false)], args := [d] }
  | _ => none }
def FnExactValidParityWrongFalsely : Prop := fnExactValidParityRow.holds Try.pinned (OpenSpec.ofChange fnExactValidParityWrong)

/-- 'laws.FnExactRepeatParity': WHATEVER THE INPUT: true; the input reads as it did. -/
def fnExactRepeatParitySpec : ChangeSpec := { name := "fnExactRepeatParity", fn := fun _ => fun
  | [d] => { results := [.lit (.bool true)], args := [d] }
  | _ => none }
def fnExactRepeatParityRow : OpenClaim := { program := "ytecddfaleapggaa", sum := "3046169ea760000c9fbeafe36c72f47706173add402394739a1f6f2ff1f4de98", func := "loop.example/g01364/laws.FnExactRepeatParity", spec := "fnExactRepeatParity", unfollowed := true, recurses := true, apart := false }
def FnExactRepeatParitySaid : Prop := fnExactRepeatParityRow.holds Try.pinned (OpenSpec.ofChange fnExactRepeatParitySpec)

/-- ITS FALSE NEIGHBOUR: 'it returns false'. Refute it at one input. -/
def fnExactRepeatParityWrong : ChangeSpec := { name := "fnExactRepeatParity", fn := fun _ => fun
  | [d] => { results := [.lit (.bool false)], args := [d] }
  | _ => none }
def FnExactRepeatParityWrongFalsely : Prop := fnExactRepeatParityRow.holds Try.pinned (OpenSpec.ofChange fnExactRepeatParityWrong)

/-- 'laws.FnExactEncodeBits': WHATEVER THE INPUT: true; the input reads as it did. -/
def fnExactEncodeBitsSpec : ChangeSpec := { name := "fnExactEncodeBits", fn := fun _ => fun
  | [d1, d2] => { results := [.lit (.bool true)], args := [d1, d2] }
  | _ => none }
def fnExactEncodeBitsRow : OpenClaim := { program := "ytecddfaleapggaa", sum := "3046169ea760000c9fbeafe36c72f47706173add402394739a1f6f2ff1f4de98", func := "loop.example/g01364/laws.FnExactEncodeBits", spec := "fnExactEncodeBits", unfollowed := true, recurses := true, apart := false }
def FnExactEncodeBitsSaid : Prop := fnExactEncodeBitsRow.holds Try.pinned (OpenSpec.ofChange fnExactEncodeBitsSpec)

/-- ITS FALSE NEIGHBOUR: 'it returns false'. Refute it at one input. -/
def fnExactEncodeBitsWrong : ChangeSpec := { name := "fnExactEncodeBits", fn := fun _ => fun
  | [d1, d2] => { results := [.lit (.bool false)], args := [d1, d2] }
  | _ => none }
def FnExactEncodeBitsWrongFalsely : Prop := fnExactEncodeBitsRow.holds Try.pinned (OpenSpec.ofChange fnExactEncodeBitsWrong)

/-- 'laws.FnExactCyclicOf': WHATEVER THE INPUT: true; the input reads as it did. -/
def fnExactCyclicOfSpec : ChangeSpec := { name := "fnExactCyclicOf", fn := fun _ => fun
  | [d1, d2] => { results := [.lit (.bool true)], args := [d1, d2] }
  | _ => none }
def fnExactCyclicOfRow : OpenClaim := { program := "ytecddfaleapggaa", sum := "3046169ea760000c9fbeafe36c72f47706173add402394739a1f6f2ff1f4de98", func := "loop.example/g01364/laws.FnExactCyclicOf", spec := "fnExactCyclicOf", unfollowed := true, recurses := true, apart := false }
def FnExactCyclicOfSaid : Prop := fnExactCyclicOfRow.holds Try.pinned (OpenSpec.ofChange fnExactCyclicOfSpec)

/-- ITS FALSE NEIGHBOUR: 'it returns false'. Refute it at one input. -/
def fnExactCyclicOfWrong : ChangeSpec := { name := "fnExactCyclicOf", fn := fun _ => fun
  | [d1, d2] => { results := [.lit (.bool false)], args := [d1, d2] }
  | _ => none }
def FnExactCyclicOfWrongFalsely : Prop := fnExactCyclicOfRow.holds Try.pinned (OpenSpec.ofChange fnExactCyclicOfWrong)

/-- 'laws.FnExactEchelonOf': WHATEVER THE INPUT: true; the input reads as it did. -/
def fnExactEchelonOfSpec : ChangeSpec := { name := "fnExactEchelonOf", fn := fun _ => fun
  | [d] => { results := [.lit (.bool true)], args := [d] }
  | _ => none }
def fnExactEchelonOfRow : OpenClaim := { program := "ytecddfaleapggaa", sum := "3046169ea760000c9fbeafe36c72f47706173add402394739a1f6f2ff1f4de98", func := "loop.example/g01364/laws.FnExactEchelonOf", spec := "fnExactEchelonOf", unfollowed := true, recurses := true, apart := false }
def FnExactEchelonOfSaid : Prop := fnExactEchelonOfRow.holds Try.pinned (OpenSpec.ofChange fnExactEchelonOfSpec)

/-- ITS FALSE NEIGHBOUR: 'it returns false'. Refute it at one input. -/
def fnExactEchelonOfWrong : ChangeSpec := { name := "fnExactEchelonOf", fn := fun _ => fun
  | [d] => { results := [.lit (.bool false)], args := [d] }
  | _ => none }
def FnExactEchelonOfWrongFalsely : Prop := fnExactEchelonOfRow.holds Try.pinned (OpenSpec.ofChange fnExactEchelonOfWrong)

/-- 'laws.FnExactInCode': WHATEVER THE INPUT: true; the input reads as it did. -/
def fnExactInCodeSpec : ChangeSpec := { name := "fnExactInCode", fn := fun _ => fun
  | [d1, d2] => { results := [.lit (.bool true)], args := [d1, d2] }
  | _ => none }
def fnExactInCodeRow : OpenClaim := { program := "ytecddfaleapggaa", sum := "3046169ea760000c9fbeafe36c72f47706173add402394739a1f6f2ff1f4de98", func := "loop.example/g01364/laws.FnExactInCode", spec := "fnExactInCode", unfollowed := true, recurses := true, apart := false }
def FnExactInCodeSaid : Prop := fnExactInCodeRow.holds Try.pinned (OpenSpec.ofChange fnExactInCodeSpec)

/-- ITS FALSE NEIGHBOUR: 'it returns false'. Refute it at one input. -/
def fnExactInCodeWrong : ChangeSpec := { name := "fnExactInCode", fn := fun _ => fun
  | [d1, d2] => { results := [.lit (.bool false)], args := [d1, d2] }
  | _ => none }
def FnExactInCodeWrongFalsely : Prop := fnExactInCodeRow.holds Try.pinned (OpenSpec.ofChange fnExactInCodeWrong)

/-- 'laws.FnExactDecodeBits': WHATEVER THE INPUT: true; the input reads as it did. -/
def fnExactDecodeBitsSpec : ChangeSpec := { name := "fnExactDecodeBits", fn := fun _ => fun
  | [d1, d2] => { results := [.lit (.bool true)], args := [d1, d2] }
  | _ => none }
def fnExactDecodeBitsRow : OpenClaim := { program := "ytecddfaleapggaa", sum := "3046169ea760000c9fbeafe36c72f47706173add402394739a1f6f2ff1f4de98", func := "loop.example/g01364/laws.FnExactDecodeBits", spec := "fnExactDecodeBits", unfollowed := true, recurses := true, apart := false }
def FnExactDecodeBitsSaid : Prop := fnExactDecodeBitsRow.holds Try.pinned (OpenSpec.ofChange fnExactDecodeBitsSpec)

/-- ITS FALSE NEIGHBOUR: 'it returns false'. Refute it at one input. -/
def fnExactDecodeBitsWrong : ChangeSpec := { name := "fnExactDecodeBits", fn := fun _ => fun
  | [d1, d2] => { results := [.lit (.bool false)], args := [d1, d2] }
  | _ => none }
def FnExactDecodeBitsWrongFalsely : Prop := fnExactDecodeBitsRow.holds Try.pinned (OpenSpec.ofChange fnExactDecodeBitsWrong)

/-- 'laws.FnExactShortenParity': WHATEVER THE INPUT: true; the input reads as it did. -/
def fnExactShortenParitySpec : ChangeSpec := { name := "fnExactShortenParity", fn := fun _ => fun
  | [d] => { results := [.lit (.bool true)], args := [d] }
  | _ => none }
def fnExactShortenParityRow : OpenClaim := { program := "ytecddfaleapggaa", sum := "3046169ea760000c9fbeafe36c72f47706173add402394739a1f6f2ff1f4de98", func := "loop.example/g01364/laws.FnExactShortenParity", spec := "fnExactShortenParity", unfollowed := true, recurses := true, apart := false }
def FnExactShortenParitySaid : Prop := fnExactShortenParityRow.holds Try.pinned (OpenSpec.ofChange fnExactShortenParitySpec)

/-- ITS FALSE NEIGHBOUR: 'it returns false'. Refute it at one input. -/
def fnExactShortenParityWrong : ChangeSpec := { name := "fnExactShortenParity", fn := fun _ => fun
  | [d] => { results := [.lit (.bool false)], args := [d] }
  | _ => none }
def FnExactShortenParityWrongFalsely : Prop := fnExactShortenParityRow.holds Try.pinned (OpenSpec.ofChange fnExactShortenParityWrong)

/-- 'laws.FnExactHammingOf': WHATEVER THE INPUT: true; the input reads as it did. -/
def fnExactHammingOfSpec : ChangeSpec := { name := "fnExactHammingOf", fn := fun _ => fun
  | [d] => { results := [.lit (.bool true)], args := [d] }
  | _ => none }
def fnExactHammingOfRow : OpenClaim := { program := "ytecddfaleapggaa", sum := "3046169ea760000c9fbeafe36c72f47706173add402394739a1f6f2ff1f4de98", func := "loop.example/g01364/laws.FnExactHammingOf", spec := "fnExactHammingOf", unfollowed := true, recurses := true, apart := false }
def FnExactHammingOfSaid : Prop := fnExactHammingOfRow.holds Try.pinned (OpenSpec.ofChange fnExactHammingOfSpec)

/-- ITS FALSE NEIGHBOUR: 'it returns false'. Refute it at one input. -/
def fnExactHammingOfWrong : ChangeSpec := { name := "fnExactHammingOf", fn := fun _ => fun
  | [d] => { results := [.lit (.bool false)], args := [d] }
  | _ => none }
def FnExactHammingOfWrongFalsely : Prop := fnExactHammingOfRow.holds Try.pinned (OpenSpec.ofChange fnExactHammingOfWrong)

/-- 'laws.FnExactExtendParity': WHATEVER THE INPUT: true; the input reads as it did. -/
def fnExactExtendParitySpec : ChangeSpec := { name := "fnExactExtendParity", fn := fun _ => fun
  | [d] => { results := [.lit (.bool true)], args := [d] }
  | _ => none }
def fnExactExtendParityRow : OpenClaim := { program := "ytecddfaleapggaa", sum := "3046169ea760000c9fbeafe36c72f47706173add402394739a1f6f2ff1f4de98", func := "loop.example/g01364/laws.FnExactExtendParity", spec := "fnExactExtendParity", unfollowed := true, recurses := true, apart := false }
def FnExactExtendParitySaid : Prop := fnExactExtendParityRow.holds Try.pinned (OpenSpec.ofChange fnExactExtendParitySpec)

/-- ITS FALSE NEIGHBOUR: 'it returns false'. Refute it at one input. -/
def fnExactExtendParityWrong : ChangeSpec := { name := "fnExactExtendParity", fn := fun _ => fun
  | [d] => { results := [.lit (.bool false)], args := [d] }
  | _ => none }
def FnExactExtendParityWrongFalsely : Prop := fnExactExtendParityRow.holds Try.pinned (OpenSpec.ofChange fnExactExtendParityWrong)

/-- 'laws.FnExactDualOf': WHATEVER THE INPUT: true; the input reads as it did. -/
def fnExactDualOfSpec : ChangeSpec := { name := "fnExactDualOf", fn := fun _ => fun
  | [d] => { results := [.lit (.bool true)], args := [d] }
  | _ => none }
def fnExactDualOfRow : OpenClaim := { program := "ytecddfaleapggaa", sum := "3046169ea760000c9fbeafe36c72f47706173add402394739a1f6f2ff1f4de98", func := "loop.example/g01364/laws.FnExactDualOf", spec := "fnExactDualOf", unfollowed := true, recurses := true, apart := false }
def FnExactDualOfSaid : Prop := fnExactDualOfRow.holds Try.pinned (OpenSpec.ofChange fnExactDualOfSpec)

/-- ITS FALSE NEIGHBOUR: 'it returns false'. Refute it at one input. -/
def fnExactDualOfWrong : ChangeSpec := { name := "fnExactDualOf", fn := fun _ => fun
  | [d] => { results := [.lit (.bool false)], args := [d] }
  | _ => none }
def FnExactDualOfWrongFalsely : Prop := fnExactDualOfRow.holds Try.pinned (OpenSpec.ofChange fnExactDualOfWrong)

/-- 'laws.FnExactSyndromeOf': WHATEVER THE INPUT: true; the input reads as it did. -/
def fnExactSyndromeOfSpec : ChangeSpec := { name := "fnExactSyndromeOf", fn := fun _ => fun
  | [d1, d2] => { results := [.lit (.bool true)], args := [d1, d2] }
  | _ => none }
def fnExactSyndromeOfRow : OpenClaim := { program := "ytecddfaleapggaa", sum := "3046169ea760000c9fbeafe36c72f47706173add402394739a1f6f2ff1f4de98", func := "loop.example/g01364/laws.FnExactSyndromeOf", spec := "fnExactSyndromeOf", unfollowed := true, recurses := true, apart := false }
def FnExactSyndromeOfSaid : Prop := fnExactSyndromeOfRow.holds Try.pinned (OpenSpec.ofChange fnExactSyndromeOfSpec)

/-- ITS FALSE NEIGHBOUR: 'it returns false'. Refute it at one input. -/
def fnExactSyndromeOfWrong : ChangeSpec := { name := "fnExactSyndromeOf", fn := fun _ => fun
  | [d1, d2] => { results := [.lit (.bool false)], args := [d1, d2] }
  | _ => none }
def FnExactSyndromeOfWrongFalsely : Prop := fnExactSyndromeOfRow.holds Try.pinned (OpenSpec.ofChange fnExactSyndromeOfWrong)

/- THE SECOND FORM. 'bulk': how many values and letters a reading holds, each counted each time it is reached (what is shared counts as often as it is met; a slice's spare places count too). A statement '..UptoSaid' is the law's where the arguments, and the package variables that the reading takes, are together of bulk at most 1048576: NARROWER than '..Said'. Prove '..Said' where nothing that the law and all that it calls make is longer than what came in: it says more and counts as full. Else prove '..UptoSaid'. A law counts once. -/
mutual
def uptoBulk {H : Type} : DataW H → Nat
  | .lit (.string bytes) => bytes.length + 1
  | .lit _ => 1
  | .nil => 1
  | .ptr d => uptoBulk d + 1
  | .slice elems spare => uptoBulkAll elems + uptoBulkAll spare + 1
  | .agg parts => uptoBulkAll parts + 1
  | .iface _ d => uptoBulk d + 1
  | .map entries => uptoBulkEntries entries + 1
  | .held _ => 1
def uptoBulkAll {H : Type} : List (DataW H) → Nat
  | [] => 0
  | d :: r => uptoBulk d + uptoBulkAll r
def uptoBulkEntries {H : Type} : List (Lit × DataW H) → Nat
  | [] => 0
  | x :: r => uptoBulkEntry x + uptoBulkEntries r
def uptoBulkEntry {H : Type} : Lit × DataW H → Nat
  | (.string bytes, d) => bytes.length + uptoBulk d + 1
  | (_, d) => uptoBulk d + 1
 end
def uptoSmall : (H : Type) → List (DataW H) → Bool := fun _ ds => decide (uptoBulkAll ds ≤ 1048576)
def OpenSpec.upto (s : _root_.Go.ChangeSpec) : _root_.Go.OpenSpec := { _root_.Go.OpenSpec.ofChange s with cond := some uptoSmall }

/-- 'laws.FnExactValidParity', WHERE WHAT IT READS IS OF BULK AT MOST 1048576: true; the input reads as it did. -/
def fnExactValidParityUptoRow : OpenClaim := { program := "ytecddfaleapggaa", sum := "3046169ea760000c9fbeafe36c72f47706173add402394739a1f6f2ff1f4de98", func := "loop.example/g01364/laws.FnExactValidParity", spec := "fnExactValidParity", unfollowed := true, recurses := true, apart := false, narrowed := true }
def FnExactValidParityUptoSaid : Prop := fnExactValidParityUptoRow.holds Try.pinned (OpenSpec.upto fnExactValidParitySpec)

/-- 'laws.FnExactRepeatParity', WHERE WHAT IT READS IS OF BULK AT MOST 1048576: true; the input reads as it did. -/
def fnExactRepeatParityUptoRow : OpenClaim := { program := "ytecddfaleapggaa", sum := "3046169ea760000c9fbeafe36c72f47706173add402394739a1f6f2ff1f4de98", func := "loop.example/g01364/laws.FnExactRepeatParity", spec := "fnExactRepeatParity", unfollowed := true, recurses := true, apart := false, narrowed := true }
def FnExactRepeatParityUptoSaid : Prop := fnExactRepeatParityUptoRow.holds Try.pinned (OpenSpec.upto fnExactRepeatParitySpec)

/-- 'laws.FnExactEncodeBits', WHERE WHAT IT READS IS OF BULK AT MOST 1048576: true; the input reads as it did. -/
def fnExactEncodeBitsUptoRow : OpenClaim := { program := "ytecddfaleapggaa", sum := "3046169ea760000c9fbeafe36c72f47706173add402394739a1f6f2ff1f4de98", func := "loop.example/g01364/laws.FnExactEncodeBits", spec := "fnExactEncodeBits", unfollowed := true, recurses := true, apart := false, narrowed := true }
def FnExactEncodeBitsUptoSaid : Prop := fnExactEncodeBitsUptoRow.holds Try.pinned (OpenSpec.upto fnExactEncodeBitsSpec)

/-- 'laws.FnExactCyclicOf', WHERE WHAT IT READS IS OF BULK AT MOST 1048576: true; the input reads as it did. -/
def fnExactCyclicOfUptoRow : OpenClaim := { program := "ytecddfaleapggaa", sum := "3046169ea760000c9fbeafe36c72f47706173add402394739a1f6f2ff1f4de98", func := "loop.example/g01364/laws.FnExactCyclicOf", spec := "fnExactCyclicOf", unfollowed := true, recurses := true, apart := false, narrowed := true }
def FnExactCyclicOfUptoSaid : Prop := fnExactCyclicOfUptoRow.holds Try.pinned (OpenSpec.upto fnExactCyclicOfSpec)

/-- 'laws.FnExactEchelonOf', WHERE WHAT IT READS IS OF BULK AT MOST 1048576: true; the input reads as it did. -/
def fnExactEchelonOfUptoRow : OpenClaim := { program := "ytecddfaleapggaa", sum := "3046169ea760000c9fbeafe36c72f47706173add402394739a1f6f2ff1f4de98", func := "loop.example/g01364/laws.FnExactEchelonOf", spec := "fnExactEchelonOf", unfollowed := true, recurses := true, apart := false, narrowed := true }
def FnExactEchelonOfUptoSaid : Prop := fnExactEchelonOfUptoRow.holds Try.pinned (OpenSpec.upto fnExactEchelonOfSpec)

/-- 'laws.FnExactInCode', WHERE WHAT IT READS IS OF BULK AT MOST 1048576: true; the input reads as it did. -/
def fnExactInCodeUptoRow : OpenClaim := { program := "ytecddfaleapggaa", sum := "3046169ea760000c9fbeafe36c72f47706173add402394739a1f6f2ff1f4de98", func := "loop.example/g01364/laws.FnExactInCode", spec := "fnExactInCode", unfollowed := true, recurses := true, apart := false, narrowed := true }
def FnExactInCodeUptoSaid : Prop := fnExactInCodeUptoRow.holds Try.pinned (OpenSpec.upto fnExactInCodeSpec)

/-- 'laws.FnExactDecodeBits', WHERE WHAT IT READS IS OF BULK AT MOST 1048576: true; the input reads as it did. -/
def fnExactDecodeBitsUptoRow : OpenClaim := { program := "ytecddfaleapggaa", sum := "3046169ea760000c9fbeafe36c72f47706173add402394739a1f6f2ff1f4de98", func := "loop.example/g01364/laws.FnExactDecodeBits", spec := "fnExactDecodeBits", unfollowed := true, recurses := true, apart := false, narrowed := true }
def FnExactDecodeBitsUptoSaid : Prop := fnExactDecodeBitsUptoRow.holds Try.pinned (OpenSpec.upto fnExactDecodeBitsSpec)

/-- 'laws.FnExactShortenParity', WHERE WHAT IT READS IS OF BULK AT MOST 1048576: true; the input reads as it did. -/
def fnExactShortenParityUptoRow : OpenClaim := { program := "ytecddfaleapggaa", sum := "3046169ea760000c9fbeafe36c72f47706173add402394739a1f6f2ff1f4de98", func := "loop.example/g01364/laws.FnExactShortenParity", spec := "fnExactShortenParity", unfollowed := true, recurses := true, apart := false, narrowed := true }
def FnExactShortenParityUptoSaid : Prop := fnExactShortenParityUptoRow.holds Try.pinned (OpenSpec.upto fnExactShortenParitySpec)

/-- 'laws.FnExactHammingOf', WHERE WHAT IT READS IS OF BULK AT MOST 1048576: true; the input reads as it did. -/
def fnExactHammingOfUptoRow : OpenClaim := { program := "ytecddfaleapggaa", sum := "3046169ea760000c9fbeafe36c72f47706173add402394739a1f6f2ff1f4de98", func := "loop.example/g01364/laws.FnExactHammingOf", spec := "fnExactHammingOf", unfollowed := true, recurses := true, apart := false, narrowed := true }
def FnExactHammingOfUptoSaid : Prop := fnExactHammingOfUptoRow.holds Try.pinned (OpenSpec.upto fnExactHammingOfSpec)

/-- 'laws.FnExactExtendParity', WHERE WHAT IT READS IS OF BULK AT MOST 1048576: true; the input reads as it did. -/
def fnExactExtendParityUptoRow : OpenClaim := { program := "ytecddfaleapggaa", sum := "3046169ea760000c9fbeafe36c72f47706173add402394739a1f6f2ff1f4de98", func := "loop.example/g01364/laws.FnExactExtendParity", spec := "fnExactExtendParity", unfollowed := true, recurses := true, apart := false, narrowed := true }
def FnExactExtendParityUptoSaid : Prop := fnExactExtendParityUptoRow.holds Try.pinned (OpenSpec.upto fnExactExtendParitySpec)

/-- 'laws.FnExactDualOf', WHERE WHAT IT READS IS OF BULK AT MOST 1048576: true; the input reads as it did. -/
def fnExactDualOfUptoRow : OpenClaim := { program := "ytecddfaleapggaa", sum := "3046169ea760000c9fbeafe36c72f47706173add402394739a1f6f2ff1f4de98", func := "loop.example/g01364/laws.FnExactDualOf", spec := "fnExactDualOf", unfollowed := true, recurses := true, apart := false, narrowed := true }
def FnExactDualOfUptoSaid : Prop := fnExactDualOfUptoRow.holds Try.pinned (OpenSpec.upto fnExactDualOfSpec)

/-- 'laws.FnExactSyndromeOf', WHERE WHAT IT READS IS OF BULK AT MOST 1048576: true; the input reads as it did. -/
def fnExactSyndromeOfUptoRow : OpenClaim := { program := "ytecddfaleapggaa", sum := "3046169ea760000c9fbeafe36c72f47706173add402394739a1f6f2ff1f4de98", func := "loop.example/g01364/laws.FnExactSyndromeOf", spec := "fnExactSyndromeOf", unfollowed := true, recurses := true, apart := false, narrowed := true }
def FnExactSyndromeOfUptoSaid : Prop := fnExactSyndromeOfUptoRow.holds Try.pinned (OpenSpec.upto fnExactSyndromeOfSpec)

end Rows
end Go.Proofs.Ytecddfaleapggaa
