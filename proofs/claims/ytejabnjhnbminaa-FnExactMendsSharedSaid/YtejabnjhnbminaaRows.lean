/-
  No cell of these rows narrows 'for every input' (looked for: loops, veiled, ifaces, maps, wideKeys, modest, calm, conditions, laid).
  DERIVED. THE GIVEN ROWS OF THIS SEAT. 12 by the template 'for every input the law returns true; each argument reads behind the call as it read before'; 0 by the template 'total and deterministic' (their statements: YtejabnjhnbminaaTotals.lean).
  GIVEN WITH THE SEED: the statements are not yours to turn. If you find one false, say at which input.
  Laid BY PROGRAM, IN A SANDBOX (cutbox-rows.mjs): the forced cells as the released guide's own fill.sh prints them over the translation 6cf03f0dc5799710… (all of the seat's roots in one cut). By AI agents, Wed Nov 11 2026. No macro, syntax, notation, axiom, sorry.
-/
import Derived.Test.YtejabnjhnbminaaChecked
import GoSem.Claim
import GoSem.ClaimJoined
import GoSem.ClaimMapViews
import Derived.JoinedTies
import Derived.KernelRfl
namespace Go.Proofs.Ytejabnjhnbminaa
/- THE CELL 'sum', in the pinned program and in every row, IS THE sha256 OF THE DUMP (.gsa) THAT YtejabnjhnbminaaProg.lean LOADS. Nothing in Lean hashes anything: it is a label: what it is worth is what the hold of that sum in a sandbox is worth. -/
noncomputable def Try.pinned : Pinned := { name := "ytejabnjhnbminaa", sum := "6cf03f0dc5799710cecfdc71e883e7c70d6f175708bcc853e3db8dd1622d0688", checked := Try.checked }
namespace Rows
def none {H : Type} : Left H := { results := [], args := [] }

/-- 'laws.FnExactMendWord': WHATEVER THE INPUT: true; the input reads as it did. -/
def fnExactMendWordSpec : ChangeSpec := { name := "fnExactMendWord", fn := fun _ => fun
  | [d1, d2] => { results := [.lit (.bool true)], args := [d1, d2] }
  | _ => none }
def fnExactMendWordRow : OpenClaim := { program := "ytejabnjhnbminaa", sum := "6cf03f0dc5799710cecfdc71e883e7c70d6f175708bcc853e3db8dd1622d0688", func := "loop.example/g01364/laws.FnExactMendWord", spec := "fnExactMendWord", unfollowed := true, recurses := true, apart := false }
def FnExactMendWordSaid : Prop := fnExactMendWordRow.holds Try.pinned (OpenSpec.ofChange fnExactMendWordSpec)

/-- ITS FALSE NEIGHBOUR: 'it returns false'. Refute it at one input. -/
def fnExactMendWordWrong : ChangeSpec := { name := "fnExactMendWord", fn := fun _ => fun
  | [d1, d2] => { results := [.lit (.bool false)], args := [d1, d2] }
  | _ => none }
def FnExactMendWordWrongFalsely : Prop := fnExactMendWordRow.holds Try.pinned (OpenSpec.ofChange fnExactMendWordWrong)

/-- 'laws.FnExactLeadersOf': WHATEVER THE INPUT: true; the input reads as it did. -/
def fnExactLeadersOfSpec : ChangeSpec := { name := "fnExactLeadersOf", fn := fun _ => fun
  | [d] => { results := [.lit (.bool true)], args := [d] }
  | _ => none }
def fnExactLeadersOfRow : OpenClaim := { program := "ytejabnjhnbminaa", sum := "6cf03f0dc5799710cecfdc71e883e7c70d6f175708bcc853e3db8dd1622d0688", func := "loop.example/g01364/laws.FnExactLeadersOf", spec := "fnExactLeadersOf", unfollowed := true, recurses := true, apart := false }
def FnExactLeadersOfSaid : Prop := fnExactLeadersOfRow.holds Try.pinned (OpenSpec.ofChange fnExactLeadersOfSpec)

/-- ITS FALSE NEIGHBOUR: 'it returns false'. Refute it at one input. -/
def fnExactLeadersOfWrong : ChangeSpec := { name := "fnExactLeadersOf", fn := fun _ => fun
  | [d] => { results := [.lit (.bool false)], args := [d] }
  | _ => none }
def FnExactLeadersOfWrongFalsely : Prop := fnExactLeadersOfRow.holds Try.pinned (OpenSpec.ofChange fnExactLeadersOfWrong)

/-- 'laws.FnExactMendsShared': WHATEVER THE INPUT: true; the input reads as it did. -/
def fnExactMendsSharedSpec : ChangeSpec := { name := "fnExactMendsShared", fn := fun _ => fun
  | [d1, d2, d3] => { results := [.lit (.bool true)], args := [d1, d2, d3] }
  | _ => none }
def fnExactMendsSharedRow : OpenClaim := { program := "ytejabnjhnbminaa", sum := "6cf03f0dc5799710cecfdc71e883e7c70d6f175708bcc853e3db8dd1622d0688", func := "loop.example/g01364/laws.FnExactMendsShared", spec := "fnExactMendsShared", unfollowed := true, recurses := true, apart := false }
def FnExactMendsSharedSaid : Prop := fnExactMendsSharedRow.holds Try.pinned (OpenSpec.ofChange fnExactMendsSharedSpec)

/-- ITS FALSE NEIGHBOUR: 'it returns false'. Refute it at one input. -/
def fnExactMendsSharedWrong : ChangeSpec := { name := "fnExactMendsShared", fn := fun _ => fun
  | [d1, d2, d3] => { results := [.lit (.bool false)], args := [d1, d2, d3] }
  | _ => none }
def FnExactMendsSharedWrongFalsely : Prop := fnExactMendsSharedRow.holds Try.pinned (OpenSpec.ofChange fnExactMendsSharedWrong)

/-- 'laws.FnExactValuesOver': WHATEVER THE INPUT: true; the input reads as it did. -/
def fnExactValuesOverSpec : ChangeSpec := { name := "fnExactValuesOver", fn := fun _ => fun
  | [d1, d2, d3] => { results := [.lit (.bool true)], args := [d1, d2, d3] }
  | _ => none }
def fnExactValuesOverRow : OpenClaim := { program := "ytejabnjhnbminaa", sum := "6cf03f0dc5799710cecfdc71e883e7c70d6f175708bcc853e3db8dd1622d0688", func := "loop.example/g01364/laws.FnExactValuesOver", spec := "fnExactValuesOver", unfollowed := true, recurses := true, apart := false }
def FnExactValuesOverSaid : Prop := fnExactValuesOverRow.holds Try.pinned (OpenSpec.ofChange fnExactValuesOverSpec)

/-- ITS FALSE NEIGHBOUR: 'it returns false'. Refute it at one input. -/
def fnExactValuesOverWrong : ChangeSpec := { name := "fnExactValuesOver", fn := fun _ => fun
  | [d1, d2, d3] => { results := [.lit (.bool false)], args := [d1, d2, d3] }
  | _ => none }
def FnExactValuesOverWrongFalsely : Prop := fnExactValuesOverRow.holds Try.pinned (OpenSpec.ofChange fnExactValuesOverWrong)

/-- 'laws.FnExactShareSecret': WHATEVER THE INPUT: true; the input reads as it did. -/
def fnExactShareSecretSpec : ChangeSpec := { name := "fnExactShareSecret", fn := fun _ => fun
  | [d1, d2, d3, d4] => { results := [.lit (.bool true)], args := [d1, d2, d3, d4] }
  | _ => none }
def fnExactShareSecretRow : OpenClaim := { program := "ytejabnjhnbminaa", sum := "6cf03f0dc5799710cecfdc71e883e7c70d6f175708bcc853e3db8dd1622d0688", func := "loop.example/g01364/laws.FnExactShareSecret", spec := "fnExactShareSecret", unfollowed := true, recurses := true, apart := false }
def FnExactShareSecretSaid : Prop := fnExactShareSecretRow.holds Try.pinned (OpenSpec.ofChange fnExactShareSecretSpec)

/-- ITS FALSE NEIGHBOUR: 'it returns false'. Refute it at one input. -/
def fnExactShareSecretWrong : ChangeSpec := { name := "fnExactShareSecret", fn := fun _ => fun
  | [d1, d2, d3, d4] => { results := [.lit (.bool false)], args := [d1, d2, d3, d4] }
  | _ => none }
def FnExactShareSecretWrongFalsely : Prop := fnExactShareSecretRow.holds Try.pinned (OpenSpec.ofChange fnExactShareSecretWrong)

/-- 'laws.FnExactJoinShares': WHATEVER THE INPUT: true; the input reads as it did. -/
def fnExactJoinSharesSpec : ChangeSpec := { name := "fnExactJoinShares", fn := fun _ => fun
  | [d1, d2, d3] => { results := [.lit (.bool true)], args := [d1, d2, d3] }
  | _ => none }
def fnExactJoinSharesRow : OpenClaim := { program := "ytejabnjhnbminaa", sum := "6cf03f0dc5799710cecfdc71e883e7c70d6f175708bcc853e3db8dd1622d0688", func := "loop.example/g01364/laws.FnExactJoinShares", spec := "fnExactJoinShares", apart := false }
def FnExactJoinSharesSaid : Prop := fnExactJoinSharesRow.holds Try.pinned (OpenSpec.ofChange fnExactJoinSharesSpec)

/-- ITS FALSE NEIGHBOUR: 'it returns false'. Refute it at one input. -/
def fnExactJoinSharesWrong : ChangeSpec := { name := "fnExactJoinShares", fn := fun _ => fun
  | [d1, d2, d3] => { results := [.lit (.bool false)], args := [d1, d2, d3] }
  | _ => none }
def FnExactJoinSharesWrongFalsely : Prop := fnExactJoinSharesRow.holds Try.pinned (OpenSpec.ofChange fnExactJoinSharesWrong)

/-- 'laws.FnExactFitsShares': WHATEVER THE INPUT: true; the input reads as it did. -/
def fnExactFitsSharesSpec : ChangeSpec := { name := "fnExactFitsShares", fn := fun _ => fun
  | [d1, d2, d3, d4] => { results := [.lit (.bool true)], args := [d1, d2, d3, d4] }
  | _ => none }
def fnExactFitsSharesRow : OpenClaim := { program := "ytejabnjhnbminaa", sum := "6cf03f0dc5799710cecfdc71e883e7c70d6f175708bcc853e3db8dd1622d0688", func := "loop.example/g01364/laws.FnExactFitsShares", spec := "fnExactFitsShares", apart := false }
def FnExactFitsSharesSaid : Prop := fnExactFitsSharesRow.holds Try.pinned (OpenSpec.ofChange fnExactFitsSharesSpec)

/-- ITS FALSE NEIGHBOUR: 'it returns false'. Refute it at one input. -/
def fnExactFitsSharesWrong : ChangeSpec := { name := "fnExactFitsShares", fn := fun _ => fun
  | [d1, d2, d3, d4] => { results := [.lit (.bool false)], args := [d1, d2, d3, d4] }
  | _ => none }
def FnExactFitsSharesWrongFalsely : Prop := fnExactFitsSharesRow.holds Try.pinned (OpenSpec.ofChange fnExactFitsSharesWrong)

/-- 'laws.FnExactMendValues': WHATEVER THE INPUT: true; the input reads as it did. -/
def fnExactMendValuesSpec : ChangeSpec := { name := "fnExactMendValues", fn := fun _ => fun
  | [d1, d2, d3] => { results := [.lit (.bool true)], args := [d1, d2, d3] }
  | _ => none }
def fnExactMendValuesRow : OpenClaim := { program := "ytejabnjhnbminaa", sum := "6cf03f0dc5799710cecfdc71e883e7c70d6f175708bcc853e3db8dd1622d0688", func := "loop.example/g01364/laws.FnExactMendValues", spec := "fnExactMendValues", unfollowed := true, recurses := true, apart := false }
def FnExactMendValuesSaid : Prop := fnExactMendValuesRow.holds Try.pinned (OpenSpec.ofChange fnExactMendValuesSpec)

/-- ITS FALSE NEIGHBOUR: 'it returns false'. Refute it at one input. -/
def fnExactMendValuesWrong : ChangeSpec := { name := "fnExactMendValues", fn := fun _ => fun
  | [d1, d2, d3] => { results := [.lit (.bool false)], args := [d1, d2, d3] }
  | _ => none }
def FnExactMendValuesWrongFalsely : Prop := fnExactMendValuesRow.holds Try.pinned (OpenSpec.ofChange fnExactMendValuesWrong)

/-- 'laws.FnShares': WHATEVER THE INPUT: true; the input reads as it did. -/
def fnSharesSpec : ChangeSpec := { name := "fnShares", fn := fun _ => fun
  | [d1, d2] => { results := [.lit (.bool true)], args := [d1, d2] }
  | _ => none }
def fnSharesRow : OpenClaim := { program := "ytejabnjhnbminaa", sum := "6cf03f0dc5799710cecfdc71e883e7c70d6f175708bcc853e3db8dd1622d0688", func := "loop.example/g01364/laws.FnShares", spec := "fnShares", unfollowed := true, recurses := true, apart := false }
def FnSharesSaid : Prop := fnSharesRow.holds Try.pinned (OpenSpec.ofChange fnSharesSpec)

/-- ITS FALSE NEIGHBOUR: 'it returns false'. Refute it at one input. -/
def fnSharesWrong : ChangeSpec := { name := "fnShares", fn := fun _ => fun
  | [d1, d2] => { results := [.lit (.bool false)], args := [d1, d2] }
  | _ => none }
def FnSharesWrongFalsely : Prop := fnSharesRow.holds Try.pinned (OpenSpec.ofChange fnSharesWrong)

/-- 'laws.FnExactMixChance': WHATEVER THE INPUT: true; the input reads as it did. -/
def fnExactMixChanceSpec : ChangeSpec := { name := "fnExactMixChance", fn := fun _ => fun
  | [d1, d2] => { results := [.lit (.bool true)], args := [d1, d2] }
  | _ => none }
def fnExactMixChanceRow : OpenClaim := { program := "ytejabnjhnbminaa", sum := "6cf03f0dc5799710cecfdc71e883e7c70d6f175708bcc853e3db8dd1622d0688", func := "loop.example/g01364/laws.FnExactMixChance", spec := "fnExactMixChance", inPlace := ["math.Float64frombits", "math.Float64bits"], unfollowed := true, recurses := true, apart := false }
def FnExactMixChanceSaid : Prop := fnExactMixChanceRow.holds Try.pinned (OpenSpec.ofChange fnExactMixChanceSpec)

/-- ITS FALSE NEIGHBOUR: 'it returns false'. Refute it at one input. -/
def fnExactMixChanceWrong : ChangeSpec := { name := "fnExactMixChance", fn := fun _ => fun
  | [d1, d2] => { results := [.lit (.bool false)], args := [d1, d2] }
  | _ => none }
def FnExactMixChanceWrongFalsely : Prop := fnExactMixChanceRow.holds Try.pinned (OpenSpec.ofChange fnExactMixChanceWrong)

/-- 'laws.FnExactMixLearn': WHATEVER THE INPUT: true; the input reads as it did. -/
def fnExactMixLearnSpec : ChangeSpec := { name := "fnExactMixLearn", fn := fun _ => fun
  | [d1, d2, d3, d4] => { results := [.lit (.bool true)], args := [d1, d2, d3, d4] }
  | _ => none }
def fnExactMixLearnRow : OpenClaim := { program := "ytejabnjhnbminaa", sum := "6cf03f0dc5799710cecfdc71e883e7c70d6f175708bcc853e3db8dd1622d0688", func := "loop.example/g01364/laws.FnExactMixLearn", spec := "fnExactMixLearn", inPlace := ["math.Float64frombits", "math.Float64bits"], unfollowed := true, recurses := true, apart := false }
def FnExactMixLearnSaid : Prop := fnExactMixLearnRow.holds Try.pinned (OpenSpec.ofChange fnExactMixLearnSpec)

/-- ITS FALSE NEIGHBOUR: 'it returns false'. Refute it at one input. -/
def fnExactMixLearnWrong : ChangeSpec := { name := "fnExactMixLearn", fn := fun _ => fun
  | [d1, d2, d3, d4] => { results := [.lit (.bool false)], args := [d1, d2, d3, d4] }
  | _ => none }
def FnExactMixLearnWrongFalsely : Prop := fnExactMixLearnRow.holds Try.pinned (OpenSpec.ofChange fnExactMixLearnWrong)

/-- 'laws.FnExactGuessBits': WHATEVER THE INPUT: true; the input reads as it did. -/
def fnExactGuessBitsSpec : ChangeSpec := { name := "fnExactGuessBits", fn := fun _ => fun
  | [d1, d2] => { results := [.lit (.bool true)], args := [d1, d2] }
  | _ => none }
def fnExactGuessBitsRow : OpenClaim := { program := "ytejabnjhnbminaa", sum := "6cf03f0dc5799710cecfdc71e883e7c70d6f175708bcc853e3db8dd1622d0688", func := "loop.example/g01364/laws.FnExactGuessBits", spec := "fnExactGuessBits", inPlace := ["math.Float64frombits", "math.Float64bits"], apart := false }
def FnExactGuessBitsSaid : Prop := fnExactGuessBitsRow.holds Try.pinned (OpenSpec.ofChange fnExactGuessBitsSpec)

/-- ITS FALSE NEIGHBOUR: 'it returns false'. Refute it at one input. -/
def fnExactGuessBitsWrong : ChangeSpec := { name := "fnExactGuessBits", fn := fun _ => fun
  | [d1, d2] => { results := [.lit (.bool false)], args := [d1, d2] }
  | _ => none }
def FnExactGuessBitsWrongFalsely : Prop := fnExactGuessBitsRow.holds Try.pinned (OpenSpec.ofChange fnExactGuessBitsWrong)

/- THE SECOND FORM. 'bulk': how many values and letters a reading holds, each counted each time it is reached (what is shared counts as often as it is met; a slice's spare places count too). A statement '..UptoSaid' is the law's where the arguments, and the package variables that the reading takes, are together of bulk at most 1048576: NARROWER than '..Said'. Prove '..Said' where nothing that the law and all that it calls make is longer than what came in: it says more and counts as full. Else prove '..UptoSaid'. A law counts once. -/
mutual
def uptoBulk {H : Type} : DataW H → Nat
  | .lit (.string bytes) => bytes.length + 1
  | .lit _ => 1
  | .nil => 1
  | .ptr d => uptoBulk d + 1
  | .slice elems spare => uptoBulkAll elems + uptoBulkAll spare + 1
  | .agg parts => uptoBulkAll parts + 1
  | .iface _ d => uptoBulk d + 1
  | .map entries => uptoBulkEntries entries + 1
  | .held _ => 1
def uptoBulkAll {H : Type} : List (DataW H) → Nat
  | [] => 0
  | d :: r => uptoBulk d + uptoBulkAll r
def uptoBulkEntries {H : Type} : List (Lit × DataW H) → Nat
  | [] => 0
  | x :: r => uptoBulkEntry x + uptoBulkEntries r
def uptoBulkEntry {H : Type} : Lit × DataW H → Nat
  | (.string bytes, d) => bytes.length + uptoBulk d + 1
  | (_, d) => uptoBulk d + 1
 end
def uptoSmall : (H : Type) → List (DataW H) → Bool := fun _ ds => decide (uptoBulkAll ds ≤ 1048576)
def OpenSpec.upto (s : _root_.Go.ChangeSpec) : _root_.Go.OpenSpec := { _root_.Go.OpenSpec.ofChange s with cond := some uptoSmall }

/-- 'laws.FnExactMendWord', WHERE WHAT IT READS IS OF BULK AT MOST 1048576: true; the input reads as it did. -/
def fnExactMendWordUptoRow : OpenClaim := { program := "ytejabnjhnbminaa", sum := "6cf03f0dc5799710cecfdc71e883e7c70d6f175708bcc853e3db8dd1622d0688", func := "loop.example/g01364/laws.FnExactMendWord", spec := "fnExactMendWord", unfollowed := true, recurses := true, apart := false, narrowed := true }
def FnExactMendWordUptoSaid : Prop := fnExactMendWordUptoRow.holds Try.pinned (OpenSpec.upto fnExactMendWordSpec)

/-- 'laws.FnExactLeadersOf', WHERE WHAT IT READS IS OF BULK AT MOST 1048576: true; the input reads as it did. -/
def fnExactLeadersOfUptoRow : OpenClaim := { program := "ytejabnjhnbminaa", sum := "6cf03f0dc5799710cecfdc71e883e7c70d6f175708bcc853e3db8dd1622d0688", func := "loop.example/g01364/laws.FnExactLeadersOf", spec := "fnExactLeadersOf", unfollowed := true, recurses := true, apart := false, narrowed := true }
def FnExactLeadersOfUptoSaid : Prop := fnExactLeadersOfUptoRow.holds Try.pinned (OpenSpec.upto fnExactLeadersOfSpec)

/-- 'laws.FnExactMendsShared', WHERE WHAT IT READS IS OF BULK AT MOST 1048576: true; the input reads as it did. -/
def fnExactMendsSharedUptoRow : OpenClaim := { program := "ytejabnjhnbminaa", sum := "6cf03f0dc5799710cecfdc71e883e7c70d6f175708bcc853e3db8dd1622d0688", func := "loop.example/g01364/laws.FnExactMendsShared", spec := "fnExactMendsShared", unfollowed := true, recurses := true, apart := false, narrowed := true }
def FnExactMendsSharedUptoSaid : Prop := fnExactMendsSharedUptoRow.holds Try.pinned (OpenSpec.upto fnExactMendsSharedSpec)

/-- 'laws.FnExactValuesOver', WHERE WHAT IT READS IS OF BULK AT MOST 1048576: true; the input reads as it did. -/
def fnExactValuesOverUptoRow : OpenClaim := { program := "ytejabnjhnbminaa", sum := "6cf03f0dc5799710cecfdc71e883e7c70d6f175708bcc853e3db8dd1622d0688", func := "loop.example/g01364/laws.FnExactValuesOver", spec := "fnExactValuesOver", unfollowed := true, recurses := true, apart := false, narrowed := true }
def FnExactValuesOverUptoSaid : Prop := fnExactValuesOverUptoRow.holds Try.pinned (OpenSpec.upto fnExactValuesOverSpec)

/-- 'laws.FnExactShareSecret', WHERE WHAT IT READS IS OF BULK AT MOST 1048576: true; the input reads as it did. -/
def fnExactShareSecretUptoRow : OpenClaim := { program := "ytejabnjhnbminaa", sum := "6cf03f0dc5799710cecfdc71e883e7c70d6f175708bcc853e3db8dd1622d0688", func := "loop.example/g01364/laws.FnExactShareSecret", spec := "fnExactShareSecret", unfollowed := true, recurses := true, apart := false, narrowed := true }
def FnExactShareSecretUptoSaid : Prop := fnExactShareSecretUptoRow.holds Try.pinned (OpenSpec.upto fnExactShareSecretSpec)

/-- 'laws.FnExactJoinShares', WHERE WHAT IT READS IS OF BULK AT MOST 1048576: true; the input reads as it did. -/
def fnExactJoinSharesUptoRow : OpenClaim := { program := "ytejabnjhnbminaa", sum := "6cf03f0dc5799710cecfdc71e883e7c70d6f175708bcc853e3db8dd1622d0688", func := "loop.example/g01364/laws.FnExactJoinShares", spec := "fnExactJoinShares", apart := false, narrowed := true }
def FnExactJoinSharesUptoSaid : Prop := fnExactJoinSharesUptoRow.holds Try.pinned (OpenSpec.upto fnExactJoinSharesSpec)

/-- 'laws.FnExactFitsShares', WHERE WHAT IT READS IS OF BULK AT MOST 1048576: true; the input reads as it did. -/
def fnExactFitsSharesUptoRow : OpenClaim := { program := "ytejabnjhnbminaa", sum := "6cf03f0dc5799710cecfdc71e883e7c70d6f175708bcc853e3db8dd1622d0688", func := "loop.example/g01364/laws.FnExactFitsShares", spec := "fnExactFitsShares", apart := false, narrowed := true }
def FnExactFitsSharesUptoSaid : Prop := fnExactFitsSharesUptoRow.holds Try.pinned (OpenSpec.upto fnExactFitsSharesSpec)

/-- 'laws.FnExactMendValues', WHERE WHAT IT READS IS OF BULK AT MOST 1048576: true; the input reads as it did. -/
def fnExactMendValuesUptoRow : OpenClaim := { program := "ytejabnjhnbminaa", sum := "6cf03f0dc5799710cecfdc71e883e7c70d6f175708bcc853e3db8dd1622d0688", func := "loop.example/g01364/laws.FnExactMendValues", spec := "fnExactMendValues", unfollowed := true, recurses := true, apart := false, narrowed := true }
def FnExactMendValuesUptoSaid : Prop := fnExactMendValuesUptoRow.holds Try.pinned (OpenSpec.upto fnExactMendValuesSpec)

/-- 'laws.FnShares', WHERE WHAT IT READS IS OF BULK AT MOST 1048576: true; the input reads as it did. -/
def fnSharesUptoRow : OpenClaim := { program := "ytejabnjhnbminaa", sum := "6cf03f0dc5799710cecfdc71e883e7c70d6f175708bcc853e3db8dd1622d0688", func := "loop.example/g01364/laws.FnShares", spec := "fnShares", unfollowed := true, recurses := true, apart := false, narrowed := true }
def FnSharesUptoSaid : Prop := fnSharesUptoRow.holds Try.pinned (OpenSpec.upto fnSharesSpec)

/-- 'laws.FnExactMixChance', WHERE WHAT IT READS IS OF BULK AT MOST 1048576: true; the input reads as it did. -/
def fnExactMixChanceUptoRow : OpenClaim := { program := "ytejabnjhnbminaa", sum := "6cf03f0dc5799710cecfdc71e883e7c70d6f175708bcc853e3db8dd1622d0688", func := "loop.example/g01364/laws.FnExactMixChance", spec := "fnExactMixChance", inPlace := ["math.Float64frombits", "math.Float64bits"], unfollowed := true, recurses := true, apart := false, narrowed := true }
def FnExactMixChanceUptoSaid : Prop := fnExactMixChanceUptoRow.holds Try.pinned (OpenSpec.upto fnExactMixChanceSpec)

/-- 'laws.FnExactMixLearn', WHERE WHAT IT READS IS OF BULK AT MOST 1048576: true; the input reads as it did. -/
def fnExactMixLearnUptoRow : OpenClaim := { program := "ytejabnjhnbminaa", sum := "6cf03f0dc5799710cecfdc71e883e7c70d6f175708bcc853e3db8dd1622d0688", func := "loop.example/g01364/laws.FnExactMixLearn", spec := "fnExactMixLearn", inPlace := ["math.Float64frombits", "math.Float64bits"], unfollowed := true, recurses := true, apart := false, narrowed := true }
def FnExactMixLearnUptoSaid : Prop := fnExactMixLearnUptoRow.holds Try.pinned (OpenSpec.upto fnExactMixLearnSpec)

/-- 'laws.FnExactGuessBits', WHERE WHAT IT READS IS OF BULK AT MOST 1048576: true; the input reads as it did. -/
def fnExactGuessBitsUptoRow : OpenClaim := { program := "ytejabnjhnbminaa", sum := "6cf03f0dc5799710cecfdc71e883e7c70d6f175708bcc853e3db8dd1622d0688", func := "loop.example/g01364/laws.FnExactGuessBits", spec := "fnExactGuessBits", inPlace := ["math.Float64frombits", "math.Float64bits"], apart := false, narrowed := true }
def FnExactGuessBitsUptoSaid : Prop := fnExactGuessBitsUptoRow.holds Try.pinned (OpenSpec.upto fnExactGuessBitsSpec)

end Rows
end Go.Proofs.Ytejabnjhnbminaa
