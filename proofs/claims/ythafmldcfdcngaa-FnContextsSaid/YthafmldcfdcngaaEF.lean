/- A float of 32 bits as a value. -/
import Derived.Test.YthafmldcfdcngaaBase
namespace Go.Proofs.Ythafmldcfdcngaa
open Go.RowKit
abbrev eF (x : Nat) : Value := .float .f32 x
end Go.Proofs.Ythafmldcfdcngaa
