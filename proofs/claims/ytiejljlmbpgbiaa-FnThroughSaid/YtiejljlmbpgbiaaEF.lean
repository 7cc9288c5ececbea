/- A float of 32 bits as a value. -/
import Derived.Test.YtiejljlmbpgbiaaBase
namespace Go.Proofs.Ytiejljlmbpgbiaa
open Go.RowKit
abbrev eF (x : Nat) : Value := .float .f32 x
end Go.Proofs.Ytiejljlmbpgbiaa
