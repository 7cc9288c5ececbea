/- A copy of a slice of integers by the library's Clone. Conditions: at most 2^20 numbers. -/
import Derived.Test.YtgkciionmhoofaaOwn
import Derived.Handy
namespace Go.Proofs.Ytgkciionmhoofaa
open Go.RowKit
set_option maxRecDepth 100000
set_option linter.unusedVariables false
set_option linter.unusedSimpArgs false

end Go.Proofs.Ytgkciionmhoofaa
