/- The statements' package's helpers for structs of a number and a list: copies, sizes, comparisons, marks. No conditions but that the slices read. -/
import Derived.Test.YtbhconogaoghmaaLaws
import Derived.Test.YtbhconogaoghmaaEq
import Derived.Handy
namespace Go.Proofs.Ytbhconogaoghmaa
open Go.RowKit
set_option maxRecDepth 100000
set_option linter.unusedVariables false
set_option linter.unusedSimpArgs false

end Go.Proofs.Ytbhconogaoghmaa
