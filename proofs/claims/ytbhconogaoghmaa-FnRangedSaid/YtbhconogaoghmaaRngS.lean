/- The bits of a text, in the reference. Conditions: valid counts, letters of them, a growth of at most 16. -/
import Derived.Test.YtbhconogaoghmaaRngR
import Derived.Deep.CutRange
namespace Go.Proofs.Ytbhconogaoghmaa
open Go.RowKit
set_option maxRecDepth 100000
set_option linter.unusedVariables false
set_option linter.unusedSimpArgs false
attribute [local go_sem ↓] Go.wp_at_zero Go.wp_at_succ

end Go.Proofs.Ytbhconogaoghmaa
