/- The text of bits, in the reference. Conditions: valid counts, a growth of at most 16, at most 64 letters. -/
import Derived.Test.YtbhconogaoghmaaRngK
import Derived.Test.YtbhconogaoghmaaRngS
namespace Go.Proofs.Ytbhconogaoghmaa
open Go.RowKit
set_option maxRecDepth 100000
set_option linter.unusedVariables false
set_option linter.unusedSimpArgs false
attribute [local go_sem ↓] Go.wp_at_zero Go.wp_at_succ

end Go.Proofs.Ytbhconogaoghmaa
