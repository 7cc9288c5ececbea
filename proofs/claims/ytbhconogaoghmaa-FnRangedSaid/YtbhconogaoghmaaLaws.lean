/- The helpers of the statements' own package: copies, comparisons, marks of slices of integers. No conditions but that the slices read. -/
import Derived.Test.YtbhconogaoghmaaBase
namespace Go.Proofs.Ytbhconogaoghmaa
open Go.RowKit
set_option maxRecDepth 100000

end Go.Proofs.Ytbhconogaoghmaa
