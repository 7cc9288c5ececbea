/- The helpers of the statements' own package: copies, comparisons, marks of slices of integers. No conditions but that the slices read. -/
import Derived.Test.YteejcdfmpmcmlaaBase
namespace Go.Proofs.Yteejcdfmpmcmlaa
open Go.RowKit
set_option maxRecDepth 100000

end Go.Proofs.Yteejcdfmpmcmlaa
