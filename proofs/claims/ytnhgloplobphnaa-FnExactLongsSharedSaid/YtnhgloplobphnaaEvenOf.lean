/- EvenCounts and CountsOf: what both packages return. No conditions but that the slices read. -/
import Derived.Test.YtnhgloplobphnaaEven
import Derived.Handy
namespace Go.Proofs.Ytnhgloplobphnaa
open Go.RowKit
set_option maxRecDepth 100000
set_option linter.unusedVariables false
set_option linter.unusedSimpArgs false

end Go.Proofs.Ytnhgloplobphnaa
