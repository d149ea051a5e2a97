/- The walk of the comparison of lists of items that are equal. -/
import Derived.Test.YtejbfmnioomkbaaExactW
namespace Go.Proofs.Ytejbfmnioomkbaa
open Go.RowKit
set_option linter.unusedVariables false
set_option maxRecDepth 100000

end Go.Proofs.Ytejbfmnioomkbaa
