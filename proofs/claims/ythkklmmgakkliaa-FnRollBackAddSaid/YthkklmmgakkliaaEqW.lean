/- The walk of the comparison of lists of items that are equal. -/
import Derived.Test.YthkklmmgakkliaaExactW
namespace Go.Proofs.Ythkklmmgakkliaa
open Go.RowKit
set_option linter.unusedVariables false
set_option maxRecDepth 100000

end Go.Proofs.Ythkklmmgakkliaa
