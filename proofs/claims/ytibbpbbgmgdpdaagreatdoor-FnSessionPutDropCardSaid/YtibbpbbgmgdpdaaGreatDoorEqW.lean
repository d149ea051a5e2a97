/- The walk of the comparison of lists of items that are equal. -/
import Derived.Test.YtibbpbbgmgdpdaaGreatDoorExactW
namespace Go.Proofs.YtibbpbbgmgdpdaaGreatDoor
open Go.RowKit
set_option linter.unusedVariables false
set_option maxRecDepth 100000

end Go.Proofs.YtibbpbbgmgdpdaaGreatDoor
