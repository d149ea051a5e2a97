/- The walks of the copies, comparisons and marks of integers. -/
import Derived.Test.YtibbpbbgmgdpdaaGreatDoorRows
import Derived.Test.YtibbpbbgmgdpdaaGreatDoorBase
import Derived.Test.YtibbpbbgmgdpdaaGreatDoorPure
import Derived.Deep.QuietTactic
import Derived.BigQuiet
namespace Go.Proofs.YtibbpbbgmgdpdaaGreatDoor
open Go.RowKit
set_option linter.unusedVariables false
end Go.Proofs.YtibbpbbgmgdpdaaGreatDoor
