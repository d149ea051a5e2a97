/- The walks of the copies and comparisons of bytes. -/
import Derived.Test.YthkklmmgakkliaaRows
import Derived.Test.YthkklmmgakkliaaBase
import Derived.Test.YthkklmmgakkliaaPure
import Derived.Deep.QuietTactic
import Derived.BigQuiet
namespace Go.Proofs.Ythkklmmgakkliaa
open Go.RowKit
set_option linter.unusedVariables false
end Go.Proofs.Ythkklmmgakkliaa
