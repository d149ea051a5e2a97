/- The walks of the copies and comparisons of bytes. -/
import Derived.Test.YtejbfmnioomkbaaRows
import Derived.Test.YtejbfmnioomkbaaBase
import Derived.Test.YtejbfmnioomkbaaPure
import Derived.Deep.QuietTactic
import Derived.BigQuiet
namespace Go.Proofs.Ytejbfmnioomkbaa
open Go.RowKit
set_option linter.unusedVariables false
end Go.Proofs.Ytejbfmnioomkbaa
