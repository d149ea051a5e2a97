/- The walks of the copies and comparisons of bytes. -/
import Derived.Test.YthoakomccjjhbaaRows
import Derived.Test.YthoakomccjjhbaaBase
import Derived.Test.YthoakomccjjhbaaPure
import Derived.Deep.QuietTactic
import Derived.BigQuiet
namespace Go.Proofs.Ythoakomccjjhbaa
open Go.RowKit
set_option linter.unusedVariables false
end Go.Proofs.Ythoakomccjjhbaa
