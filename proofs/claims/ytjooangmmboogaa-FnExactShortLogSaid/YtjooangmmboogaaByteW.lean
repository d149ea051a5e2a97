/- The walks of the copies and comparisons of bytes. -/
import Derived.Test.YtjooangmmboogaaRows
import Derived.Test.YtjooangmmboogaaBase
import Derived.Test.YtjooangmmboogaaPure
import Derived.Deep.QuietTactic
import Derived.BigQuiet
namespace Go.Proofs.Ytjooangmmboogaa
open Go.RowKit
set_option linter.unusedVariables false
end Go.Proofs.Ytjooangmmboogaa
