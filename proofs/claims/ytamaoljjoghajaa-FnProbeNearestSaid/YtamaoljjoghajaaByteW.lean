/- The walks of the copies and comparisons of bytes. -/
import Derived.Test.YtamaoljjoghajaaRows
import Derived.Test.YtamaoljjoghajaaBase
import Derived.Test.YtamaoljjoghajaaPure
import Derived.Deep.QuietTactic
import Derived.BigQuiet
namespace Go.Proofs.Ytamaoljjoghajaa
open Go.RowKit
set_option linter.unusedVariables false
end Go.Proofs.Ytamaoljjoghajaa
