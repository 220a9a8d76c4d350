import Derived.Test.YtdgdekfdfcaheaaDoorEA
import Derived.Test.YtdgdekfdfcaheaaDoorCA
import Derived.Test.YtdgdekfdfcaheaaDoorMI
set_option linter.all false
set_option linter.unusedSimpArgs false
set_option linter.unusedVariables false
namespace Go.Rs
open Go.Proofs Go.RowKit
set_option maxRecDepth 100000
set_option maxHeartbeats 4000000
end Go.Rs

