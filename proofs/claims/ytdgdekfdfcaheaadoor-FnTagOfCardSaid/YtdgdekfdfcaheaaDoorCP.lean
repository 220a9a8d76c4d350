import Derived.Test.YtdgdekfdfcaheaaDoorCL
import Derived.Test.YtdgdekfdfcaheaaDoorCG
import Derived.Test.YtdgdekfdfcaheaaDoorMB
import Derived.Test.YtdgdekfdfcaheaaDoorDelB
import Derived.Test.YtdgdekfdfcaheaaDoorMC
set_option linter.all false
set_option linter.unusedSimpArgs false
set_option linter.unusedVariables false
namespace Go.Rs
open Go.Proofs
set_option maxRecDepth 100000
end Go.Rs

