import Derived.Test.YtmkgadogaefkaaaDoorDE
import Derived.Test.YtmkgadogaefkaaaDoorCT
import Derived.Test.YtmkgadogaefkaaaDoorDG
import Derived.Test.YtmkgadogaefkaaaDoorMF
set_option linter.all false
set_option linter.unusedSimpArgs false
set_option linter.unusedVariables false
namespace Go.Rs
open Go.Proofs
set_option maxRecDepth 100000
end Go.Rs

