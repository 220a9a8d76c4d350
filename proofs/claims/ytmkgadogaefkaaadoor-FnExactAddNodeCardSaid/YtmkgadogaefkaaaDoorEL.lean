import Derived.Test.YtmkgadogaefkaaaDoorEK
import Derived.Test.YtmkgadogaefkaaaDoorFH
import Derived.Test.YtmkgadogaefkaaaDoorInsE
import Derived.Test.YtmkgadogaefkaaaDoorCK
import Derived.Test.YtmkgadogaefkaaaDoorCG
import Derived.Test.YtmkgadogaefkaaaDoorMB
set_option linter.all false
set_option linter.unusedSimpArgs false
set_option linter.unusedVariables false
namespace Go.Rs
open Go.Proofs
set_option maxRecDepth 100000
end Go.Rs

