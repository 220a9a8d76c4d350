import Derived.Test.YtmgheiagnleeiaaEI
import Derived.Test.YtmgheiagnleeiaaCC
import Derived.Test.YtmgheiagnleeiaaMA
import Derived.Test.YtmgheiagnleeiaaFG
import Derived.Test.YtmgheiagnleeiaaMB
import Derived.Test.YtmgheiagnleeiaaDelB
set_option linter.all false
set_option linter.unusedSimpArgs false
set_option linter.unusedVariables false
namespace Go.Rs
open Go.Proofs
set_option maxRecDepth 100000
end Go.Rs

