import Derived.Test.YtmgheiagnleeiaaCT
import Derived.Test.YtmgheiagnleeiaaCP
import Derived.Test.YtmgheiagnleeiaaMD
set_option linter.all false
set_option linter.unusedSimpArgs false
set_option linter.unusedVariables false
namespace Go.Rs
open Go.Proofs
set_option maxRecDepth 100000
end Go.Rs

