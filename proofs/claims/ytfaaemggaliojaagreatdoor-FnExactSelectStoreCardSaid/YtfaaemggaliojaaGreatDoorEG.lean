import Derived.Test.YtfaaemggaliojaaGreatDoorCK
import Derived.Test.YtfaaemggaliojaaGreatDoorCG
import Derived.Test.YtfaaemggaliojaaGreatDoorMB
import Derived.Test.YtfaaemggaliojaaGreatDoorDelB
import Derived.Test.YtfaaemggaliojaaGreatDoorMC
import Derived.Test.YtfaaemggaliojaaGreatDoorCB
import Derived.Test.YtfaaemggaliojaaGreatDoorMG
set_option linter.all false
set_option linter.unusedSimpArgs false
set_option linter.unusedVariables false
namespace Go.Rs
open Go.Proofs
set_option maxRecDepth 100000
end Go.Rs

