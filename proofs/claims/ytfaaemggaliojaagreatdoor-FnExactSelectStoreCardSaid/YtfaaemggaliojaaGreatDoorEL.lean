import Derived.Test.YtfaaemggaliojaaGreatDoorEK
import Derived.Test.YtfaaemggaliojaaGreatDoorFH
import Derived.Test.YtfaaemggaliojaaGreatDoorIns
import Derived.Test.YtfaaemggaliojaaGreatDoorDelB
import Derived.Test.YtfaaemggaliojaaGreatDoorCK
import Derived.Test.YtfaaemggaliojaaGreatDoorCG
import Derived.Test.YtfaaemggaliojaaGreatDoorMB
set_option linter.all false
set_option linter.unusedSimpArgs false
set_option linter.unusedVariables false
namespace Go.Rs
open Go.Proofs
set_option maxRecDepth 100000
def stD (s : Sto) : List AV := [.dp .item s.items, .int .i64 s.clock]
end Go.Rs

