import Derived.Test.YtfaaemggaliojaaGreatDoorET
import Derived.Test.YtfaaemggaliojaaGreatDoorEL
import Derived.Test.YtfaaemggaliojaaGreatDoorCK
import Derived.Test.YtfaaemggaliojaaGreatDoorCG
import Derived.Test.YtfaaemggaliojaaGreatDoorMB
import Derived.Test.YtfaaemggaliojaaGreatDoorDelB
import Derived.Test.YtfaaemggaliojaaGreatDoorMC
import Derived.Test.YtfaaemggaliojaaGreatDoorEG
set_option linter.all false
set_option linter.unusedSimpArgs false
set_option linter.unusedVariables false
namespace Go.Rs
open Go.Proofs Go.RowKit
set_option maxRecDepth 100000
def nlT (E : El) : List (ElT E) → List (Nat × LC)
  | [] => []
  | a :: r => [(900, .tree E (a :: r))]
end Go.Rs

