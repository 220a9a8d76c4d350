import Derived.Test.YtfaaemggaliojaaDoorEK
import Derived.Test.YtfaaemggaliojaaDoorFH
import Derived.Test.YtfaaemggaliojaaDoorIns
import Derived.Test.YtfaaemggaliojaaDoorDeG
import Derived.Test.YtfaaemggaliojaaDoorCK
import Derived.Test.YtfaaemggaliojaaDoorCI
import Derived.Test.YtfaaemggaliojaaDoorMB
import Derived.Test.YtfaaemggaliojaaDoorMC
import Derived.Test.YtfaaemggaliojaaDoorCG
import Derived.Test.YtfaaemggaliojaaDoorCB
import Derived.Test.YtfaaemggaliojaaDoorMG
import Derived.Test.YtfaaemggaliojaaDoorET
set_option linter.all false
section
set_option linter.unusedSimpArgs false
set_option linter.unusedVariables false
namespace Go.Rs
open Go.Proofs
set_option maxRecDepth 100000
def stD (s : Sto) : List AV := [.dp .item s.items, .int .i64 s.clock]
end Go.Rs
end
section
section
set_option linter.unusedSimpArgs false
set_option linter.unusedVariables false
namespace Go.Rs
open Go.Proofs
set_option maxRecDepth 100000
end Go.Rs
end
section
set_option linter.unusedSimpArgs false
set_option linter.unusedVariables false
namespace Go.Rs
open Go.Proofs Go.RowKit
set_option maxRecDepth 100000
end Go.Rs
end
end
