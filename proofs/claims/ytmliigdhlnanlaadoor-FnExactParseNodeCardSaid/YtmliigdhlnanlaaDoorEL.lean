import Derived.Test.YtmliigdhlnanlaaDoorEK
import Derived.Test.YtmliigdhlnanlaaDoorFH
import Derived.Test.YtmliigdhlnanlaaDoorIns
import Derived.Test.YtmliigdhlnanlaaDoorCJ
import Derived.Test.YtmliigdhlnanlaaDoorCL
import Derived.Test.YtmliigdhlnanlaaDoorCG
import Derived.Test.YtmliigdhlnanlaaDoorMB
set_option linter.all false
set_option linter.unusedSimpArgs false
set_option linter.unusedVariables false
namespace Go.Rs
open Go.Proofs
set_option maxRecDepth 100000
end Go.Rs

