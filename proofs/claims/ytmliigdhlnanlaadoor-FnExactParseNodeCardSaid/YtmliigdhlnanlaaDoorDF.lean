import Derived.Test.YtmliigdhlnanlaaDoorLY
import Derived.Test.YtmliigdhlnanlaaDoorCP
import Derived.Test.YtmliigdhlnanlaaDoorMD
import Derived.Test.YtmliigdhlnanlaaDoorIns
import Derived.Test.YtmliigdhlnanlaaDoorCG
set_option linter.all false
section
set_option linter.unusedSimpArgs false
set_option linter.unusedVariables false
namespace Go.Rs
open Go.Proofs
set_option maxRecDepth 100000
end Go.Rs
end
section
set_option linter.unusedSimpArgs false
set_option linter.unusedVariables false
namespace Go.Rs
open Go.Proofs
set_option maxRecDepth 100000
end Go.Rs
end
