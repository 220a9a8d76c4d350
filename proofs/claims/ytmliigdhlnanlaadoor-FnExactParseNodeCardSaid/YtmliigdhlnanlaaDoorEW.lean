import Derived.Test.YtmliigdhlnanlaaDoorER
import Derived.Test.YtmliigdhlnanlaaDoorEP
import Derived.Test.YtmliigdhlnanlaaDoorEL
import Derived.Test.YtmliigdhlnanlaaDoorLY
import Derived.Test.YtmliigdhlnanlaaDoorCP
import Derived.Test.YtmliigdhlnanlaaDoorDF
import Derived.Test.YtmliigdhlnanlaaDoorIns
import Derived.Test.YtmliigdhlnanlaaDoorCG
import Derived.Test.YtmliigdhlnanlaaDoorMD
import Derived.Test.YtmliigdhlnanlaaDoorME
import Derived.Test.YtmliigdhlnanlaaDoorMF
import Derived.Test.YtmliigdhlnanlaaDoorFH
set_option linter.all false
set_option linter.unusedSimpArgs false
set_option linter.unusedVariables false
namespace Go.Rs
open Go.Proofs Go.RowKit
set_option maxRecDepth 100000
def optND (r : Option Nd) : AV := .tup [.st (ndD (r.getD default)), .bool r.isSome]
def optNW (r : Option Nd) : AV := .tup [.st (ndW (r.getD default)), .bool r.isSome]
end Go.Rs

