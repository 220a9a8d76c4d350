import Derived.Test.YtgmilpefnaadmaaDoorDE
import Derived.Test.YtgmilpefnaadmaaDoorMD
set_option linter.all false
namespace Go.Rs
open Go.Proofs
set_option maxRecDepth 100000
set_option linter.unusedVariables false
set_option linter.unusedSimpArgs false
def loM (f : Bool) (l : List It) : List (Nat × LC) := match f with
  | true => [(5, .box [.int .i64 4, .int .i64 0, .str [], .nils .str, .nils .node])]
  | false => [(5, .box [.int .i64 4, .int .i64 0, .str [], .ls 900, .ls 901]), (900, .arr .str (l.map (·.name))), (901, .arr .node (l.map (·.node)))]
end Go.Rs

