import Derived.Test.YtmliigdhlnanlaaDoorEF
set_option linter.all false
set_option linter.unusedSimpArgs false
set_option linter.unusedVariables false
namespace Go.Rs
open Go.Proofs
set_option maxRecDepth 100000
def ndD (n : Nd) : List AV := [.int .i64 n.kind, .int .i64 n.num, .str n.text, .own .str n.names, .dp .node n.kids]
end Go.Rs

