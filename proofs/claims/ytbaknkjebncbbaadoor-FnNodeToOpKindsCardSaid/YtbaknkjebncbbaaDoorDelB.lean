import Derived.Test.YtbaknkjebncbbaaDoorInsE
set_option linter.all false
set_option linter.unusedVariables false
set_option linter.unusedSimpArgs false
namespace Go.Rs
open Go.Proofs Go.RowKit Go.Lib
end Go.Rs

