import Derived.Test.YtmgheiagnleeiaaDoorIns
set_option linter.all false
set_option linter.unusedSimpArgs false
set_option linter.unusedVariables false
namespace Go.Rs
open Go.Proofs Go.RowKit Go.Lib
end Go.Rs

