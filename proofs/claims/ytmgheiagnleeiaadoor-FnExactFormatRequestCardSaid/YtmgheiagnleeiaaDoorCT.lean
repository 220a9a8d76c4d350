import Derived.Test.YtmgheiagnleeiaaDoorCP
import Derived.Test.YtmgheiagnleeiaaDoorMC
set_option linter.all false
set_option linter.unusedSimpArgs false
set_option linter.unusedVariables false
namespace Go.Rs
open Go.Proofs
set_option maxRecDepth 100000
structure Gx (P Q : Prop) : Prop where
  o : P
  k : Q
end Go.Rs

