/- A checked evaluator of the model's code, part G. -/
import Derived.Test.YtmkgadogaefkaaaDoorFE
import Derived.Lib.Bytealg
import Derived.Lib.Strings
import Derived.Lib.Walk
import Derived.Shelf.Strings.Search1
set_option linter.all false
section
/-! Contracts of the library's functions on two texts, out of a call's law. -/
namespace Go.Rs
variable {P : Program}
end Go.Rs
end
