import Derived.Test.YtahppankhidkeaaDoorInsA
import Derived.Lib.AppendZerosOnto
set_option linter.all false
