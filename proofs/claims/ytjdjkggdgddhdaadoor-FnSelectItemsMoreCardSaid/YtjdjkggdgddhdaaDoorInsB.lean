import Derived.Test.YtjdjkggdgddhdaaDoorInsA
import Derived.Lib.AppendZerosOnto
set_option linter.all false
