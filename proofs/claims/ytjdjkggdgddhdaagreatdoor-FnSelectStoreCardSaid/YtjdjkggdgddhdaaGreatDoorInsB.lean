import Derived.Test.YtjdjkggdgddhdaaGreatDoorInsA
import Derived.Lib.AppendZerosOnto
set_option linter.all false
