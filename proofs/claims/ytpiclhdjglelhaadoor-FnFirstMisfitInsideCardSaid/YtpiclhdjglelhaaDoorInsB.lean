import Derived.Test.YtpiclhdjglelhaaDoorInsA
import Derived.Lib.AppendZerosOnto
set_option linter.all false
