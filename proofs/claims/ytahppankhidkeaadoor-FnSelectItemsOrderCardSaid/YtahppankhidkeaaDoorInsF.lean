import Derived.Test.YtahppankhidkeaaDoorInsE
set_option linter.all false
