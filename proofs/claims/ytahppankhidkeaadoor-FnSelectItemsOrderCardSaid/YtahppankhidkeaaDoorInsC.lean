import Derived.Test.YtahppankhidkeaaDoorInsB
set_option linter.all false
