import Derived.Test.YtahppankhidkeaaDoorInsF
set_option linter.all false
