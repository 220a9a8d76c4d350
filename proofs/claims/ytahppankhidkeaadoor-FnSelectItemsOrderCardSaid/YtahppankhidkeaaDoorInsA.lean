import Derived.Test.YtahppankhidkeaaDoorIns
set_option linter.all false
