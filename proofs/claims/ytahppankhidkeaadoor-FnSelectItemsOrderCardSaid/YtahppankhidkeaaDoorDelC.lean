import Derived.Test.YtahppankhidkeaaDoorDelB
set_option linter.all false
