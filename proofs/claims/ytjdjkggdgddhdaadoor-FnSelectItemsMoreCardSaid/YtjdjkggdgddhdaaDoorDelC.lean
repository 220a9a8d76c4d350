import Derived.Test.YtjdjkggdgddhdaaDoorDelB
set_option linter.all false
