import Derived.Test.YtjdjkggdgddhdaaDoorInsE
set_option linter.all false
