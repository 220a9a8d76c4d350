import Derived.Test.YtjdjkggdgddhdaaDoorInsB
set_option linter.all false
