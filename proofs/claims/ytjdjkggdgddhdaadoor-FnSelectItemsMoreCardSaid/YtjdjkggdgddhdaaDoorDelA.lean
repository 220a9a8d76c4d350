import Derived.Test.YtjdjkggdgddhdaaDoorInsF
set_option linter.all false
