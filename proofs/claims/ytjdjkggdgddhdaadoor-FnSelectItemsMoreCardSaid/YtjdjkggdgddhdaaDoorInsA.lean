import Derived.Test.YtjdjkggdgddhdaaDoorIns
set_option linter.all false
