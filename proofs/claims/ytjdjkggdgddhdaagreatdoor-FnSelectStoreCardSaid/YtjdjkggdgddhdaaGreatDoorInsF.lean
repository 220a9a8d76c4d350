import Derived.Test.YtjdjkggdgddhdaaGreatDoorInsE
set_option linter.all false
