import Derived.Test.YtjdjkggdgddhdaaGreatDoorInsB
set_option linter.all false
