import Derived.Test.YtjdjkggdgddhdaaGreatDoorIns
set_option linter.all false
