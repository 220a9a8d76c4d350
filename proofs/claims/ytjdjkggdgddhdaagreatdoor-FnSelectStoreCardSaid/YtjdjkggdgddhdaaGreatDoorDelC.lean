import Derived.Test.YtjdjkggdgddhdaaGreatDoorDelB
set_option linter.all false
