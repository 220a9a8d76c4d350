import Derived.Test.YtjdjkggdgddhdaaGreatDoorInsF
set_option linter.all false
