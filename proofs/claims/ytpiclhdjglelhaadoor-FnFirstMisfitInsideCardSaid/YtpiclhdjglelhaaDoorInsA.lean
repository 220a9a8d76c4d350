import Derived.Test.YtpiclhdjglelhaaDoorIns
set_option linter.all false
