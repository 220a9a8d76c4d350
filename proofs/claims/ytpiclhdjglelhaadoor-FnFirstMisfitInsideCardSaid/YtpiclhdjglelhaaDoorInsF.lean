import Derived.Test.YtpiclhdjglelhaaDoorInsE
set_option linter.all false
