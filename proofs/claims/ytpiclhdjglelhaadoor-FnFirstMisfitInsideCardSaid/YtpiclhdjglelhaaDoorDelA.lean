import Derived.Test.YtpiclhdjglelhaaDoorInsF
set_option linter.all false
