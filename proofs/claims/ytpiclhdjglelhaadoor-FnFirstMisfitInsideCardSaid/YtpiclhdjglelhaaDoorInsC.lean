import Derived.Test.YtpiclhdjglelhaaDoorInsB
set_option linter.all false
