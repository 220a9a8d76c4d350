import Derived.Test.YtpiclhdjglelhaaDoorDelB
set_option linter.all false
