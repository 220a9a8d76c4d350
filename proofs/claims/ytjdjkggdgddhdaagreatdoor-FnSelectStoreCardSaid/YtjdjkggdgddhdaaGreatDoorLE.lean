import Derived.Test.YtjdjkggdgddhdaaGreatDoorCR
import Derived.Test.YtjdjkggdgddhdaaGreatDoorLB
import Derived.Test.YtjdjkggdgddhdaaGreatDoorMC
set_option linter.all false
namespace Go.Rs
open Go.Proofs
set_option maxRecDepth 100000
set_option linter.unusedVariables false
set_option linter.unusedSimpArgs false
theorem ndDef : (⟨0, 0, [], [], []⟩ : Nd) = default := rfl
end Go.Rs

