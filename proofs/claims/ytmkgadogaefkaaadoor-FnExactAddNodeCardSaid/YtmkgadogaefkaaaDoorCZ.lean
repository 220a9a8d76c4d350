import Derived.Test.YtmkgadogaefkaaaDoorCV
import Derived.Test.YtmkgadogaefkaaaDoorCP
import Derived.Test.YtmkgadogaefkaaaDoorCQ
import Derived.Test.YtmkgadogaefkaaaDoorMD
set_option linter.all false
set_option linter.unusedSimpArgs false
set_option linter.unusedVariables false
namespace Go.Rs
open Go.Proofs
set_option maxRecDepth 100000
theorem leafV2 {K : AV → List AV → Prop} {a b : AV} {r s : List AV} (hK : K a r) (h : a = b ∧ r = s) : K b s := by obtain ⟨h1, h2⟩ := h; rw [← h1, ← h2]; exact hK
end Go.Rs

