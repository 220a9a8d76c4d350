import Derived.Test.YtmkgadogaefkaaaDoorCV
import Derived.Test.YtmkgadogaefkaaaDoorCZ
import Derived.Test.YtmkgadogaefkaaaDoorInN
import Derived.Test.YtmkgadogaefkaaaDoorInS
import Derived.Test.YtmkgadogaefkaaaDoorIns
import Derived.Test.YtmkgadogaefkaaaDoorMD
set_option linter.all false
set_option linter.unusedSimpArgs false
set_option linter.unusedVariables false
namespace Go.Rs
open Go.Proofs
set_option maxRecDepth 100000
noncomputable def c43 (kd : Int) (m : Int) (t : Bs) (ns : List Bs) (ks : List Nd) (b : Bs) (x : Nd) (K : AV → List AV → Prop) : Prop :=
    Obl ((sortedI (nmI ns) ∧ ns.length = ks.length) ∧ ns.length ≤ 100000) (K (.tup []) [.ref [.int .i64 kd, .int .i64 m, .str t, .own .str ((putL (zipI ns ks) ⟨b, 0, x⟩).map (·.name)), .own .node ((putL (zipI ns ks) ⟨b, 0, x⟩).map (·.node))]])
end Go.Rs

