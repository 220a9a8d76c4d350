import Derived.Test.YtmgheiagnleeiaaDoorMB
import Derived.Test.YtmgheiagnleeiaaDoorFE
import Derived.Below
import Derived.DataReads
set_option linter.all false
section
/-! From a contract to a law's row: a law of bytes. -/
namespace Go.Rs
open Go.RowKit
def isRow (w : World) (a : Option Addr) (len cap : Nat) (zs : List Int) : Prop :=
  (a = none ∧ len = 0 ∧ cap = 0 ∧ zs = []) ∨
  ∃ x, a = some x ∧ len ≤ cap ∧ cap ≤ MX ∧ zs.length = cap ∧ (∀ i, i < zs.length → w.cell? (x.add i) = some (.int .u8 (zs.getD i 0))) ∧ ∀ n ∈ zs, (Lit.int .u8 n).wf = true
end Go.Rs
end
