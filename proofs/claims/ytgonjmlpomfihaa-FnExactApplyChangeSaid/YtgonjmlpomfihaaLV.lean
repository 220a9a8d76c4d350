import Derived.Test.YtgonjmlpomfihaaMH
set_option linter.all false
set_option linter.unusedSimpArgs false
set_option linter.unusedVariables false
namespace Go.Rs
open Go.Proofs
set_option maxRecDepth 100000
macro "law_no " h:ident : tactic => `(tactic| first
  | omega
  | exact absurd rfl (eqD_no.1 $h)
  | exact absurd rfl $h
  | (rcases $h:ident with h1 | h1 <;> first
      | omega
      | exact absurd rfl (eqD_no.1 h1)
      | exact absurd rfl h1
      | (rcases h1 with h2 | h2 <;> first | omega | exact absurd rfl (eqD_no.1 h2) | exact absurd rfl h2)))
end Go.Rs

