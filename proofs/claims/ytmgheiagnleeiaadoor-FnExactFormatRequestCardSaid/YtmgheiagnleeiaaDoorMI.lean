import Derived.Test.YtmgheiagnleeiaaDoorMH
import Derived.Lib.AtoiAllCases
set_option linter.all false
section
/-! The texts of nodes, read: texts and numbers. -/
namespace Go.Rs
-- numbers
end Go.Rs
end
section
/-! The texts of nodes, read: nodes. -/
namespace Go.Rs
-- the other way
-- by places
section
variable {f : Bs → Option (Nd × Bs)} {k : Int} {c : UInt8} {ns n : List Bs} {ks : List Nd} {x : Nd} {s s1 s2 s3 : Bs}
end
end Go.Rs
end
section
/-! The texts of nodes, read as the reference reads them. -/
namespace Go.Rs
-- numbers
def digC (c : UInt8) : Prop := 48 ≤ c.toNat ∧ c.toNat ≤ 57
instance (c : UInt8) : Decidable (digC c) := inferInstanceAs (Decidable (_ ∧ _))
-- nodes
-- both
-- by places
section
variable {f : Bs → Option (Nd × Bs)} {k : Int} {c : UInt8} {ns n : List Bs} {ks : List Nd} {x : Nd} {s s1 s2 s3 : Bs}
end
end Go.Rs
end
section
/-! Three nodes merged. -/
namespace Go.Rs
-- ascending lists of names
end Go.Rs
end
section
/-! Three nodes merged: facts. -/
namespace Go.Rs
end Go.Rs
end
