import Derived.Test.YtmgheiagnleeiaaDoorBase
import Derived.WalkKit
import Derived.Lib.Walk
import Derived.Lib.SliceRun
import Derived.Lib.JoinLaws
import Derived.Lib.AppendZeros
import Derived.Lib.Overlaps
import Derived.Laws.Externs
import Derived.Laws.IdiomCopy
import Derived.Shelf.RegionOpenPlain
set_option linter.all false
set_option linter.unusedSimpArgs false
set_option linter.unusedVariables false
namespace Go.Rs
open Go.Proofs Go.RowKit Go.Lib
def insX (xs ys X : List Value) (i n : Nat) : Prop := ∀ k j, k < n + 1 → j < 7 → X[k * 7 + j]? = if k < i then xs[k * 7 + j]? else if k = i then ys[j]? else xs[(k - 1) * 7 + j]?
theorem insX.get {xs ys X : List Value} {i n : Nat} (h : insX xs ys X i n) : ∀ k j, k < n + 1 → j < 7 → X.getD (k * 7 + j) undef = if k < i then xs.getD (k * 7 + j) undef else if k = i then ys.getD j undef else xs.getD ((k - 1) * 7 + j) undef := by
  intro k j hk hj
  simp only [List.getD_eq_getElem?_getD]
  rw [h k j hk hj]
  split
  · rfl
  · split <;> rfl
end Go.Rs

