import Derived.Test.YtdgdekfdfcaheaaDoorMF
set_option linter.all false
section
/-! Exact laws: what a call of sz tells; bounds of texts in trees. -/
namespace Go.Rs
def smNs (l : List Nd) : Prop := l.length ≤ 2097152 ∧ ∀ x ∈ l, smN x
def smIs (l : List It) : Prop := l.length ≤ 2097152 ∧ ∀ x ∈ l, smN x.node
def smCs (l : List Chg) : Prop := l.length ≤ 2097152 ∧ ∀ x ∈ l, smN x.node
theorem smCs.kid {l : List Chg} (h : smCs l) {j : Nat} (hj : j < l.length) : smN (l.getD j default).node := by
  rw [getD_get hj]; exact h.2 _ (List.getElem_mem hj)
theorem smIs.kid {l : List It} (h : smIs l) {j : Nat} (hj : j < l.length) : smN (l.getD j default).node := by
  rw [getD_get hj]; exact h.2 _ (List.getElem_mem hj)
theorem smNs.kid {l : List Nd} (h : smNs l) {j : Nat} (hj : j < l.length) : smN (l.getD j default) := by
  rw [getD_get hj]; exact h.2 _ (List.getElem_mem hj)
inductive bdN : Nd → Prop
  | mk {n : Nd} (h1 : ∀ x ∈ n.names, x.length ≤ 140737488355328) (h2 : ∀ x ∈ n.kids, bdN x) : bdN n
theorem bdN.names {n : Nd} (h : bdN n) : ∀ x ∈ n.names, x.length ≤ 140737488355328 := by cases h; assumption
theorem bdN.kids {n : Nd} (h : bdN n) : ∀ x ∈ n.kids, bdN x := by cases h; assumption
end Go.Rs
end
section
/-! News: the map of the last places. -/
namespace Go.Rs
end Go.Rs
namespace Go.Rs
end Go.Rs
end
section
/-! News lead to the newest store. -/
namespace Go.Rs
end Go.Rs
end
section
/-! Sorting of texts by insertion. -/
namespace Go.Rs
end Go.Rs
end
