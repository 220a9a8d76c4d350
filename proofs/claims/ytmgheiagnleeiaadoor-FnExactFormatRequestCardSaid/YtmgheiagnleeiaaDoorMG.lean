import Derived.Test.YtmgheiagnleeiaaDoorMF
set_option linter.all false
section
/-! Exact laws: what a call of sz tells; bounds of texts in trees. -/
namespace Go.Rs
abbrev szOk (m r : Int) (P : Prop) : Prop := r = -1 ∨ (0 ≤ r ∧ r ≤ m ∧ P)
def smNs (l : List Nd) : Prop := l.length ≤ 2097152 ∧ ∀ x ∈ l, smN x
def smIs (l : List It) : Prop := l.length ≤ 2097152 ∧ ∀ x ∈ l, smN x.node
def smCs (l : List Chg) : Prop := l.length ≤ 2097152 ∧ ∀ x ∈ l, smN x.node
theorem smNs_of {l : List Nd} (h1 : l.length ≤ 2097152) (h : ∀ j, j < l.length → smN (l.getD j default)) : smNs l := by
  refine ⟨h1, fun x hx => ?_⟩
  obtain ⟨j, hj, rfl⟩ := List.getElem_of_mem hx
  have := h j hj
  rwa [getD_get hj] at this
theorem smCs.kid {l : List Chg} (h : smCs l) {j : Nat} (hj : j < l.length) : smN (l.getD j default).node := by
  rw [getD_get hj]; exact h.2 _ (List.getElem_mem hj)
theorem smIs.kid {l : List It} (h : smIs l) {j : Nat} (hj : j < l.length) : smN (l.getD j default).node := by
  rw [getD_get hj]; exact h.2 _ (List.getElem_mem hj)
theorem smNs.kid {l : List Nd} (h : smNs l) {j : Nat} (hj : j < l.length) : smN (l.getD j default) := by
  rw [getD_get hj]; exact h.2 _ (List.getElem_mem hj)
theorem smN.kidsS {n : Nd} (h : smN n) : smNs n.kids := ⟨h.kids, fun _ hx => h.mem hx⟩
inductive bdN : Nd → Prop
  | mk {n : Nd} (h1 : ∀ x ∈ n.names, x.length ≤ 140737488355328) (h2 : ∀ x ∈ n.kids, bdN x) : bdN n
theorem bdN.names {n : Nd} (h : bdN n) : ∀ x ∈ n.names, x.length ≤ 140737488355328 := by cases h; assumption
theorem bdN.kids {n : Nd} (h : bdN n) : ∀ x ∈ n.kids, bdN x := by cases h; assumption
theorem bdN_getD {l : List Nd} (h : ∀ x ∈ l, bdN x) {j : Nat} (hj : j < l.length) : bdN (l.getD j default) := by
  rw [getD_get hj]; exact h _ (List.getElem_mem hj)
theorem bdT_getD {l : List Bs} (h : ∀ x ∈ l, x.length ≤ 140737488355328) (j : Nat) : (l.getD j (elDef .str)).length ≤ 140737488355328 := by
  rw [List.getD_eq_getElem?_getD]
  cases e : l[j]? with
  | none => simp [elDef]
  | some x => exact h x (List.mem_of_getElem? e)
theorem smN_of {n : Nd} (h1 : n.text.length ≤ 2097152) (h2 : n.names.length ≤ 2097152) (h3 : smNs n.kids) : smN n := .mk h1 h2 h3.1 h3.2
end Go.Rs
end
section
/-! News: the map of the last places. -/
namespace Go.Rs
end Go.Rs
namespace Go.Rs
end Go.Rs
end
section
/-! News lead to the newest store. -/
namespace Go.Rs
end Go.Rs
end
section
/-! Sorting of texts by insertion. -/
namespace Go.Rs
end Go.Rs
end
