import Derived.Test.YtmkgadogaefkaaaMF
set_option linter.all false
section
/-! Exact laws: what a call of sz tells; bounds of texts in trees. -/
namespace Go.Rs
theorem chg_ext {a b : Chg} (h1 : a.name = b.name) (h2 : a.gone = b.gone) (h3 : a.node = b.node) : a = b := by
  cases a; cases b; simp at *; exact ⟨h1, h2, h3⟩
abbrev szOk (m r : Int) (P : Prop) : Prop := r = -1 ∨ (0 ≤ r ∧ r ≤ m ∧ P)
def smNs (l : List Nd) : Prop := l.length ≤ 2097152 ∧ ∀ x ∈ l, smN x
def smIs (l : List It) : Prop := l.length ≤ 2097152 ∧ ∀ x ∈ l, smN x.node
def smCs (l : List Chg) : Prop := l.length ≤ 2097152 ∧ ∀ x ∈ l, smN x.node
theorem smNs_of {l : List Nd} (h1 : l.length ≤ 2097152) (h : ∀ j, j < l.length → smN (l.getD j default)) : smNs l := by
  refine ⟨h1, fun x hx => ?_⟩
  obtain ⟨j, hj, rfl⟩ := List.getElem_of_mem hx
  have := h j hj
  rwa [getD_get hj] at this
theorem smIs_of {l : List It} (h1 : l.length ≤ 2097152) (h : ∀ j, j < l.length → smN (l.getD j default).node) : smIs l := by
  refine ⟨h1, fun x hx => ?_⟩
  obtain ⟨j, hj, rfl⟩ := List.getElem_of_mem hx
  have := h j hj
  rwa [getD_get hj] at this
theorem smCs_of {l : List Chg} (h1 : l.length ≤ 2097152) (h : ∀ j, j < l.length → smN (l.getD j default).node) : smCs l := by
  refine ⟨h1, fun x hx => ?_⟩
  obtain ⟨j, hj, rfl⟩ := List.getElem_of_mem hx
  have := h j hj
  rwa [getD_get hj] at this
theorem smCs.kid {l : List Chg} (h : smCs l) {j : Nat} (hj : j < l.length) : smN (l.getD j default).node := by
  rw [getD_get hj]; exact h.2 _ (List.getElem_mem hj)
theorem smIs.kid {l : List It} (h : smIs l) {j : Nat} (hj : j < l.length) : smN (l.getD j default).node := by
  rw [getD_get hj]; exact h.2 _ (List.getElem_mem hj)
theorem smNs.kid {l : List Nd} (h : smNs l) {j : Nat} (hj : j < l.length) : smN (l.getD j default) := by
  rw [getD_get hj]; exact h.2 _ (List.getElem_mem hj)
theorem smN.kidsS {n : Nd} (h : smN n) : smNs n.kids := ⟨h.kids, fun _ hx => h.mem hx⟩
inductive bdN : Nd → Prop
  | mk {n : Nd} (h1 : ∀ x ∈ n.names, x.length ≤ 140737488355328) (h2 : ∀ x ∈ n.kids, bdN x) : bdN n
theorem bdN.names {n : Nd} (h : bdN n) : ∀ x ∈ n.names, x.length ≤ 140737488355328 := by cases h; assumption
theorem bdN.kids {n : Nd} (h : bdN n) : ∀ x ∈ n.kids, bdN x := by cases h; assumption
theorem bdN_getD {l : List Nd} (h : ∀ x ∈ l, bdN x) {j : Nat} (hj : j < l.length) : bdN (l.getD j default) := by
  rw [getD_get hj]; exact h _ (List.getElem_mem hj)
theorem bdT_getD {l : List Bs} (h : ∀ x ∈ l, x.length ≤ 140737488355328) (j : Nat) : (l.getD j (elDef .str)).length ≤ 140737488355328 := by
  rw [List.getD_eq_getElem?_getD]
  cases e : l[j]? with
  | none => simp [elDef]
  | some x => exact h x (List.mem_of_getElem? e)
theorem smN_of {n : Nd} (h1 : n.text.length ≤ 2097152) (h2 : n.names.length ≤ 2097152) (h3 : smNs n.kids) : smN n := .mk h1 h2 h3.1 h3.2
end Go.Rs
end
section
/-! News: the map of the last places. -/
namespace Go.Rs
def nmC (l : List Chg) (i : Nat) : Bs := (l.getD i default).name
def mh (l : List Chg) : Nat → List (Bs × Int)
  | 0 => []
  | k + 1 => (nmC l k, (k : Int)) :: mh l k
theorem mh_len (l : List Chg) (k : Nat) : (mh l k).length = k := by
  induction k with
  | zero => rfl
  | succ k ih => simp [mh, ih]
theorem mh_some (l : List Chg) (i : Nat) : ∀ n, i < n → ∃ j : Nat, mget (mh l n) (nmC l i) = some (j : Int) ∧ i ≤ j ∧ j < n ∧ nmC l j = nmC l i ∧ ∀ t, j < t → t < n → nmC l t ≠ nmC l i
  | 0, h => by omega
  | n + 1, h => by
    by_cases e : nmC l n = nmC l i
    · exact ⟨n, by simp [mh, mget, e], by omega, by omega, e, fun t h1 h2 => by omega⟩
    · have hi : i < n := by
        rcases Nat.lt_or_ge i n with h1 | h1
        · exact h1
        · have : i = n := by omega
          subst this; exact absurd rfl e
      obtain ⟨j, h1, h2, h3, h4, h5⟩ := mh_some l i n hi
      refine ⟨j, by simp [mh, mget, e, h1], h2, by omega, h4, fun t ht1 ht2 => ?_⟩
      rcases Nat.lt_or_ge t n with h6 | h6
      · exact h5 t ht1 h6
      · have : t = n := by omega
        subst this; exact e
theorem mh_last {l : List Chg} {i : Nat} (hi : i < l.length) : ((mget (mh l l.length) (l.getD i default).name).getD 0 = (i : Int)) ↔ lastM l i = true := by
  obtain ⟨j, h1, h2, h3, h4, h5⟩ := mh_some l i l.length hi
  have e : (mget (mh l l.length) (l.getD i default).name).getD 0 = (j : Int) := by
    have : mget (mh l l.length) (l.getD i default).name = some (j : Int) := h1
    rw [this]; rfl
  rw [e, lastM_iff]
  constructor
  · intro h t ht1 ht2
    have : j = i := by omega
    subst this
    exact h5 t ht1 ht2
  · intro h
    rcases Nat.lt_or_ge i j with h6 | h6
    · exact absurd h4 (h j h6 h3)
    · omega
end Go.Rs
namespace Go.Rs
end Go.Rs
end
section
/-! News lead to the newest store. -/
namespace Go.Rs
end Go.Rs
end
section
/-! Sorting of texts by insertion. -/
namespace Go.Rs
end Go.Rs
end
