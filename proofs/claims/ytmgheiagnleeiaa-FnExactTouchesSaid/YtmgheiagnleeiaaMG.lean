import Derived.Test.YtmgheiagnleeiaaMF
set_option linter.all false
section
/-! Exact laws: what a call of sz tells; bounds of texts in trees. -/
namespace Go.Rs
abbrev szOk (m r : Int) (P : Prop) : Prop := r = -1 ∨ (0 ≤ r ∧ r ≤ m ∧ P)
def smNs (l : List Nd) : Prop := l.length ≤ 2097152 ∧ ∀ x ∈ l, smN x
def smIs (l : List It) : Prop := l.length ≤ 2097152 ∧ ∀ x ∈ l, smN x.node
def smCs (l : List Chg) : Prop := l.length ≤ 2097152 ∧ ∀ x ∈ l, smN x.node
theorem smNs_of {l : List Nd} (h1 : l.length ≤ 2097152) (h : ∀ j, j < l.length → smN (l.getD j default)) : smNs l := by
  refine ⟨h1, fun x hx => ?_⟩
  obtain ⟨j, hj, rfl⟩ := List.getElem_of_mem hx
  have := h j hj
  rwa [getD_get hj] at this
theorem smCs.kid {l : List Chg} (h : smCs l) {j : Nat} (hj : j < l.length) : smN (l.getD j default).node := by
  rw [getD_get hj]; exact h.2 _ (List.getElem_mem hj)
theorem smIs.kid {l : List It} (h : smIs l) {j : Nat} (hj : j < l.length) : smN (l.getD j default).node := by
  rw [getD_get hj]; exact h.2 _ (List.getElem_mem hj)
theorem smNs.kid {l : List Nd} (h : smNs l) {j : Nat} (hj : j < l.length) : smN (l.getD j default) := by
  rw [getD_get hj]; exact h.2 _ (List.getElem_mem hj)
theorem smN.kidsS {n : Nd} (h : smN n) : smNs n.kids := ⟨h.kids, fun _ hx => h.mem hx⟩
inductive bdN : Nd → Prop
  | mk {n : Nd} (h1 : ∀ x ∈ n.names, x.length ≤ 140737488355328) (h2 : ∀ x ∈ n.kids, bdN x) : bdN n
theorem bdN.names {n : Nd} (h : bdN n) : ∀ x ∈ n.names, x.length ≤ 140737488355328 := by cases h; assumption
theorem bdN.kids {n : Nd} (h : bdN n) : ∀ x ∈ n.kids, bdN x := by cases h; assumption
theorem bdN_getD {l : List Nd} (h : ∀ x ∈ l, bdN x) {j : Nat} (hj : j < l.length) : bdN (l.getD j default) := by
  rw [getD_get hj]; exact h _ (List.getElem_mem hj)
theorem bdT_getD {l : List Bs} (h : ∀ x ∈ l, x.length ≤ 140737488355328) (j : Nat) : (l.getD j (elDef .str)).length ≤ 140737488355328 := by
  rw [List.getD_eq_getElem?_getD]
  cases e : l[j]? with
  | none => simp [elDef]
  | some x => exact h x (List.mem_of_getElem? e)
theorem smN_of {n : Nd} (h1 : n.text.length ≤ 2097152) (h2 : n.names.length ≤ 2097152) (h3 : smNs n.kids) : smN n := .mk h1 h2 h3.1 h3.2
end Go.Rs
end
section
/-! News: the map of the last places. -/
namespace Go.Rs
end Go.Rs
namespace Go.Rs
end Go.Rs
end
section
/-! News lead to the newest store. -/
namespace Go.Rs
end Go.Rs
end
section
/-! Sorting of texts by insertion. -/
namespace Go.Rs
def ordX (x : List Bs) (i j : Nat) : Prop := ∀ p q, p < q → q < i → q ≠ j → ltS (x.getD q []) (x.getD p []) = false
def srt (x : List Bs) (i : Nat) : Prop := ∀ p q, p < q → q < i → ltS (x.getD q []) (x.getD p []) = false
theorem srt_one (x : List Bs) : srt x 1 := fun p q h1 h2 => by omega
theorem ordX_start {x : List Bs} {i : Nat} (h : srt x i) : ordX x (i + 1) i := fun p q h1 h2 h3 => h p q h1 (by omega)
theorem ltS_le_trans {a b c : Bs} (h1 : ltS b a = false) (h2 : ltS c b = false) : ltS c a = false := by
  cases h : ltS c a with
  | false => rfl
  | true =>
    by_cases e : b = a
    · subst e; rw [h] at h2; cases h2
    · have h3 := ltS_total h1 e
      rw [ltS_trans h h3] at h2; cases h2
theorem ordX_end {x : List Bs} {i j : Nat} (h : ordX x (i + 1) j) (hj : j ≤ i) (h0 : j = 0 ∨ ltS (x.getD j []) (x.getD (j - 1) []) = false) : srt x (i + 1) := by
  intro p q h1 h2
  by_cases e : q = j
  · subst e
    rcases h0 with h0 | h0
    · omega
    · by_cases e2 : p = q - 1
      · subst e2; exact h0
      · exact ltS_le_trans (h p (q - 1) (by omega) (by omega) (by omega)) h0
  · exact h p q h1 h2 e
def swapX (x : List Bs) (j : Nat) : List Bs := (x.set j (x.getD (j - 1) [])).set (j - 1) (x.getD j [])
theorem swapX_len (x : List Bs) (j : Nat) : (swapX x j).length = x.length := by simp [swapX]
theorem swapX_get {x : List Bs} {j : Nat} (h0 : 0 < j) (hj : j < x.length) (k : Nat) : (swapX x j).getD k [] = if k = j - 1 then x.getD j [] else if k = j then x.getD (j - 1) [] else x.getD k [] := by
  unfold swapX
  simp only [List.getD_eq_getElem?_getD, List.getElem?_set, List.length_set]
  by_cases e1 : k = j - 1
  · subst e1
    rw [if_pos rfl, if_pos (by omega), if_pos rfl]; rfl
  · rw [if_neg (fun h => e1 h.symm), if_neg e1]
    by_cases e2 : k = j
    · subst e2; rw [if_pos rfl, if_pos hj, if_pos rfl]; rfl
    · rw [if_neg (fun h => e2 h.symm), if_neg e2]
theorem swapX_ord {x : List Bs} {i j : Nat} (h : ordX x (i + 1) j) (h0 : 0 < j) (hj : j ≤ i) (hi : i < x.length) (hlt : ltS (x.getD j []) (x.getD (j - 1) []) = true) : ordX (swapX x j) (i + 1) (j - 1) := by
  intro p q h1 h2 h3
  rw [swapX_get h0 (by omega), swapX_get h0 (by omega), if_neg h3]
  by_cases e : q = j
  · subst e
    rw [if_pos rfl]
    by_cases e2 : p = q - 1
    · rw [if_pos e2]; exact ltS_asymm hlt
    · rw [if_neg e2, if_neg (by omega)]
      exact h p (q - 1) (by omega) (by omega) (by omega)
  · rw [if_neg e]
    by_cases e2 : p = j - 1
    · rw [if_pos e2]
      exact h j q (by omega) h2 e
    · rw [if_neg e2]
      by_cases e3 : p = j
      · rw [if_pos e3]; exact h (j - 1) q (by omega) h2 e
      · rw [if_neg e3]; exact h p q h1 h2 e
theorem swapX_perm {x : List Bs} {j : Nat} (hj : j < x.length) : (swapX x j).Perm x := by
  unfold swapX
  rw [getD_get hj, getD_get (show j - 1 < x.length by omega)]
  exact List.set_set_perm hj (by omega)
end Go.Rs
end
