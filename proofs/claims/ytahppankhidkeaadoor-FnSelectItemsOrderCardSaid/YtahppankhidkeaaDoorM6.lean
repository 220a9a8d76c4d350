import Derived.Test.YtahppankhidkeaaDoorM5
set_option linter.all false
section
/-! Plain models: sorted items, places. -/
namespace Go.Rs
def sortedI (l : List It) : Prop := ∀ i j, i < j → j < l.length → ltS (l.getD i default).name (l.getD j default).name = true
def lbI (l : List It) (b : Bs) : Nat := l.findIdx fun x => !ltS x.name b
theorem lbI_le (l : List It) (b : Bs) : lbI l b ≤ l.length := List.findIdx_le_length
theorem lbI_at {l : List It} {b : Bs} (h : lbI l b < l.length) : ltS (l.getD (lbI l b) default).name b = false := by
  have h2 := List.findIdx_getElem (w := h)
  rw [getD_get h]
  simp only [Bool.not_eq_true'] at h2
  exact h2
theorem lbI_lt {l : List It} {b : Bs} {k : Nat} (h : k < lbI l b) : ltS (l.getD k default).name b = true := by
  have := List.not_of_lt_findIdx h
  rw [getD_get (by have := lbI_le l b; omega)]; simpa using this
theorem lbI_gt {l : List It} {b : Bs} {h : Nat} (hs : sortedI l) (hl : h < l.length) (hlt : ltS (l.getD h default).name b = true) : h < lbI l b := by
  rcases Nat.lt_or_ge h (lbI l b) with h1 | h1
  · exact h1
  · have h2 := lbI_at (l := l) (b := b) (by omega)
    rcases Nat.lt_or_ge (lbI l b) h with h3 | h3
    · rw [ltS_trans (hs _ _ h3 hl) hlt] at h2; cases h2
    · have : lbI l b = h := by omega
      rw [this, hlt] at h2; cases h2
theorem lbI_ge {l : List It} {b : Bs} {h : Nat} (hlt : ltS (l.getD h default).name b = false) : lbI l b ≤ h := by
  rcases Nat.lt_or_ge h (lbI l b) with h1 | h1
  · rw [lbI_lt h1] at hlt; cases hlt
  · exact h1
def foundI (l : List It) (b : Bs) : Bool := decide (lbI l b < l.length) && decide ((l.getD (lbI l b) default).name = b)
theorem storeM_sorted {s : Sto} (h : storeM s = true) : sortedI s.items := by
  intro i j hij hj
  induction j with
  | zero => omega
  | succ j ih =>
    have h1 := storeM_item h hj
    have h2 : ltS (s.items.getD j default).name (s.items.getD (j + 1) default).name = true := by
      simp only [itemOk, Bool.and_eq_true] at h1
      simpa using h1.2
    by_cases e : i = j
    · rw [e]; exact h2
    · exact ltS_trans (ih (by omega) (by omega)) h2
theorem cmp_lt {a b : Bs} : cmpI a b < 0 ↔ ltS a b = true := by
  unfold cmpI
  split
  · simp_all
  · split <;> simp_all
theorem cmp_eq {a b : Bs} : cmpI a b = 0 ↔ a = b := by
  unfold cmpI
  constructor
  · intro h
    split at h
    · cases h
    · split at h
      · cases h
      · exact ltS_tri (by simp_all) (by simp_all)
  · intro h; subst h; simp [ltS_irrefl]
end Go.Rs
end
