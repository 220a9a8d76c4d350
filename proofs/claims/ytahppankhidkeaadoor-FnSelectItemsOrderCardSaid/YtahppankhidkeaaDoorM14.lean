import Derived.Test.YtahppankhidkeaaDoorM13
set_option linter.all false
section
/-! Plain models: documents selected. -/
namespace Go.Rs
def filtersM (l : List Flt) : Bool := decide (l.length ≤ 4) && l.all filterM
theorem allF_iff (l : List Flt) (p : Flt → Bool) : l.all p = true ↔ ∀ j, j < l.length → p (l.getD j default) = true := by
  rw [List.all_eq_true]
  exact ⟨fun h j hj => h _ (getD_mem hj), fun h x hx => by obtain ⟨j, hj, rfl⟩ := List.mem_iff_getElem.1 hx; rw [← getD_get hj default]; exact h j hj⟩
theorem allF_no {s : List Flt} {p : Flt → Bool} {j : Nat} (hj : j < s.length) (h : p (s.getD j default) = false) : s.all p = false := by
  rw [Bool.eq_false_iff]; intro e; rw [(allF_iff s p).1 e j hj] at h; cases h
def selP (l : List Flt) (x : It) : Bool := l.all fun f => matchM x.node f
def selL (s : Sto) (l : List Flt) : List It := s.items.filter (selP l)
def selM (s : Sto) (l : List Flt) : Sto := if storeM s && filtersM l then ⟨selL s l, s.clock⟩ else ⟨[], 0⟩
theorem sel_take {s : Sto} {l : List Flt} {i : Nat} (h : i < s.items.length) : (s.items.take (i + 1)).filter (selP l) = (s.items.take i).filter (selP l) ++ (if selP l (s.items.getD i default) then [s.items.getD i default] else []) := filter_take _ h default
theorem sel_len (s : Sto) (l : List Flt) (i : Nat) : ((s.items.take i).filter (selP l)).length ≤ i := Nat.le_trans (List.length_filter_le _ _) (by simp; omega)
theorem match_matches {n : Nd} {f : Flt} (h1 : validM n = true) (h2 : filterM f = true) : matchM n f = matchesM n f := by simp [matchM, h1, h2]
theorem storeM_node {s : Sto} (h : storeM s = true) {i : Nat} (hi : i < s.items.length) : validM (s.items.getD i default).node = true := by
  have := (storeM_iff.1 h).2.2.1 _ (getD_mem (d := default) hi)
  exact this.2.1
theorem sel_store {s : Sto} {l : List Flt} (h : storeM s = true) : storeM ⟨selL s l, s.clock⟩ = true := by
  obtain ⟨h1, h2, h3, h4⟩ := storeM_iff.1 h
  exact storeM_iff.2 ⟨Nat.le_trans (List.length_filter_le _ _) h1, h2, fun x hx => h3 x (List.mem_filter.1 hx).1, List.Pairwise.filter _ h4⟩
theorem sel_again {s : Sto} {l : List Flt} (h : storeM s = true) : selL ⟨selL s l, s.clock⟩ l = selL s l := by
  unfold selL; simp only; rw [List.filter_filter]; congr 1; funext x; simp
theorem selM_again {s : Sto} {l : List Flt} (h : (storeM s && filtersM l) = true) : selM (selM s l) l = selM s l := by
  have h1 : storeM s = true := by simp only [Bool.and_eq_true] at h; exact h.1
  have h2 : filtersM l = true := by simp only [Bool.and_eq_true] at h; exact h.2
  have e : selM s l = ⟨selL s l, s.clock⟩ := by unfold selM; rw [if_pos h]
  rw [e]
  unfold selM
  rw [if_pos (by rw [sel_store h1, h2]; rfl), sel_again h1]
def namesI (l : List It) : List Bs := l.map (·.name)
theorem namesI_take {l : List It} {i : Nat} (h : i < l.length) : namesI (l.take (i + 1)) = namesI (l.take i) ++ [(l.getD i default).name] := by
  unfold namesI; rw [← take_snoc default h, List.map_append]; rfl
theorem selP_rev (l : List Flt) : selP l.reverse = selP l := by funext x; unfold selP; simp
theorem filtersM_rev (l : List Flt) : filtersM l.reverse = filtersM l := by unfold filtersM; simp
theorem selM_rev (s : Sto) (l : List Flt) : selM s l.reverse = selM s l := by unfold selM selL; rw [selP_rev, filtersM_rev]
theorem rev_take {l : List Flt} {i : Nat} (h : i < l.length) : (l.drop i).reverse = (l.drop (i + 1)).reverse ++ [l.getD i default] := by
  rw [List.drop_eq_getElem_cons h, List.reverse_cons, getD_get h]
/-- The places of the documents selected. -/
theorem namesI_get (l : List It) (j : Nat) : (namesI l).getD j [] = (l.getD j default).name := by
  unfold namesI
  rw [List.getD_eq_getElem?_getD, List.getD_eq_getElem?_getD, List.getElem?_map]
  cases l[j]? <;> rfl
theorem filter_at {α : Type} (p : α → Bool) (d : α) {l : List α} {i : Nat} (h : i < l.length) (hp : p (l.getD i d) = true) : ((l.take i).filter p).length < (l.filter p).length ∧ (l.filter p).getD ((l.take i).filter p).length d = l.getD i d := by
  have e : l.filter p = (l.take i).filter p ++ l.getD i d :: (l.drop (i + 1)).filter p := by
    conv => lhs; rw [← List.take_append_drop i l, List.filter_append, List.drop_eq_getElem_cons h, List.filter_cons]
    rw [getD_get h] at hp ⊢
    rw [if_pos hp]
  rw [e]
  refine ⟨by simp, ?_⟩
  rw [List.getD_eq_getElem?_getD]; simp
end Go.Rs
end
