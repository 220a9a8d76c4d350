import Derived.Test.YtahppankhidkeaaDoorM3
set_option linter.all false
section
/-! Plain models: small nodes, edits of stores. -/
namespace Go.Rs
/-- Nodes whose parts are not too long. -/
inductive smN : Nd → Prop
  | mk {n : Nd} (h1 : n.text.length ≤ 2097152) (h2 : n.names.length ≤ 2097152) (h3 : n.kids.length ≤ 2097152) (h : ∀ x ∈ n.kids, smN x) : smN n
theorem smN.text {n : Nd} (h : smN n) : n.text.length ≤ 2097152 := by cases h; assumption
theorem smN.names {n : Nd} (h : smN n) : n.names.length ≤ 2097152 := by cases h; assumption
theorem smN.kids {n : Nd} (h : smN n) : n.kids.length ≤ 2097152 := by cases h; assumption
theorem smN.mem {n : Nd} (h : smN n) {x : Nd} (hx : x ∈ n.kids) : smN x := by cases h with | mk _ _ _ h => exact h x hx
theorem smN.kid {n : Nd} (h : smN n) {j : Nat} (hj : j < n.kids.length) : smN (n.kids.getD j default) := by
  rw [getD_get hj]; exact h.mem (List.getElem_mem hj)
theorem shape_smN : ∀ {d : Nat} {n : Nd}, d ≤ 5 → shapeM d n = true → smN n
  | 0, n, _, h => by cases h
  | d + 1, n, hd, h => by
    have ho : okN n := ⟨d + 1, hd, h⟩
    exact ⟨by have := okN_text ho; omega, by have := okN_names ho; omega, by have := okN_kids ho; omega, fun x hx => shape_smN (by omega) (shape_kid h hx)⟩
theorem okN.sm {n : Nd} (h : okN n) : smN n := by obtain ⟨d, hd, h⟩ := h; exact shape_smN hd h
theorem validM_sm {n : Nd} (h : validM n = true) : smN n := (validM_ok h).sm
theorem smN_default : smN default := .mk (by decide) (by decide) (by decide) (by intro x hx; cases hx)
def smS (s : Sto) : Prop := s.items.length ≤ 2097152 ∧ ∀ x ∈ s.items, smN x.node
theorem smS.item {s : Sto} (h : smS s) {j : Nat} (hj : j < s.items.length) : smN (s.items.getD j default).node := by
  rw [getD_get hj]; exact h.2 _ (List.getElem_mem hj)
theorem storeM_item {s : Sto} (h : storeM s = true) {j : Nat} (hj : j < s.items.length) : itemOk s j = true := by
  simp only [storeM, Bool.and_eq_true] at h
  exact (itemsM_iff s).1 h.1.1.1 j hj
theorem storeM_sm {s : Sto} (h : storeM s = true) : smS s := by
  refine ⟨?_, fun x hx => ?_⟩
  · simp only [storeM, Bool.and_eq_true, decide_eq_true_eq] at h; omega
  · obtain ⟨j, hj, rfl⟩ := List.getElem_of_mem hx
    have := storeM_item h hj
    rw [← getD_get hj default]
    simp only [itemOk, Bool.and_eq_true] at this
    exact validM_sm this.1.1.1.2
def findI (l : List It) (b : Bs) : Int := if l.findIdx (fun x => decide (x.name = b)) < l.length then (l.findIdx (fun x => decide (x.name = b)) : Int) else -1
theorem findI_at {l : List It} {b : Bs} {j : Nat} (hj : j < l.length) (h : (l.getD j default).name = b) (hb : ∀ i, i < j → (l.getD i default).name ≠ b) : findI l b = j := by
  have : l.findIdx (fun x => decide (x.name = b)) = j := by
    rw [List.findIdx_eq hj]
    refine ⟨by rw [← getD_get hj default]; simpa using h, fun i hi => ?_⟩
    have := hb i hi
    rw [getD_get (by omega)] at this
    simpa using this
  simp [findI, this, hj]
theorem findI_none {l : List It} {b : Bs} (hb : ∀ i, i < l.length → (l.getD i default).name ≠ b) : findI l b = -1 := by
  have : l.findIdx (fun x => decide (x.name = b)) = l.length := by
    rw [List.findIdx_eq_length]
    intro x hx
    obtain ⟨j, hj, rfl⟩ := List.getElem_of_mem hx
    have := hb j hj
    rw [getD_get hj] at this
    simpa using this
  simp [findI, this]
def dropL (l : List It) (b : Bs) : List It := l.filter fun x => !decide (x.name = b)
def putL (l : List It) (it : It) : List It :=
  match l with
  | [] => [it]
  | x :: r => if ltS x.name it.name then x :: putL r it else it :: dropL (x :: r) it.name
theorem filter_take {α : Type} (p : α → Bool) {l : List α} {k : Nat} (h : k < l.length) (d : α) : (l.take (k + 1)).filter p = (l.take k).filter p ++ (if p (l.getD k d) then [l.getD k d] else []) := by
  rw [List.take_succ_eq_append_getElem h, List.filter_append, getD_get h]
  simp [List.filter_cons]
theorem dropL_take {l : List It} {b : Bs} {i : Nat} (h : i < l.length) : dropL (l.take (i + 1)) b = dropL (l.take i) b ++ (if (l.getD i default).name = b then [] else [l.getD i default]) := by
  unfold dropL; rw [filter_take _ h default]
  by_cases e : (l.getD i default).name = b <;> simp [e]
theorem dropL_len (l : List It) (b : Bs) : (dropL l b).length ≤ l.length := List.length_filter_le _ _
end Go.Rs
end
