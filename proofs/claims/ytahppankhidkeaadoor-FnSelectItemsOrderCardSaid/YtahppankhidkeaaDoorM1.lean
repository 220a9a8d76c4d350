import Derived.Test.YtahppankhidkeaaDoorFE
set_option linter.all false
section
/-! Plain models: texts, names, the parts of nodes. -/
namespace Go.Rs
def chrOk (c : UInt8) : Bool := decide (32 ≤ c.toNat) && decide (c.toNat ≤ 126)
def txtM (s : Bs) : Bool := decide (s.length ≤ 12) && s.all chrOk
theorem all_iff (s : Bs) (p : UInt8 → Bool) : s.all p = true ↔ ∀ j, (h : j < s.length) → p (s.getD j 0) = true := by
  rw [List.all_eq_true]
  constructor
  · intro h j hj; rw [List.getD_eq_getElem?_getD, List.getElem?_eq_getElem hj]; exact h _ (List.getElem_mem hj)
  · intro h x hx
    obtain ⟨j, hj, rfl⟩ := List.getElem_of_mem hx
    have := h j hj
    rwa [List.getD_eq_getElem?_getD, List.getElem?_eq_getElem hj] at this
theorem all_no {s : Bs} {p : UInt8 → Bool} {j : Nat} (hj : j < s.length) (h : p (s.getD j 0) = false) : s.all p = false := by
  rw [Bool.eq_false_iff]; intro h2; rw [(all_iff s p).1 h2 j hj] at h; cases h
def nameOk (l : List Bs) (j : Nat) : Bool := txtM (l.getD j []) && (decide (j = 0) || ltS (l.getD (j-1) []) (l.getD j []))
def namesM (l : List Bs) : Bool := (List.range l.length).all (nameOk l)
theorem namesM_iff (l : List Bs) : namesM l = true ↔ ∀ j, j < l.length → nameOk l j = true := by simp [namesM]
theorem namesM_no {l : List Bs} {j : Nat} (h : j < l.length) (h' : nameOk l j = false) : namesM l = false := by
  rw [Bool.eq_false_iff]; intro h2; rw [(namesM_iff l).1 h2 j h] at h'; cases h'
def areNamesM (l : List Bs) : Bool := decide (l.length ≤ 6) && namesM l
def partsM (n : Nd) : Bool :=
  if (n.kind ≠ 1 ∧ n.num ≠ 0) ∨ (n.kind ≠ 2 ∧ n.text ≠ []) ∨ (n.kind ≠ 4 ∧ 0 < n.names.length) then false
  else if n.kind = 0 then decide (n.kids.length = 0)
  else if n.kind = 1 then decide (-999999 ≤ n.num ∧ n.num ≤ 999999 ∧ n.kids.length = 0)
  else if n.kind = 2 then txtM n.text && decide (n.kids.length = 0)
  else if n.kind = 3 then decide (n.kids.length ≤ 6)
  else if n.kind = 4 then areNamesM n.names && decide (n.kids.length = n.names.length)
  else false
def shapeM : Nat → Nd → Bool
  | 0, _ => false
  | d + 1, n => partsM n && n.kids.all (shapeM d)
theorem allN_iff (l : List Nd) (p : Nd → Bool) : l.all p = true ↔ ∀ j, (h : j < l.length) → p (l.getD j default) = true := by
  rw [List.all_eq_true]
  constructor
  · intro h j hj; rw [List.getD_eq_getElem?_getD, List.getElem?_eq_getElem hj]; exact h _ (List.getElem_mem hj)
  · intro h x hx
    obtain ⟨j, hj, rfl⟩ := List.getElem_of_mem hx
    have := h j hj
    rwa [List.getD_eq_getElem?_getD, List.getElem?_eq_getElem hj] at this
theorem allN_no {s : List Nd} {p : Nd → Bool} {j : Nat} (hj : j < s.length) (h : p (s.getD j default) = false) : s.all p = false := by
  rw [Bool.eq_false_iff]; intro h2; rw [(allN_iff s p).1 h2 j hj] at h; cases h
theorem shapeM_pos (n : Nd) {d : Int} (h : 0 < d) : shapeM d.toNat n = (partsM n && n.kids.all (shapeM (d.toNat - 1))) := by
  obtain ⟨e, he⟩ : ∃ e, d.toNat = e + 1 := ⟨d.toNat - 1, by omega⟩
  rw [he]; rfl
end Go.Rs
end
