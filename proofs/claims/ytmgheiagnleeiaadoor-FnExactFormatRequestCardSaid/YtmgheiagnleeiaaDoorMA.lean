import Derived.Test.YtmgheiagnleeiaaDoorFE
import Derived.Test.YtmgheiagnleeiaaDoorFG
set_option linter.all false
section
/-! Plain models: texts, names, the parts of nodes. -/
namespace Go.Rs
def chrOk (c : UInt8) : Bool := decide (32 ≤ c.toNat) && decide (c.toNat ≤ 126)
def txtM (s : Bs) : Bool := decide (s.length ≤ 12) && s.all chrOk
theorem all_iff (s : Bs) (p : UInt8 → Bool) : s.all p = true ↔ ∀ j, (h : j < s.length) → p (s.getD j 0) = true := by
  rw [List.all_eq_true]
  constructor
  · intro h j hj; rw [List.getD_eq_getElem?_getD, List.getElem?_eq_getElem hj]; exact h _ (List.getElem_mem hj)
  · intro h x hx
    obtain ⟨j, hj, rfl⟩ := List.getElem_of_mem hx
    have := h j hj
    rwa [List.getD_eq_getElem?_getD, List.getElem?_eq_getElem hj] at this
theorem all_no {s : Bs} {p : UInt8 → Bool} {j : Nat} (hj : j < s.length) (h : p (s.getD j 0) = false) : s.all p = false := by
  rw [Bool.eq_false_iff]; intro h2; rw [(all_iff s p).1 h2 j hj] at h; cases h
def nameOk (l : List Bs) (j : Nat) : Bool := txtM (l.getD j []) && (decide (j = 0) || ltS (l.getD (j-1) []) (l.getD j []))
def namesM (l : List Bs) : Bool := (List.range l.length).all (nameOk l)
theorem namesM_iff (l : List Bs) : namesM l = true ↔ ∀ j, j < l.length → nameOk l j = true := by simp [namesM]
theorem namesM_no {l : List Bs} {j : Nat} (h : j < l.length) (h' : nameOk l j = false) : namesM l = false := by
  rw [Bool.eq_false_iff]; intro h2; rw [(namesM_iff l).1 h2 j h] at h'; cases h'
def areNamesM (l : List Bs) : Bool := decide (l.length ≤ 6) && namesM l
def partsM (n : Nd) : Bool :=
  if (n.kind ≠ 1 ∧ n.num ≠ 0) ∨ (n.kind ≠ 2 ∧ n.text ≠ []) ∨ (n.kind ≠ 4 ∧ 0 < n.names.length) then false
  else if n.kind = 0 then decide (n.kids.length = 0)
  else if n.kind = 1 then decide (-999999 ≤ n.num ∧ n.num ≤ 999999 ∧ n.kids.length = 0)
  else if n.kind = 2 then txtM n.text && decide (n.kids.length = 0)
  else if n.kind = 3 then decide (n.kids.length ≤ 6)
  else if n.kind = 4 then areNamesM n.names && decide (n.kids.length = n.names.length)
  else false
def shapeM : Nat → Nd → Bool
  | 0, _ => false
  | d + 1, n => partsM n && n.kids.all (shapeM d)
theorem allN_iff (l : List Nd) (p : Nd → Bool) : l.all p = true ↔ ∀ j, (h : j < l.length) → p (l.getD j default) = true := by
  rw [List.all_eq_true]
  constructor
  · intro h j hj; rw [List.getD_eq_getElem?_getD, List.getElem?_eq_getElem hj]; exact h _ (List.getElem_mem hj)
  · intro h x hx
    obtain ⟨j, hj, rfl⟩ := List.getElem_of_mem hx
    have := h j hj
    rwa [List.getD_eq_getElem?_getD, List.getElem?_eq_getElem hj] at this
theorem allN_no {s : List Nd} {p : Nd → Bool} {j : Nat} (hj : j < s.length) (h : p (s.getD j default) = false) : s.all p = false := by
  rw [Bool.eq_false_iff]; intro h2; rw [(allN_iff s p).1 h2 j hj] at h; cases h
theorem shapeM_pos (n : Nd) {d : Int} (h : 0 < d) : shapeM d.toNat n = (partsM n && n.kids.all (shapeM (d.toNat - 1))) := by
  obtain ⟨e, he⟩ : ∃ e, d.toNat = e + 1 := ⟨d.toNat - 1, by omega⟩
  rw [he]; rfl
end Go.Rs
end
section
/-! Plain models: equality, counting, validity of nodes. -/
namespace Go.Rs
noncomputable def eqD {α : Type} (a b : α) : Bool := @decide (a = b) (Classical.propDecidable _)
theorem eqD_iff {α : Type} {a b : α} : eqD a b = true ↔ a = b := by unfold eqD; exact @decide_eq_true_iff _ (Classical.propDecidable _)
theorem eqD_no {α : Type} {a b : α} : eqD a b = false ↔ a ≠ b := by rw [Bool.eq_false_iff, ne_eq, eqD_iff]
theorem getD_get {α : Type} {l : List α} {j : Nat} (h : j < l.length) (d : α) : l.getD j d = l[j] := by simp [h]
theorem listEq {α : Type} {a b : List α} (d : α) (hl : a.length = b.length) (h : ∀ j, j < a.length → a.getD j d = b.getD j d) : a = b := by
  refine List.ext_getElem hl fun j h1 h2 => ?_
  have := h j h1
  rwa [getD_get h1, getD_get h2] at this
theorem take_snoc {α : Type} {l : List α} {i : Nat} (d : α) (h : i < l.length) : l.take i ++ [l.getD i d] = l.take (i + 1) := by
  rw [List.take_succ_eq_append_getElem h, getD_get h]
def fillD {α : Type} (d : α) (l : List α) (k : Nat) : List α := l.take k ++ List.replicate (l.length - k) d
theorem fillD_len {α : Type} (d : α) (l : List α) {k : Nat} (h : k ≤ l.length) : (fillD d l k).length = l.length := by
  simp [fillD]; omega
theorem fillD_all {α : Type} (d : α) (l : List α) {k : Nat} (h : l.length ≤ k) : fillD d l k = l := by
  simp [fillD, List.take_of_length_le h, Nat.sub_eq_zero_of_le h]
theorem fillD_set {α : Type} (d : α) (l : List α) {k : Nat} (h : k < l.length) : (fillD d l k).set k (l.getD k d) = fillD d l (k + 1) := by
  have e : l.length - k = (l.length - (k + 1)) + 1 := by omega
  have h1 : (l.take k).length = k := by simp; omega
  unfold fillD
  rw [List.set_append_right _ _ (by omega), h1, Nat.sub_self, e, List.replicate_succ, List.set_cons_zero, ← take_snoc d h]
  simp
theorem nd_ext {a b : Nd} (h1 : a.kind = b.kind) (h2 : a.num = b.num) (h3 : a.text = b.text) (h4 : a.names = b.names) (h5 : a.kids = b.kids) : a = b := by
  cases a; cases b; simp at *; exact ⟨h1, h2, h3, h4, h5⟩
theorem kid_size {n : Nd} {j : Nat} (h : j < n.kids.length) : SizeOf.sizeOf (n.kids.getD j default) < SizeOf.sizeOf n := by
  have h1 : n.kids[j] ∈ n.kids := List.getElem_mem h
  have h2 := List.sizeOf_lt_of_mem h1
  rw [getD_get h]
  cases n
  simp at h2 ⊢
  omega
theorem kids_size (n : Nd) : SizeOf.sizeOf n.kids < SizeOf.sizeOf n := by cases n; simp; omega
theorem mem_size {l : List Nd} {j : Nat} (h : j < l.length) : SizeOf.sizeOf (l.getD j default) < SizeOf.sizeOf l := by
  rw [getD_get h]; exact List.sizeOf_lt_of_mem (List.getElem_mem h)
-- the number of nodes
def countM : Nd → Nat
  | ⟨_, _, _, _, kids⟩ => 1 + go kids
where go : List Nd → Nat
  | [] => 0
  | x :: r => countM x + go r
def sumN (f : Nd → Nat) (l : List Nd) : Nat := (l.map f).sum
theorem countM_go (l : List Nd) : countM.go l = sumN countM l := by
  induction l with
  | nil => rfl
  | cons a r ih => simp [countM.go, sumN, ih]
theorem countM_eq (n : Nd) : countM n = 1 + sumN countM n.kids := by
  cases n; rw [countM, countM_go]
theorem sumN_take {f : Nd → Nat} {l : List Nd} {k : Nat} (h : k < l.length) : sumN f (l.take (k + 1)) = sumN f (l.take k) + f (l.getD k default) := by
  rw [List.take_succ_eq_append_getElem h, getD_get h, sumN, List.map_append, List.sum_append]
  simp [sumN]
theorem sumN_le {f : Nd → Nat} {c : Nat} : ∀ {l : List Nd}, (∀ x ∈ l, f x ≤ c) → sumN f l ≤ l.length * c
  | [], _ => by simp [sumN]
  | a :: r, h => by
    have h1 := h a (by simp)
    have h2 := sumN_le (l := r) (fun x hx => h x (by simp [hx]))
    simp only [sumN, List.map_cons, List.sum_cons, List.length_cons] at h2 ⊢
    rw [Nat.add_mul]; omega
theorem sumN_take_le {f : Nd → Nat} {l : List Nd} {k : Nat} : sumN f (l.take k) ≤ sumN f l := by
  have : sumN f (l.take k ++ l.drop k) = sumN f (l.take k) + sumN f (l.drop k) := by rw [sumN, List.map_append, List.sum_append]; rfl
  rw [List.take_append_drop] at this; omega
theorem partsM_kids {n : Nd} (h : partsM n = true) : n.kids.length ≤ 6 := by
  unfold partsM areNamesM at h; grind (splits := 20)
theorem partsM_kind {n : Nd} (h : partsM n = true) : 0 ≤ n.kind ∧ n.kind ≤ 4 := by
  unfold partsM at h; grind (splits := 20)
theorem shape_kid {d : Nat} {n : Nd} (h : shapeM (d + 1) n = true) {x : Nd} (hx : x ∈ n.kids) : shapeM d x = true := by
  simp only [shapeM, Bool.and_eq_true, List.all_eq_true] at h
  exact h.2 x hx
theorem shape_parts {d : Nat} {n : Nd} (h : shapeM d n = true) : partsM n = true ∧ ∃ e, d = e + 1 := by
  cases d with
  | zero => cases h
  | succ d => simp only [shapeM, Bool.and_eq_true] at h; exact ⟨h.1, d, rfl⟩
theorem count_le : ∀ {d : Nat} {n : Nd}, shapeM d n = true → countM n ≤ 7 ^ d
  | 0, n, h => by cases h
  | d + 1, n, h => by
    have h1 := sumN_le (f := countM) (c := 7 ^ d) (l := n.kids) (fun x hx => count_le (shape_kid h hx))
    have h2 := partsM_kids (shape_parts h).1
    have h3 : n.kids.length * 7 ^ d ≤ 6 * 7 ^ d := Nat.mul_le_mul_right _ h2
    have h4 : 1 ≤ 7 ^ d := Nat.one_le_pow _ _ (by omega)
    rw [countM_eq, Nat.pow_succ]; omega
def okN (n : Nd) : Prop := ∃ d, d ≤ 5 ∧ shapeM d n = true
theorem okN_kid {n : Nd} (h : okN n) {j : Nat} (hj : j < n.kids.length) : okN (n.kids.getD j default) := by
  obtain ⟨d, hd, h⟩ := h
  obtain ⟨-, e, rfl⟩ := shape_parts h
  exact ⟨e, by omega, shape_kid h (by rw [getD_get hj]; exact List.getElem_mem hj)⟩
theorem okN_parts {n : Nd} (h : okN n) : partsM n = true := by obtain ⟨d, hd, h⟩ := h; exact (shape_parts h).1
theorem okN_count {n : Nd} (h : okN n) : countM n ≤ 16807 := by
  obtain ⟨d, hd, h⟩ := h
  have := count_le h
  have : 7 ^ d ≤ 7 ^ 5 := Nat.pow_le_pow_right (by omega) hd
  omega
theorem okN_kids {n : Nd} (h : okN n) : n.kids.length ≤ 6 := partsM_kids (okN_parts h)
theorem okN_text {n : Nd} (h : okN n) : n.text.length ≤ 12 := by
  have h := okN_parts h
  unfold partsM txtM at h
  by_cases h2 : n.kind = 2
  · simp [h2] at h; grind
  · by_cases h3 : n.text = []
    · simp [h3]
    · simp [h2, h3] at h
theorem okN_names {n : Nd} (h : okN n) : n.names.length ≤ 6 ∧ (n.kind = 4 → n.names.length = n.kids.length) ∧ (n.kind ≠ 4 → n.names = []) := by
  have h := okN_parts h
  unfold partsM areNamesM at h
  by_cases h2 : n.kind = 4
  · simp [h2] at h; grind
  · by_cases h3 : n.names = []
    · simp [h3, h2]
    · have : 0 < n.names.length := by cases hn : n.names with | nil => exact absurd hn h3 | cons a r => simp
      simp [h2, this] at h
def validM (n : Nd) : Bool := shapeM 5 n && decide (countM n ≤ 40)
theorem validM_ok {n : Nd} (h : validM n = true) : okN n := by
  simp only [validM, Bool.and_eq_true] at h; exact ⟨5, by omega, h.1⟩
theorem sumN_take_bound {f : Nd → Nat} {c : Nat} {l : List Nd} : ∀ {i : Nat}, i ≤ l.length → (∀ j, j < i → f (l.getD j default) ≤ c) → sumN f (l.take i) ≤ i * c
  | 0, _, _ => by simp [sumN]
  | i + 1, h, hj => by
    rw [sumN_take (by omega)]
    have h1 := sumN_take_bound (f := f) (c := c) (l := l) (i := i) (by omega) (fun j h => hj j (by omega))
    have h2 := hj i (by omega)
    rw [Nat.add_mul]; omega
-- the depth
def depthM : Nd → Nat
  | ⟨_, _, _, _, kids⟩ => 1 + go kids
where go : List Nd → Nat
  | [] => 0
  | x :: r => Nat.max (depthM x) (go r)
def maxN (f : Nd → Nat) : List Nd → Nat
  | [] => 0
  | x :: r => Nat.max (f x) (maxN f r)
theorem depthM_go (l : List Nd) : depthM.go l = maxN depthM l := by
  induction l with
  | nil => rfl
  | cons a r ih => simp [depthM.go, maxN, ih]
theorem depthM_eq (n : Nd) : depthM n = 1 + maxN depthM n.kids := by
  cases n; rw [depthM, depthM_go]
theorem maxN_snoc (f : Nd → Nat) (l : List Nd) (x : Nd) : maxN f (l ++ [x]) = Nat.max (maxN f l) (f x) := by
  induction l with
  | nil => simp [maxN]
  | cons a r ih => simp only [List.cons_append, maxN, ih]; exact (Nat.max_assoc _ _ _).symm
theorem maxN_take {f : Nd → Nat} {l : List Nd} {k : Nat} (h : k < l.length) : maxN f (l.take (k + 1)) = Nat.max (maxN f (l.take k)) (f (l.getD k default)) := by
  rw [List.take_succ_eq_append_getElem h, getD_get h, maxN_snoc]
theorem maxN_le {f : Nd → Nat} {c : Nat} : ∀ {l : List Nd}, (∀ x ∈ l, f x ≤ c) → maxN f l ≤ c
  | [], _ => Nat.zero_le _
  | a :: r, h => Nat.max_le.2 ⟨h a (by simp), maxN_le fun x hx => h x (by simp [hx])⟩
theorem maxN_take_bound {f : Nd → Nat} {c : Nat} {l : List Nd} : ∀ {i : Nat}, i ≤ l.length → (∀ j, j < i → f (l.getD j default) ≤ c) → maxN f (l.take i) ≤ c
  | 0, _, _ => by simp [maxN]
  | i + 1, h, hj => by
    rw [maxN_take (by omega)]
    exact Nat.max_le.2 ⟨maxN_take_bound (by omega) (fun j h => hj j (by omega)), hj i (by omega)⟩
theorem depth_le : ∀ {d : Nat} {n : Nd}, shapeM d n = true → depthM n ≤ d
  | 0, n, h => by cases h
  | d + 1, n, h => by
    rw [depthM_eq]
    have := maxN_le (f := depthM) (c := d) (l := n.kids) (fun x hx => depth_le (shape_kid h hx))
    omega
end Go.Rs
end
section
/-! Plain models: names of documents, stores. -/
namespace Go.Rs
def nameCh (c : UInt8) : Bool := (decide (97 ≤ c.toNat) && decide (c.toNat ≤ 122)) || (decide (48 ≤ c.toNat) && decide (c.toNat ≤ 57))
def nameM (b : Bs) : Bool := decide (1 ≤ b.length) && decide (b.length ≤ 8) && b.all nameCh
end Go.Rs
end
section
/-! Plain models: small nodes, edits of stores. -/
namespace Go.Rs
inductive smN : Nd → Prop
  | mk {n : Nd} (h1 : n.text.length ≤ 2097152) (h2 : n.names.length ≤ 2097152) (h3 : n.kids.length ≤ 2097152) (h : ∀ x ∈ n.kids, smN x) : smN n
theorem smN.text {n : Nd} (h : smN n) : n.text.length ≤ 2097152 := by cases h; assumption
theorem smN.names {n : Nd} (h : smN n) : n.names.length ≤ 2097152 := by cases h; assumption
theorem smN.kids {n : Nd} (h : smN n) : n.kids.length ≤ 2097152 := by cases h; assumption
theorem smN.mem {n : Nd} (h : smN n) {x : Nd} (hx : x ∈ n.kids) : smN x := by cases h with | mk _ _ _ h => exact h x hx
theorem smN.kid {n : Nd} (h : smN n) {j : Nat} (hj : j < n.kids.length) : smN (n.kids.getD j default) := by
  rw [getD_get hj]; exact h.mem (List.getElem_mem hj)
theorem shape_smN : ∀ {d : Nat} {n : Nd}, d ≤ 5 → shapeM d n = true → smN n
  | 0, n, _, h => by cases h
  | d + 1, n, hd, h => by
    have ho : okN n := ⟨d + 1, hd, h⟩
    exact ⟨by have := okN_text ho; omega, by have := okN_names ho; omega, by have := okN_kids ho; omega, fun x hx => shape_smN (by omega) (shape_kid h hx)⟩
theorem okN.sm {n : Nd} (h : okN n) : smN n := by obtain ⟨d, hd, h⟩ := h; exact shape_smN hd h
theorem validM_sm {n : Nd} (h : validM n = true) : smN n := (validM_ok h).sm
def smS (s : Sto) : Prop := s.items.length ≤ 2097152 ∧ ∀ x ∈ s.items, smN x.node
theorem smS.item {s : Sto} (h : smS s) {j : Nat} (hj : j < s.items.length) : smN (s.items.getD j default).node := by
  rw [getD_get hj]; exact h.2 _ (List.getElem_mem hj)
end Go.Rs
end
section
/-! Plain models: putting, dropping, changes, logs. -/
namespace Go.Rs
end Go.Rs
end
