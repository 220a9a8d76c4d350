import Derived.Test.YtmkgadogaefkaaaDoorMB
set_option linter.all false
section
/-! Plain models: news and feeds. -/
namespace Go.Rs
theorem ltS_total {a b : Bs} (h : ltS a b = false) (hne : a ≠ b) : ltS b a = true := by
  cases h2 : ltS b a with
  | true => rfl
  | false => exact absurd (ltS_tri h h2) hne
end Go.Rs
end
section
/-! Plain models: the order of nodes, names searched, nodes at pointers. -/
namespace Go.Rs
theorem okN_default : okN default := ⟨1, by omega, by decide⟩
def nmI (l : List Bs) : List It := l.map fun x => ⟨x, 0, default⟩
theorem nmI_len (l : List Bs) : (nmI l).length = l.length := by simp [nmI]
theorem nmI_get (l : List Bs) (j : Nat) : ((nmI l).getD j default).name = l.getD j [] := by
  unfold nmI
  rw [List.getD_eq_getElem?_getD, List.getD_eq_getElem?_getD, List.getElem?_map]
  cases l[j]? <;> rfl
theorem names_sorted {l : List Bs} (h : namesM l = true) : sortedI (nmI l) := by
  have hadj : ∀ j, 0 < j → j < l.length → ltS (l.getD (j - 1) []) (l.getD j []) = true := fun j h0 hj => by
    have := (namesM_iff l).1 h j hj
    simp only [nameOk, Bool.and_eq_true, Bool.or_eq_true, decide_eq_true_eq] at this
    rcases this.2 with h | h
    · omega
    · exact h
  intro i j hij hj
  rw [nmI_len] at hj
  rw [nmI_get, nmI_get]
  induction j with
  | zero => omega
  | succ j ih =>
    have h1 := hadj (j + 1) (by omega) hj
    rw [Nat.add_sub_cancel] at h1
    rcases Nat.lt_or_eq_of_le (Nat.le_of_lt_succ hij) with h | h
    · exact ltS_trans (ih h (by omega)) h1
    · subst h; exact h1
theorem okN_sorted {n : Nd} (h : okN n) (hk : n.kind = 4) : sortedI (nmI n.names) := by
  have := okN_parts h
  refine names_sorted ?_
  simp only [partsM] at this
  grind [areNamesM]
def kidM (n : Nd) (b : Bs) : Int × Bool :=
  if n.kind = 4 then ((lbI (nmI n.names) b : Int), foundI (nmI n.names) b) else if placeM n b < 0 then (0, false) else (placeM n b, true)
theorem kid_map {n : Nd} {b : Bs} (h : okN n) (hk : n.kind = 4) : foundI (nmI n.names) b = !decide (placeM n b < 0) ∧ (foundI (nmI n.names) b = true → placeM n b = lbI (nmI n.names) b) := by
  have hs := ascI_sorted.2 (okN_sorted h hk)
  have hl := (okN_names h).2.1 hk
  cases hf : foundI (nmI n.names) b with
  | true =>
    have h1 : lbI (nmI n.names) b < (nmI n.names).length ∧ ((nmI n.names).getD (lbI (nmI n.names) b) default).name = b := by simp only [foundI, Bool.and_eq_true, decide_eq_true_eq] at hf; exact hf
    have hp : placeM n b = lbI (nmI n.names) b := by
      refine placeM_at (by rw [← hl, ← nmI_len]; exact h1.1) (hitM_iff.2 (.inl ⟨hk, by rw [← nmI_get]; exact h1.2⟩)) fun j hj => ?_
      refine hitM_no ⟨fun _ e => ?_, fun h3 => by omega⟩
      have h2 := lbI_lt hj
      rw [nmI_get, e] at h2
      rw [ltS_irrefl] at h2; cases h2
    exact ⟨by rw [hp]; simp, fun _ => hp⟩
  | false =>
    have hp : placeM n b = -1 := by
      refine placeM_none fun j hj => hitM_no ⟨fun _ e => ?_, fun h3 => by omega⟩
      have h1 := lookI_found (b := b) hs
      rw [hf, if_neg (by simp)] at h1
      unfold lookI at h1
      rw [List.find?_eq_none] at h1
      have hjn : j < (nmI n.names).length := by rw [nmI_len, hl]; exact hj
      have := h1 ((nmI n.names).getD j default) (getD_mem hjn)
      rw [nmI_get, e] at this
      simp at this
    exact ⟨by rw [hp]; simp, fun h => by cases h⟩
theorem kidM_ok {n : Nd} {b : Bs} (h : okN n) : (kidM n b).2 = !decide (placeM n b < 0) ∧ ((kidM n b).2 = true → (kidM n b).1 = placeM n b) := by
  unfold kidM
  split
  · rename_i hk
    have := kid_map (b := b) h hk
    exact ⟨this.1, fun h => (this.2 h).symm⟩
  · split
    · rename_i hp; exact ⟨by simp [hp], fun h => by cases h⟩
    · rename_i hp; exact ⟨by simp [hp], fun _ => rfl⟩
def findM : Nd → List Bs → Option Nd
  | n, [] => some n
  | n, s :: p => if placeM n s < 0 then none else findM (n.kids.getD (placeM n s).toNat default) p
theorem findM_drop {n : Nd} {p : List Bs} {i : Nat} (h : i < p.length) : findM n (p.drop i) = if placeM n (p.getD i []) < 0 then none else findM (n.kids.getD (placeM n (p.getD i [])).toNat default) (p.drop (i + 1)) := by
  rw [List.drop_eq_getElem_cons h, findM, getD_get h]
theorem findM_ok : ∀ {p : List Bs} {n m : Nd}, okN n → findM n p = some m → okN m
  | [], n, m, h, e => by cases e; exact h
  | s :: p, n, m, h, e => by
    rw [findM] at e
    split at e
    · cases e
    · have := (placeM_ge n s).2.1
      exact findM_ok (okN_kid h (by omega)) e
def pathM (p : List Bs) : Bool := decide (p.length ≤ 5) && p.all txtM
theorem allB_iff (l : List Bs) (p : Bs → Bool) : l.all p = true ↔ ∀ j, j < l.length → p (l.getD j []) = true := by
  rw [List.all_eq_true]
  exact ⟨fun h j hj => h _ (getD_mem hj), fun h x hx => by obtain ⟨j, hj, rfl⟩ := List.mem_iff_getElem.1 hx; rw [← getD_get hj []]; exact h j hj⟩
theorem allB_no {s : List Bs} {p : Bs → Bool} {j : Nat} (hj : j < s.length) (h : p (s.getD j []) = false) : s.all p = false := by
  rw [Bool.eq_false_iff]; intro e; rw [(allB_iff s p).1 e j hj] at h; cases h
end Go.Rs
end
section
/-! Plain models: parts of valid nodes are valid; filters and stores. -/
namespace Go.Rs
theorem shape_mono : ∀ {d : Nat} {n : Nd}, shapeM d n = true → shapeM (d + 1) n = true
  | 0, n, h => by obtain ⟨-, e, he⟩ := shape_parts h; omega
  | d + 1, n, h => by
    have h1 := (shape_parts h).1
    have h2 : ∀ x ∈ n.kids, shapeM d x = true := fun x hx => shape_kid h hx
    have e := shapeM_pos n (d := ((d + 2 : Nat) : Int)) (by omega)
    rw [Int.toNat_natCast] at e
    rw [e, h1, Bool.true_and, List.all_eq_true]
    intro x hx
    exact shape_mono (h2 x hx)
theorem shape_le {d e : Nat} {n : Nd} (h : shapeM d n = true) (hle : d ≤ e) : shapeM e n = true := by
  induction hle with
  | refl => exact h
  | step _ ih => exact shape_mono ih
theorem okN_shape {n : Nd} (h : okN n) : shapeM 5 n = true := by obtain ⟨d, hd, h⟩ := h; exact shape_le h hd
theorem validM_iff {n : Nd} : validM n = true ↔ okN n ∧ countM n ≤ 40 := by
  constructor
  · intro h
    refine ⟨validM_ok h, ?_⟩
    simp only [validM, Bool.and_eq_true, decide_eq_true_eq] at h
    exact h.2
  · rintro ⟨h1, h2⟩
    simp only [validM, okN_shape h1, Bool.true_and]; exact decide_eq_true h2
end Go.Rs
end
section
/-! Plain models: documents selected. -/
namespace Go.Rs
end Go.Rs
end
section
/-! Plain models: nodes with another node at a pointer, and without one. -/
namespace Go.Rs
def setAtM : Nd → List Bs → Nd → Option Nd
  | _, [], v => some v
  | n, s :: p, v => if placeM n s < 0 then none else (setAtM (n.kids.getD (placeM n s).toNat default) p v).map (withKidM n (placeM n s).toNat)
theorem withKidM_sm {n x : Nd} {i : Nat} (h : smN n) (hx : smN x) : smN (withKidM n i x) := by
  unfold withKidM
  refine smN_mk h.text h.names (by simp; exact h.kids) fun y hy => ?_
  rcases List.mem_or_eq_of_mem_set hy with h1 | rfl
  · exact h.mem h1
  · exact hx
theorem setAtM_sm : ∀ {p : List Bs} {n v m : Nd}, smN n → smN v → setAtM n p v = some m → smN m
  | [], n, v, m, _, hv, e => by cases e; exact hv
  | s :: p, n, v, m, hn, hv, e => by
    rw [setAtM] at e
    split at e
    · cases e
    · rename_i h
      have hp := (placeM_ge n s).2.1
      have hk : smN (n.kids.getD (placeM n s).toNat default) := hn.kid (by omega)
      cases hs : setAtM (n.kids.getD (placeM n s).toNat default) p v with
      | none => rw [hs] at e; cases e
      | some k => rw [hs] at e; cases e; exact withKidM_sm hn (setAtM_sm hk hv hs)
theorem setAtM_at {n x : Nd} {p : List Bs} (h : 0 < p.length) : setAtM n p x = if placeM n (p.getD 0 []) < 0 then none else (setAtM (n.kids.getD (placeM n (p.getD 0 [])).toNat default) (p.drop 1) x).map (withKidM n (placeM n (p.getD 0 [])).toNat) := by
  cases p with
  | nil => simp at h
  | cons s p => rfl
theorem setAtM_get_sm {n v : Nd} {p : List Bs} (hn : smN n) (hv : smN v) : smN ((setAtM n p v).getD default) := by
  cases h : setAtM n p v with
  | none => exact smN_default
  | some m => exact setAtM_sm hn hv h
def lastD (p : List Bs) : Bs := p.getD (p.length - 1) []
def addAtM (n : Nd) (p : List Bs) (v : Nd) : Option Nd :=
  if p = [] then some v else
  match findM n (p.take (p.length - 1)) with
  | none => none
  | some m => match addHereM m (lastD p) v with
    | none => none
    | some x => setAtM n (p.take (p.length - 1)) x
def checkedM (r : Option Nd) : Option Nd := match r with
  | none => none
  | some m => if validM m then some m else none
def addNodeM (n : Nd) (p : List Bs) (v : Nd) : Option Nd := if validM n && pathM p && validM v then checkedM (addAtM n p v) else none
theorem okN_even {n : Nd} (h : okN n) : evenN n := (okN_names h).2.1
theorem front_eq (p : List Bs) : List.drop (Int.toNat 0) (List.take ((p.length : Int) - 1).toNat p) = p.take (p.length - 1) := by
  have : ((p.length : Int) - 1).toNat = p.length - 1 := by omega
  rw [this]; simp
theorem find_get_ok {n : Nd} (h : okN n) (p : List Bs) : okN ((findM n p).getD default) := by
  cases e : findM n p with
  | none => exact okN_default
  | some m => exact findM_ok h e
theorem here_get_sm {n x : Nd} (h : okN n) (hx : smN x) (b : Bs) : smN ((addHereM n b x).getD default) := by
  cases e : addHereM n b x with
  | none => exact smN_default
  | some m => exact addHereM_sm (okN_even h) e h.sm hx (by have := okN_kids h; omega) (by have := okN_names h; omega)
end Go.Rs
end
