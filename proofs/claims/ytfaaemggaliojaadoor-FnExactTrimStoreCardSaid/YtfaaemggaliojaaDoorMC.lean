import Derived.Test.YtfaaemggaliojaaDoorMB
set_option linter.all false
section
/-! Plain models: news and feeds. -/
namespace Go.Rs
end Go.Rs
end
section
/-! Plain models: the order of nodes, names searched, nodes at pointers. -/
namespace Go.Rs
def ordI (a b : Int) : Int := if b < a then 1 else if a < b then -1 else 0
theorem ordI_zero {a b : Int} : ordI a b = 0 ↔ a = b := by unfold ordI; split <;> (try split) <;> omega
theorem cmpI_zero {a b : Bs} : cmpI a b = 0 ↔ a = b := by
  unfold cmpI
  cases h1 : ltS a b with
  | true => simp; exact ltS_ne h1
  | false =>
    cases h2 : ltS b a with
    | true => simp; exact fun e => ltS_ne h2 e.symm
    | false => simp; exact ltS_tri h1 h2
def cmpN : Nd → Nd → Int
  | ⟨k, m, t, ns, l⟩, b => if k = b.kind then (if m = b.num then (if t = b.text then go k l ns b.names b.kids else cmpI t b.text) else ordI m b.num) else ordI k b.kind
where go (k : Int) : List Nd → List Bs → List Bs → List Nd → Int
  | x :: l, n, n', y :: r => if k = 4 ∧ n.headD [] ≠ n'.headD [] then cmpI (n.headD []) (n'.headD []) else (if cmpN x y = 0 then go k l n.tail n'.tail r else cmpN x y)
  | l, _, _, r => ordI l.length r.length
theorem cmpN_eq (a b : Nd) : cmpN a b = if a.kind = b.kind then (if a.num = b.num then (if a.text = b.text then cmpN.go a.kind a.kids a.names b.names b.kids else cmpI a.text b.text) else ordI a.num b.num) else ordI a.kind b.kind := by
  cases a; rw [cmpN]
def cmpK (a b : Nd) (i : Nat) : Int := cmpN.go a.kind (a.kids.drop i) (a.names.drop i) (b.names.drop i) (b.kids.drop i)
theorem headD_drop {l : List Bs} {i : Nat} : (l.drop i).headD [] = l.getD i [] := by
  rw [List.headD_eq_head?_getD, List.head?_drop, List.getD_eq_getElem?_getD]
theorem cmpK_step {a b : Nd} {i : Nat} (h1 : i < a.kids.length) (h2 : i < b.kids.length) : cmpK a b i =
    if a.kind = 4 ∧ a.names.getD i [] ≠ b.names.getD i [] then cmpI (a.names.getD i []) (b.names.getD i []) else (if cmpN (a.kids.getD i default) (b.kids.getD i default) = 0 then cmpK a b (i + 1) else cmpN (a.kids.getD i default) (b.kids.getD i default)) := by
  unfold cmpK
  rw [List.drop_eq_getElem_cons h1, List.drop_eq_getElem_cons h2, cmpN.go, headD_drop, headD_drop, List.tail_drop, List.tail_drop, getD_get h1, getD_get h2]
theorem cmpK_end {a b : Nd} {i : Nat} (h1 : i ≤ a.kids.length) (h2 : i ≤ b.kids.length) (h : i = a.kids.length ∨ i = b.kids.length) : cmpK a b i = ordI a.kids.length b.kids.length := by
  unfold cmpK
  have key : ∀ (k : Int) (l r : List Nd) (n n' : List Bs), l = [] ∨ r = [] → cmpN.go k l n n' r = ordI l.length r.length := by
    intro k l r n n' h
    cases l with
    | nil => rw [cmpN.go]; intro _ _ _ _ e; cases e
    | cons x l =>
      cases r with
      | nil => rw [cmpN.go]; intro _ _ _ _ _ e; cases e
      | cons y r => rcases h with h | h <;> cases h
  rw [key _ _ _ _ _ (by rcases h with h | h; exact .inl (by rw [h]; exact List.drop_length); exact .inr (by rw [h]; exact List.drop_length))]
  simp only [List.length_drop]
  unfold ordI
  split <;> split <;> (try split) <;> (try split) <;> omega
theorem cmpK_zero (a b : Nd) : cmpK a b 0 = cmpN.go a.kind a.kids a.names b.names b.kids := rfl
theorem okN_default : okN default := ⟨1, by omega, by decide⟩
def nmI (l : List Bs) : List It := l.map fun x => ⟨x, 0, default⟩
theorem nmI_len (l : List Bs) : (nmI l).length = l.length := by simp [nmI]
theorem nmI_get (l : List Bs) (j : Nat) : ((nmI l).getD j default).name = l.getD j [] := by
  unfold nmI
  rw [List.getD_eq_getElem?_getD, List.getD_eq_getElem?_getD, List.getElem?_map]
  cases l[j]? <;> rfl
theorem names_sorted {l : List Bs} (h : namesM l = true) : sortedI (nmI l) := by
  have hadj : ∀ j, 0 < j → j < l.length → ltS (l.getD (j - 1) []) (l.getD j []) = true := fun j h0 hj => by
    have := (namesM_iff l).1 h j hj
    simp only [nameOk, Bool.and_eq_true, Bool.or_eq_true, decide_eq_true_eq] at this
    rcases this.2 with h | h
    · omega
    · exact h
  intro i j hij hj
  rw [nmI_len] at hj
  rw [nmI_get, nmI_get]
  induction j with
  | zero => omega
  | succ j ih =>
    have h1 := hadj (j + 1) (by omega) hj
    rw [Nat.add_sub_cancel] at h1
    rcases Nat.lt_or_eq_of_le (Nat.le_of_lt_succ hij) with h | h
    · exact ltS_trans (ih h (by omega)) h1
    · subst h; exact h1
theorem okN_sorted {n : Nd} (h : okN n) (hk : n.kind = 4) : sortedI (nmI n.names) := by
  have := okN_parts h
  refine names_sorted ?_
  simp only [partsM] at this
  grind [areNamesM]
def kidM (n : Nd) (b : Bs) : Int × Bool :=
  if n.kind = 4 then ((lbI (nmI n.names) b : Int), foundI (nmI n.names) b) else if placeM n b < 0 then (0, false) else (placeM n b, true)
theorem kid_map {n : Nd} {b : Bs} (h : okN n) (hk : n.kind = 4) : foundI (nmI n.names) b = !decide (placeM n b < 0) ∧ (foundI (nmI n.names) b = true → placeM n b = lbI (nmI n.names) b) := by
  have hs := ascI_sorted.2 (okN_sorted h hk)
  have hl := (okN_names h).2.1 hk
  cases hf : foundI (nmI n.names) b with
  | true =>
    have h1 : lbI (nmI n.names) b < (nmI n.names).length ∧ ((nmI n.names).getD (lbI (nmI n.names) b) default).name = b := by simp only [foundI, Bool.and_eq_true, decide_eq_true_eq] at hf; exact hf
    have hp : placeM n b = lbI (nmI n.names) b := by
      refine placeM_at (by rw [← hl, ← nmI_len]; exact h1.1) (hitM_iff.2 (.inl ⟨hk, by rw [← nmI_get]; exact h1.2⟩)) fun j hj => ?_
      refine hitM_no ⟨fun _ e => ?_, fun h3 => by omega⟩
      have h2 := lbI_lt hj
      rw [nmI_get, e] at h2
      rw [ltS_irrefl] at h2; cases h2
    exact ⟨by rw [hp]; simp, fun _ => hp⟩
  | false =>
    have hp : placeM n b = -1 := by
      refine placeM_none fun j hj => hitM_no ⟨fun _ e => ?_, fun h3 => by omega⟩
      have h1 := lookI_found (b := b) hs
      rw [hf, if_neg (by simp)] at h1
      unfold lookI at h1
      rw [List.find?_eq_none] at h1
      have hjn : j < (nmI n.names).length := by rw [nmI_len, hl]; exact hj
      have := h1 ((nmI n.names).getD j default) (getD_mem hjn)
      rw [nmI_get, e] at this
      simp at this
    exact ⟨by rw [hp]; simp, fun h => by cases h⟩
theorem kidM_ok {n : Nd} {b : Bs} (h : okN n) : (kidM n b).2 = !decide (placeM n b < 0) ∧ ((kidM n b).2 = true → (kidM n b).1 = placeM n b) := by
  unfold kidM
  split
  · rename_i hk
    have := kid_map (b := b) h hk
    exact ⟨this.1, fun h => (this.2 h).symm⟩
  · split
    · rename_i hp; exact ⟨by simp [hp], fun h => by cases h⟩
    · rename_i hp; exact ⟨by simp [hp], fun _ => rfl⟩
def findM : Nd → List Bs → Option Nd
  | n, [] => some n
  | n, s :: p => if placeM n s < 0 then none else findM (n.kids.getD (placeM n s).toNat default) p
theorem findM_drop {n : Nd} {p : List Bs} {i : Nat} (h : i < p.length) : findM n (p.drop i) = if placeM n (p.getD i []) < 0 then none else findM (n.kids.getD (placeM n (p.getD i [])).toNat default) (p.drop (i + 1)) := by
  rw [List.drop_eq_getElem_cons h, findM, getD_get h]
theorem findM_ok : ∀ {p : List Bs} {n m : Nd}, okN n → findM n p = some m → okN m
  | [], n, m, h, e => by cases e; exact h
  | s :: p, n, m, h, e => by
    rw [findM] at e
    split at e
    · cases e
    · have := (placeM_ge n s).2.1
      exact findM_ok (okN_kid h (by omega)) e
def pathM (p : List Bs) : Bool := decide (p.length ≤ 5) && p.all txtM
theorem allB_iff (l : List Bs) (p : Bs → Bool) : l.all p = true ↔ ∀ j, j < l.length → p (l.getD j []) = true := by
  rw [List.all_eq_true]
  exact ⟨fun h j hj => h _ (getD_mem hj), fun h x hx => by obtain ⟨j, hj, rfl⟩ := List.mem_iff_getElem.1 hx; rw [← getD_get hj []]; exact h j hj⟩
theorem allB_no {s : List Bs} {p : Bs → Bool} {j : Nat} (hj : j < s.length) (h : p (s.getD j []) = false) : s.all p = false := by
  rw [Bool.eq_false_iff]; intro e; rw [(allB_iff s p).1 e j hj] at h; cases h
def filterM (f : Flt) : Bool := pathM f.path && (decide (0 ≤ f.test) && decide (f.test ≤ 3)) && validM f.value
def testM (t : Int) (a b : Nd) : Bool := if t = 1 then decide (cmpN a b = 0) else if t = 2 then decide (cmpN a b < 0) else if t = 3 then decide (0 < cmpN a b) else true
def matchesM (n : Nd) (f : Flt) : Bool := match findM n f.path with
  | some m => testM f.test m f.value
  | none => false
def matchM (n : Nd) (f : Flt) : Bool := validM n && filterM f && matchesM n f
end Go.Rs
end
section
/-! Plain models: parts of valid nodes are valid; filters and stores. -/
namespace Go.Rs
theorem shape_mono : ∀ {d : Nat} {n : Nd}, shapeM d n = true → shapeM (d + 1) n = true
  | 0, n, h => by obtain ⟨-, e, he⟩ := shape_parts h; omega
  | d + 1, n, h => by
    have h1 := (shape_parts h).1
    have h2 : ∀ x ∈ n.kids, shapeM d x = true := fun x hx => shape_kid h hx
    have e := shapeM_pos n (d := ((d + 2 : Nat) : Int)) (by omega)
    rw [Int.toNat_natCast] at e
    rw [e, h1, Bool.true_and, List.all_eq_true]
    intro x hx
    exact shape_mono (h2 x hx)
theorem shape_le {d e : Nat} {n : Nd} (h : shapeM d n = true) (hle : d ≤ e) : shapeM e n = true := by
  induction hle with
  | refl => exact h
  | step _ ih => exact shape_mono ih
theorem okN_shape {n : Nd} (h : okN n) : shapeM 5 n = true := by obtain ⟨d, hd, h⟩ := h; exact shape_le h hd
theorem validM_iff {n : Nd} : validM n = true ↔ okN n ∧ countM n ≤ 40 := by
  constructor
  · intro h
    refine ⟨validM_ok h, ?_⟩
    simp only [validM, Bool.and_eq_true, decide_eq_true_eq] at h
    exact h.2
  · rintro ⟨h1, h2⟩
    simp only [validM, okN_shape h1, Bool.true_and]; exact decide_eq_true h2
end Go.Rs
end
section
/-! Plain models: documents selected. -/
namespace Go.Rs
def filtersM (l : List Flt) : Bool := decide (l.length ≤ 4) && l.all filterM
theorem allF_iff (l : List Flt) (p : Flt → Bool) : l.all p = true ↔ ∀ j, j < l.length → p (l.getD j default) = true := by
  rw [List.all_eq_true]
  exact ⟨fun h j hj => h _ (getD_mem hj), fun h x hx => by obtain ⟨j, hj, rfl⟩ := List.mem_iff_getElem.1 hx; rw [← getD_get hj default]; exact h j hj⟩
theorem allF_no {s : List Flt} {p : Flt → Bool} {j : Nat} (hj : j < s.length) (h : p (s.getD j default) = false) : s.all p = false := by
  rw [Bool.eq_false_iff]; intro e; rw [(allF_iff s p).1 e j hj] at h; cases h
def selP (l : List Flt) (x : It) : Bool := l.all fun f => matchM x.node f
def selL (s : Sto) (l : List Flt) : List It := s.items.filter (selP l)
def selM (s : Sto) (l : List Flt) : Sto := if storeM s && filtersM l then ⟨selL s l, s.clock⟩ else ⟨[], 0⟩
theorem sel_take {s : Sto} {l : List Flt} {i : Nat} (h : i < s.items.length) : (s.items.take (i + 1)).filter (selP l) = (s.items.take i).filter (selP l) ++ (if selP l (s.items.getD i default) then [s.items.getD i default] else []) := filter_take _ h default
theorem sel_len (s : Sto) (l : List Flt) (i : Nat) : ((s.items.take i).filter (selP l)).length ≤ i := Nat.le_trans (List.length_filter_le _ _) (by simp; omega)
theorem match_matches {n : Nd} {f : Flt} (h1 : validM n = true) (h2 : filterM f = true) : matchM n f = matchesM n f := by simp [matchM, h1, h2]
theorem storeM_node {s : Sto} (h : storeM s = true) {i : Nat} (hi : i < s.items.length) : validM (s.items.getD i default).node = true := by
  have := (storeM_iff.1 h).2.2.1 _ (getD_mem (d := default) hi)
  exact this.2.1
theorem sel_store {s : Sto} {l : List Flt} (h : storeM s = true) : storeM ⟨selL s l, s.clock⟩ = true := by
  obtain ⟨h1, h2, h3, h4⟩ := storeM_iff.1 h
  exact storeM_iff.2 ⟨Nat.le_trans (List.length_filter_le _ _) h1, h2, fun x hx => h3 x (List.mem_filter.1 hx).1, List.Pairwise.filter _ h4⟩
def namesI (l : List It) : List Bs := l.map (·.name)
theorem namesI_take {l : List It} {i : Nat} (h : i < l.length) : namesI (l.take (i + 1)) = namesI (l.take i) ++ [(l.getD i default).name] := by
  unfold namesI; rw [← take_snoc default h, List.map_append]; rfl
end Go.Rs
end
section
/-! Plain models: nodes with another node at a pointer, and without one. -/
namespace Go.Rs
end Go.Rs
end
