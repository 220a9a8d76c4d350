import Derived.Test.YtoailaifflbomaaMB
set_option linter.all false
section
/-! Plain models: news and feeds. -/
namespace Go.Rs
theorem ltS_total {a b : Bs} (h : ltS a b = false) (hne : a ≠ b) : ltS b a = true := by
  cases h2 : ltS b a with
  | true => rfl
  | false => exact absurd (ltS_tri h h2) hne
theorem putL_cons (it x : It) (r : List It) : putL (x :: r) it = if ltS x.name it.name then x :: putL r it else it :: dropL (x :: r) it.name := rfl
theorem putL_asc {it : It} : ∀ {l : List It}, ascI l → ascI (putL l it)
  | [], _ => by simp [putL, ascI]
  | x :: r, h => by
    rw [putL_cons]
    have h' := List.pairwise_cons.1 h
    split
    · rename_i hlt
      refine List.pairwise_cons.2 ⟨fun y hy => ?_, putL_asc h'.2⟩
      rcases putL_mem hy with rfl | hy
      · exact hlt
      · exact h'.1 y hy
    · rename_i hge
      have hge : ltS x.name it.name = false := by simpa using hge
      refine List.pairwise_cons.2 ⟨fun y hy => ?_, ascI_drop h⟩
      have hy1 := dropL_mem hy
      have hne : y.name ≠ it.name := by
        have := (List.mem_filter.1 hy).2
        simpa using this
      rcases List.mem_cons.1 hy1 with rfl | hy2
      · exact ltS_total hge hne
      · have h3 := h'.1 y hy2
        exact ltS_le_lt hge h3
end Go.Rs
end
section
/-! Plain models: the order of nodes, names searched, nodes at pointers. -/
namespace Go.Rs
def ordI (a b : Int) : Int := if b < a then 1 else if a < b then -1 else 0
theorem ordI_refl (a : Int) : ordI a a = 0 := by simp [ordI]
theorem ordI_zero {a b : Int} : ordI a b = 0 ↔ a = b := by unfold ordI; split <;> (try split) <;> omega
theorem cmpI_zero {a b : Bs} : cmpI a b = 0 ↔ a = b := by
  unfold cmpI
  cases h1 : ltS a b with
  | true => simp; exact ltS_ne h1
  | false =>
    cases h2 : ltS b a with
    | true => simp; exact fun e => ltS_ne h2 e.symm
    | false => simp; exact ltS_tri h1 h2
def cmpN : Nd → Nd → Int
  | ⟨k, m, t, ns, l⟩, b => if k = b.kind then (if m = b.num then (if t = b.text then go k l ns b.names b.kids else cmpI t b.text) else ordI m b.num) else ordI k b.kind
where go (k : Int) : List Nd → List Bs → List Bs → List Nd → Int
  | x :: l, n, n', y :: r => if k = 4 ∧ n.headD [] ≠ n'.headD [] then cmpI (n.headD []) (n'.headD []) else (if cmpN x y = 0 then go k l n.tail n'.tail r else cmpN x y)
  | l, _, _, r => ordI l.length r.length
theorem cmpN_eq (a b : Nd) : cmpN a b = if a.kind = b.kind then (if a.num = b.num then (if a.text = b.text then cmpN.go a.kind a.kids a.names b.names b.kids else cmpI a.text b.text) else ordI a.num b.num) else ordI a.kind b.kind := by
  cases a; rw [cmpN]
def cmpK (a b : Nd) (i : Nat) : Int := cmpN.go a.kind (a.kids.drop i) (a.names.drop i) (b.names.drop i) (b.kids.drop i)
theorem headD_drop {l : List Bs} {i : Nat} : (l.drop i).headD [] = l.getD i [] := by
  rw [List.headD_eq_head?_getD, List.head?_drop, List.getD_eq_getElem?_getD]
theorem cmpK_step {a b : Nd} {i : Nat} (h1 : i < a.kids.length) (h2 : i < b.kids.length) : cmpK a b i =
    if a.kind = 4 ∧ a.names.getD i [] ≠ b.names.getD i [] then cmpI (a.names.getD i []) (b.names.getD i []) else (if cmpN (a.kids.getD i default) (b.kids.getD i default) = 0 then cmpK a b (i + 1) else cmpN (a.kids.getD i default) (b.kids.getD i default)) := by
  unfold cmpK
  rw [List.drop_eq_getElem_cons h1, List.drop_eq_getElem_cons h2, cmpN.go, headD_drop, headD_drop, List.tail_drop, List.tail_drop, getD_get h1, getD_get h2]
theorem cmpK_end {a b : Nd} {i : Nat} (h1 : i ≤ a.kids.length) (h2 : i ≤ b.kids.length) (h : i = a.kids.length ∨ i = b.kids.length) : cmpK a b i = ordI a.kids.length b.kids.length := by
  unfold cmpK
  have key : ∀ (k : Int) (l r : List Nd) (n n' : List Bs), l = [] ∨ r = [] → cmpN.go k l n n' r = ordI l.length r.length := by
    intro k l r n n' h
    cases l with
    | nil => rw [cmpN.go]; intro _ _ _ _ e; cases e
    | cons x l =>
      cases r with
      | nil => rw [cmpN.go]; intro _ _ _ _ _ e; cases e
      | cons y r => rcases h with h | h <;> cases h
  rw [key _ _ _ _ _ (by rcases h with h | h; exact .inl (by rw [h]; exact List.drop_length); exact .inr (by rw [h]; exact List.drop_length))]
  simp only [List.length_drop]
  unfold ordI
  split <;> split <;> (try split) <;> (try split) <;> omega
theorem cmpK_zero (a b : Nd) : cmpK a b 0 = cmpN.go a.kind a.kids a.names b.names b.kids := rfl
theorem cmpN_refl : ∀ n : Nd, cmpN n n = 0
  | ⟨k, m, t, ns, l⟩ => by
    rw [cmpN_eq]
    simp only [if_true]
    have hk : ∀ x ∈ l, cmpN x x = 0 := fun x hx => by
      have : SizeOf.sizeOf x < 1 + SizeOf.sizeOf k + SizeOf.sizeOf m + SizeOf.sizeOf t + SizeOf.sizeOf ns + SizeOf.sizeOf l := by have := List.sizeOf_lt_of_mem hx; omega
      exact cmpN_refl x
    have key : ∀ (l : List Nd) (n : List Bs), (∀ x ∈ l, cmpN x x = 0) → cmpN.go k l n n l = 0 := by
      intro l
      induction l with
      | nil => intro n _; rw [cmpN.go]; exact ordI_refl _; intro _ _ _ _ e; cases e
      | cons x l ih =>
        intro n h
        rw [cmpN.go, if_neg (by simp), if_pos (h x (by simp)), ih _ fun y hy => h y (by simp [hy])]
    exact key l ns hk
termination_by n => SizeOf.sizeOf n
def nmI (l : List Bs) : List It := l.map fun x => ⟨x, 0, default⟩
theorem nmI_len (l : List Bs) : (nmI l).length = l.length := by simp [nmI]
theorem nmI_get (l : List Bs) (j : Nat) : ((nmI l).getD j default).name = l.getD j [] := by
  unfold nmI
  rw [List.getD_eq_getElem?_getD, List.getD_eq_getElem?_getD, List.getElem?_map]
  cases l[j]? <;> rfl
theorem names_sorted {l : List Bs} (h : namesM l = true) : sortedI (nmI l) := by
  have hadj : ∀ j, 0 < j → j < l.length → ltS (l.getD (j - 1) []) (l.getD j []) = true := fun j h0 hj => by
    have := (namesM_iff l).1 h j hj
    simp only [nameOk, Bool.and_eq_true, Bool.or_eq_true, decide_eq_true_eq] at this
    rcases this.2 with h | h
    · omega
    · exact h
  intro i j hij hj
  rw [nmI_len] at hj
  rw [nmI_get, nmI_get]
  induction j with
  | zero => omega
  | succ j ih =>
    have h1 := hadj (j + 1) (by omega) hj
    rw [Nat.add_sub_cancel] at h1
    rcases Nat.lt_or_eq_of_le (Nat.le_of_lt_succ hij) with h | h
    · exact ltS_trans (ih h (by omega)) h1
    · subst h; exact h1
theorem okN_sorted {n : Nd} (h : okN n) (hk : n.kind = 4) : sortedI (nmI n.names) := by
  have := okN_parts h
  refine names_sorted ?_
  simp only [partsM] at this
  grind [areNamesM]
theorem kid_map {n : Nd} {b : Bs} (h : okN n) (hk : n.kind = 4) : foundI (nmI n.names) b = !decide (placeM n b < 0) ∧ (foundI (nmI n.names) b = true → placeM n b = lbI (nmI n.names) b) := by
  have hs := ascI_sorted.2 (okN_sorted h hk)
  have hl := (okN_names h).2.1 hk
  cases hf : foundI (nmI n.names) b with
  | true =>
    have h1 : lbI (nmI n.names) b < (nmI n.names).length ∧ ((nmI n.names).getD (lbI (nmI n.names) b) default).name = b := by simp only [foundI, Bool.and_eq_true, decide_eq_true_eq] at hf; exact hf
    have hp : placeM n b = lbI (nmI n.names) b := by
      refine placeM_at (by rw [← hl, ← nmI_len]; exact h1.1) (hitM_iff.2 (.inl ⟨hk, by rw [← nmI_get]; exact h1.2⟩)) fun j hj => ?_
      refine hitM_no ⟨fun _ e => ?_, fun h3 => by omega⟩
      have h2 := lbI_lt hj
      rw [nmI_get, e] at h2
      rw [ltS_irrefl] at h2; cases h2
    exact ⟨by rw [hp]; simp, fun _ => hp⟩
  | false =>
    have hp : placeM n b = -1 := by
      refine placeM_none fun j hj => hitM_no ⟨fun _ e => ?_, fun h3 => by omega⟩
      have h1 := lookI_found (b := b) hs
      rw [hf, if_neg (by simp)] at h1
      unfold lookI at h1
      rw [List.find?_eq_none] at h1
      have hjn : j < (nmI n.names).length := by rw [nmI_len, hl]; exact hj
      have := h1 ((nmI n.names).getD j default) (getD_mem hjn)
      rw [nmI_get, e] at this
      simp at this
    exact ⟨by rw [hp]; simp, fun h => by cases h⟩
end Go.Rs
end
section
/-! Plain models: parts of valid nodes are valid; filters and stores. -/
namespace Go.Rs
theorem shape_mono : ∀ {d : Nat} {n : Nd}, shapeM d n = true → shapeM (d + 1) n = true
  | 0, n, h => by obtain ⟨-, e, he⟩ := shape_parts h; omega
  | d + 1, n, h => by
    have h1 := (shape_parts h).1
    have h2 : ∀ x ∈ n.kids, shapeM d x = true := fun x hx => shape_kid h hx
    have e := shapeM_pos n (d := ((d + 2 : Nat) : Int)) (by omega)
    rw [Int.toNat_natCast] at e
    rw [e, h1, Bool.true_and, List.all_eq_true]
    intro x hx
    exact shape_mono (h2 x hx)
theorem shape_le {d e : Nat} {n : Nd} (h : shapeM d n = true) (hle : d ≤ e) : shapeM e n = true := by
  induction hle with
  | refl => exact h
  | step _ ih => exact shape_mono ih
theorem okN_shape {n : Nd} (h : okN n) : shapeM 5 n = true := by obtain ⟨d, hd, h⟩ := h; exact shape_le h hd
theorem validM_iff {n : Nd} : validM n = true ↔ okN n ∧ countM n ≤ 40 := by
  constructor
  · intro h
    refine ⟨validM_ok h, ?_⟩
    simp only [validM, Bool.and_eq_true, decide_eq_true_eq] at h
    exact h.2
  · rintro ⟨h1, h2⟩
    simp only [validM, okN_shape h1, Bool.true_and]; exact decide_eq_true h2
end Go.Rs
end
section
/-! Plain models: documents selected. -/
namespace Go.Rs
end Go.Rs
end
section
/-! Plain models: nodes with another node at a pointer, and without one. -/
namespace Go.Rs
def checkedM (r : Option Nd) : Option Nd := match r with
  | none => none
  | some m => if validM m then some m else none
theorem okN_even {n : Nd} (h : okN n) : evenN n := (okN_names h).2.1
end Go.Rs
end
