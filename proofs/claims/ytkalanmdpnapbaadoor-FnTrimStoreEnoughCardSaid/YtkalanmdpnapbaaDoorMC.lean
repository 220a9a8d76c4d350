import Derived.Test.YtkalanmdpnapbaaDoorMB
set_option linter.all false
section
/-! Plain models: news and feeds. -/
namespace Go.Rs
end Go.Rs
end
section
/-! Plain models: the order of nodes, names searched, nodes at pointers. -/
namespace Go.Rs
def ordI (a b : Int) : Int := if b < a then 1 else if a < b then -1 else 0
theorem ordI_refl (a : Int) : ordI a a = 0 := by simp [ordI]
theorem ordI_zero {a b : Int} : ordI a b = 0 ↔ a = b := by unfold ordI; split <;> (try split) <;> omega
theorem cmpI_zero {a b : Bs} : cmpI a b = 0 ↔ a = b := by
  unfold cmpI
  cases h1 : ltS a b with
  | true => simp; exact ltS_ne h1
  | false =>
    cases h2 : ltS b a with
    | true => simp; exact fun e => ltS_ne h2 e.symm
    | false => simp; exact ltS_tri h1 h2
def cmpN : Nd → Nd → Int
  | ⟨k, m, t, ns, l⟩, b => if k = b.kind then (if m = b.num then (if t = b.text then go k l ns b.names b.kids else cmpI t b.text) else ordI m b.num) else ordI k b.kind
where go (k : Int) : List Nd → List Bs → List Bs → List Nd → Int
  | x :: l, n, n', y :: r => if k = 4 ∧ n.headD [] ≠ n'.headD [] then cmpI (n.headD []) (n'.headD []) else (if cmpN x y = 0 then go k l n.tail n'.tail r else cmpN x y)
  | l, _, _, r => ordI l.length r.length
theorem cmpN_eq (a b : Nd) : cmpN a b = if a.kind = b.kind then (if a.num = b.num then (if a.text = b.text then cmpN.go a.kind a.kids a.names b.names b.kids else cmpI a.text b.text) else ordI a.num b.num) else ordI a.kind b.kind := by
  cases a; rw [cmpN]
/-- From the i-th kid on. -/
def cmpK (a b : Nd) (i : Nat) : Int := cmpN.go a.kind (a.kids.drop i) (a.names.drop i) (b.names.drop i) (b.kids.drop i)
theorem headD_drop {l : List Bs} {i : Nat} : (l.drop i).headD [] = l.getD i [] := by
  rw [List.headD_eq_head?_getD, List.head?_drop, List.getD_eq_getElem?_getD]
theorem cmpK_step {a b : Nd} {i : Nat} (h1 : i < a.kids.length) (h2 : i < b.kids.length) : cmpK a b i =
    if a.kind = 4 ∧ a.names.getD i [] ≠ b.names.getD i [] then cmpI (a.names.getD i []) (b.names.getD i []) else (if cmpN (a.kids.getD i default) (b.kids.getD i default) = 0 then cmpK a b (i + 1) else cmpN (a.kids.getD i default) (b.kids.getD i default)) := by
  unfold cmpK
  rw [List.drop_eq_getElem_cons h1, List.drop_eq_getElem_cons h2, cmpN.go, headD_drop, headD_drop, List.tail_drop, List.tail_drop, getD_get h1, getD_get h2]
theorem cmpK_end {a b : Nd} {i : Nat} (h1 : i ≤ a.kids.length) (h2 : i ≤ b.kids.length) (h : i = a.kids.length ∨ i = b.kids.length) : cmpK a b i = ordI a.kids.length b.kids.length := by
  unfold cmpK
  have key : ∀ (k : Int) (l r : List Nd) (n n' : List Bs), l = [] ∨ r = [] → cmpN.go k l n n' r = ordI l.length r.length := by
    intro k l r n n' h
    cases l with
    | nil => rw [cmpN.go]; intro _ _ _ _ e; cases e
    | cons x l =>
      cases r with
      | nil => rw [cmpN.go]; intro _ _ _ _ _ e; cases e
      | cons y r => rcases h with h | h <;> cases h
  rw [key _ _ _ _ _ (by rcases h with h | h; exact .inl (by rw [h]; exact List.drop_length); exact .inr (by rw [h]; exact List.drop_length))]
  simp only [List.length_drop]
  unfold ordI
  split <;> split <;> (try split) <;> (try split) <;> omega
theorem cmpK_zero (a b : Nd) : cmpK a b 0 = cmpN.go a.kind a.kids a.names b.names b.kids := rfl
theorem cmpN_refl : ∀ n : Nd, cmpN n n = 0
  | ⟨k, m, t, ns, l⟩ => by
    rw [cmpN_eq]
    simp only [if_true]
    have hk : ∀ x ∈ l, cmpN x x = 0 := fun x hx => by
      have : SizeOf.sizeOf x < 1 + SizeOf.sizeOf k + SizeOf.sizeOf m + SizeOf.sizeOf t + SizeOf.sizeOf ns + SizeOf.sizeOf l := by have := List.sizeOf_lt_of_mem hx; omega
      exact cmpN_refl x
    have key : ∀ (l : List Nd) (n : List Bs), (∀ x ∈ l, cmpN x x = 0) → cmpN.go k l n n l = 0 := by
      intro l
      induction l with
      | nil => intro n _; rw [cmpN.go]; exact ordI_refl _; intro _ _ _ _ e; cases e
      | cons x l ih =>
        intro n h
        rw [cmpN.go, if_neg (by simp), if_pos (h x (by simp)), ih _ fun y hy => h y (by simp [hy])]
    exact key l ns hk
termination_by n => SizeOf.sizeOf n
theorem okN_default : okN default := ⟨1, by omega, by decide⟩
/-- The node at a pointer. -/
def findM : Nd → List Bs → Option Nd
  | n, [] => some n
  | n, s :: p => if placeM n s < 0 then none else findM (n.kids.getD (placeM n s).toNat default) p
theorem findM_drop {n : Nd} {p : List Bs} {i : Nat} (h : i < p.length) : findM n (p.drop i) = if placeM n (p.getD i []) < 0 then none else findM (n.kids.getD (placeM n (p.getD i [])).toNat default) (p.drop (i + 1)) := by
  rw [List.drop_eq_getElem_cons h, findM, getD_get h]
theorem findM_ok : ∀ {p : List Bs} {n m : Nd}, okN n → findM n p = some m → okN m
  | [], n, m, h, e => by cases e; exact h
  | s :: p, n, m, h, e => by
    rw [findM] at e
    split at e
    · cases e
    · have := (placeM_ge n s).2.1
      exact findM_ok (okN_kid h (by omega)) e
theorem depth_pos (n : Nd) : 0 < depthM n := by rw [depthM_eq]; omega
theorem maxN_ge {f : Nd → Nat} : ∀ {l : List Nd} {x : Nd}, x ∈ l → f x ≤ maxN f l
  | [], x, h => by cases h
  | y :: l, x, h => by
    have e : maxN f (y :: l) = Nat.max (f y) (maxN f l) ∨ maxN f (y :: l) = Nat.max (maxN f l) (f y) := by first | exact .inl rfl | exact .inr rfl
    rcases List.mem_cons.1 h with rfl | h
    · rcases e with e | e <;> rw [e] <;> simp only [Nat.max_def] <;> split <;> omega
    · have := maxN_ge (f := f) h
      rcases e with e | e <;> rw [e] <;> simp only [Nat.max_def] <;> split <;> omega
theorem depth_kid {n : Nd} {j : Nat} (h : j < n.kids.length) : depthM (n.kids.getD j default) + 1 ≤ depthM n := by
  rw [depthM_eq n]
  have := maxN_ge (f := depthM) (getD_mem (d := default) h)
  omega
end Go.Rs
end
section
/-! Plain models: parts of valid nodes are valid; filters and stores. -/
namespace Go.Rs
theorem shape_mono : ∀ {d : Nat} {n : Nd}, shapeM d n = true → shapeM (d + 1) n = true
  | 0, n, h => by obtain ⟨-, e, he⟩ := shape_parts h; omega
  | d + 1, n, h => by
    have h1 := (shape_parts h).1
    have h2 : ∀ x ∈ n.kids, shapeM d x = true := fun x hx => shape_kid h hx
    have e := shapeM_pos n (d := ((d + 2 : Nat) : Int)) (by omega)
    rw [Int.toNat_natCast] at e
    rw [e, h1, Bool.true_and, List.all_eq_true]
    intro x hx
    exact shape_mono (h2 x hx)
theorem shape_le {d e : Nat} {n : Nd} (h : shapeM d n = true) (hle : d ≤ e) : shapeM e n = true := by
  induction hle with
  | refl => exact h
  | step _ ih => exact shape_mono ih
theorem okN_shape {n : Nd} (h : okN n) : shapeM 5 n = true := by obtain ⟨d, hd, h⟩ := h; exact shape_le h hd
theorem validM_iff {n : Nd} : validM n = true ↔ okN n ∧ countM n ≤ 40 := by
  constructor
  · intro h
    refine ⟨validM_ok h, ?_⟩
    simp only [validM, Bool.and_eq_true, decide_eq_true_eq] at h
    exact h.2
  · rintro ⟨h1, h2⟩
    simp only [validM, okN_shape h1, Bool.true_and]; exact decide_eq_true h2
end Go.Rs
end
section
/-! Plain models: documents selected. -/
namespace Go.Rs
theorem storeM_node {s : Sto} (h : storeM s = true) {i : Nat} (hi : i < s.items.length) : validM (s.items.getD i default).node = true := by
  have := (storeM_iff.1 h).2.2.1 _ (getD_mem (d := default) hi)
  exact this.2.1
end Go.Rs
end
section
/-! Plain models: nodes with another node at a pointer, and without one. -/
namespace Go.Rs
def setAtM : Nd → List Bs → Nd → Option Nd
  | _, [], v => some v
  | n, s :: p, v => if placeM n s < 0 then none else (setAtM (n.kids.getD (placeM n s).toNat default) p v).map (withKidM n (placeM n s).toNat)
theorem withKidM_sm {n x : Nd} {i : Nat} (h : smN n) (hx : smN x) : smN (withKidM n i x) := by
  unfold withKidM
  refine smN_mk h.text h.names (by simp; exact h.kids) fun y hy => ?_
  rcases List.mem_or_eq_of_mem_set hy with h1 | rfl
  · exact h.mem h1
  · exact hx
theorem setAtM_sm : ∀ {p : List Bs} {n v m : Nd}, smN n → smN v → setAtM n p v = some m → smN m
  | [], n, v, m, _, hv, e => by cases e; exact hv
  | s :: p, n, v, m, hn, hv, e => by
    rw [setAtM] at e
    split at e
    · cases e
    · rename_i h
      have hp := (placeM_ge n s).2.1
      have hk : smN (n.kids.getD (placeM n s).toNat default) := hn.kid (by omega)
      cases hs : setAtM (n.kids.getD (placeM n s).toNat default) p v with
      | none => rw [hs] at e; cases e
      | some k => rw [hs] at e; cases e; exact withKidM_sm hn (setAtM_sm hk hv hs)
theorem setAtM_at {n x : Nd} {p : List Bs} (h : 0 < p.length) : setAtM n p x = if placeM n (p.getD 0 []) < 0 then none else (setAtM (n.kids.getD (placeM n (p.getD 0 [])).toNat default) (p.drop 1) x).map (withKidM n (placeM n (p.getD 0 [])).toNat) := by
  cases p with
  | nil => simp at h
  | cons s p => rfl
theorem setAtM_get_sm {n v : Nd} {p : List Bs} (hn : smN n) (hv : smN v) : smN ((setAtM n p v).getD default) := by
  cases h : setAtM n p v with
  | none => exact smN_default
  | some m => exact setAtM_sm hn hv h
def lastD (p : List Bs) : Bs := p.getD (p.length - 1) []
def addAtM (n : Nd) (p : List Bs) (v : Nd) : Option Nd :=
  if p = [] then some v else
  match findM n (p.take (p.length - 1)) with
  | none => none
  | some m => match addHereM m (lastD p) v with
    | none => none
    | some x => setAtM n (p.take (p.length - 1)) x
/-- A list without one place. -/
def outM {α : Type} (l : List α) (i : Nat) : List α := l.take i ++ l.drop (i + 1)
def withoutM (m : Nd) (i : Nat) : Nd := ⟨m.kind, 0, [], if m.kind = 4 then outM m.names i else [], outM m.kids i⟩
def removeAtM (n : Nd) (p : List Bs) : Option Nd :=
  if p = [] then none else
  match findM n (p.take (p.length - 1)) with
  | none => none
  | some m => if placeM m (lastD p) < 0 then none else setAtM n (p.take (p.length - 1)) (withoutM m (placeM m (lastD p)).toNat)
theorem okN_even {n : Nd} (h : okN n) : evenN n := (okN_names h).2.1
theorem withoutM_sm {m : Nd} {i : Nat} (h : smN m) : smN (withoutM m i) := by
  unfold withoutM outM
  have h2 := h.names
  have h3 := h.kids
  refine smN_mk (by simp) ?_ (by simp; omega) fun y hy => ?_
  · split <;> simp; omega
  · rcases List.mem_append.1 hy with h1 | h1
    · exact h.mem (List.mem_of_mem_take h1)
    · exact h.mem (List.mem_of_mem_drop h1)
theorem front_eq (p : List Bs) : List.drop (Int.toNat 0) (List.take ((p.length : Int) - 1).toNat p) = p.take (p.length - 1) := by
  have : ((p.length : Int) - 1).toNat = p.length - 1 := by omega
  rw [this]; simp
theorem find_get_ok {n : Nd} (h : okN n) (p : List Bs) : okN ((findM n p).getD default) := by
  cases e : findM n p with
  | none => exact okN_default
  | some m => exact findM_ok h e
theorem here_get_sm {n x : Nd} (h : okN n) (hx : smN x) (b : Bs) : smN ((addHereM n b x).getD default) := by
  cases e : addHereM n b x with
  | none => exact smN_default
  | some m => exact addHereM_sm (okN_even h) e h.sm hx (by have := okN_kids h; omega) (by have := okN_names h; omega)
theorem removeAtM_at {n : Nd} {p : List Bs} {r : Option Nd} (hp : p ≠ []) (hr : r = findM n (p.take (p.length - 1))) (hs : r.isSome = true) (h0 : 0 ≤ placeM (r.getD default) (p.getD (p.length - 1) [])) :
    removeAtM n p = setAtM n (p.take (p.length - 1)) (withoutM (r.getD default) (placeM (r.getD default) (p.getD (p.length - 1) [])).toNat) := by
  obtain ⟨m, rfl⟩ := Option.isSome_iff_exists.1 hs
  unfold removeAtM
  rw [if_neg hp, ← hr]
  simp only [Option.getD_some] at h0 ⊢
  exact if_neg (by show ¬ placeM m (p.getD (p.length - 1) []) < 0; omega)
end Go.Rs
end
