import Derived.Test.YtahppankhidkeaaDoorM11
set_option linter.all false
section
/-! Plain models: the order of nodes, names searched, nodes at pointers. -/
namespace Go.Rs
def ordI (a b : Int) : Int := if b < a then 1 else if a < b then -1 else 0
theorem ordI_refl (a : Int) : ordI a a = 0 := by simp [ordI]
theorem ordI_zero {a b : Int} : ordI a b = 0 ↔ a = b := by unfold ordI; split <;> (try split) <;> omega
theorem cmpI_refl (a : Bs) : cmpI a a = 0 := by simp [cmpI, ltS_irrefl]
theorem cmpI_zero {a b : Bs} : cmpI a b = 0 ↔ a = b := by
  unfold cmpI
  cases h1 : ltS a b with
  | true => simp; exact ltS_ne h1
  | false =>
    cases h2 : ltS b a with
    | true => simp; exact fun e => ltS_ne h2 e.symm
    | false => simp; exact ltS_tri h1 h2
theorem cmpI_rng (a b : Bs) : -1 ≤ cmpI a b ∧ cmpI a b ≤ 1 := by unfold cmpI; split <;> (try split) <;> omega
theorem ordI_rng (a b : Int) : -1 ≤ ordI a b ∧ ordI a b ≤ 1 := by unfold ordI; split <;> (try split) <;> omega
def cmpN : Nd → Nd → Int
  | ⟨k, m, t, ns, l⟩, b => if k = b.kind then (if m = b.num then (if t = b.text then go k l ns b.names b.kids else cmpI t b.text) else ordI m b.num) else ordI k b.kind
where go (k : Int) : List Nd → List Bs → List Bs → List Nd → Int
  | x :: l, n, n', y :: r => if k = 4 ∧ n.headD [] ≠ n'.headD [] then cmpI (n.headD []) (n'.headD []) else (if cmpN x y = 0 then go k l n.tail n'.tail r else cmpN x y)
  | l, _, _, r => ordI l.length r.length
theorem cmpN_eq (a b : Nd) : cmpN a b = if a.kind = b.kind then (if a.num = b.num then (if a.text = b.text then cmpN.go a.kind a.kids a.names b.names b.kids else cmpI a.text b.text) else ordI a.num b.num) else ordI a.kind b.kind := by
  cases a; rw [cmpN]
/-- From the i-th kid on. -/
def cmpK (a b : Nd) (i : Nat) : Int := cmpN.go a.kind (a.kids.drop i) (a.names.drop i) (b.names.drop i) (b.kids.drop i)
theorem headD_drop {l : List Bs} {i : Nat} : (l.drop i).headD [] = l.getD i [] := by
  rw [List.headD_eq_head?_getD, List.head?_drop, List.getD_eq_getElem?_getD]
theorem cmpK_step {a b : Nd} {i : Nat} (h1 : i < a.kids.length) (h2 : i < b.kids.length) : cmpK a b i =
    if a.kind = 4 ∧ a.names.getD i [] ≠ b.names.getD i [] then cmpI (a.names.getD i []) (b.names.getD i []) else (if cmpN (a.kids.getD i default) (b.kids.getD i default) = 0 then cmpK a b (i + 1) else cmpN (a.kids.getD i default) (b.kids.getD i default)) := by
  unfold cmpK
  rw [List.drop_eq_getElem_cons h1, List.drop_eq_getElem_cons h2, cmpN.go, headD_drop, headD_drop, List.tail_drop, List.tail_drop, getD_get h1, getD_get h2]
theorem cmpK_end {a b : Nd} {i : Nat} (h1 : i ≤ a.kids.length) (h2 : i ≤ b.kids.length) (h : i = a.kids.length ∨ i = b.kids.length) : cmpK a b i = ordI a.kids.length b.kids.length := by
  unfold cmpK
  have key : ∀ (k : Int) (l r : List Nd) (n n' : List Bs), l = [] ∨ r = [] → cmpN.go k l n n' r = ordI l.length r.length := by
    intro k l r n n' h
    cases l with
    | nil => rw [cmpN.go]; intro _ _ _ _ e; cases e
    | cons x l =>
      cases r with
      | nil => rw [cmpN.go]; intro _ _ _ _ _ e; cases e
      | cons y r => rcases h with h | h <;> cases h
  rw [key _ _ _ _ _ (by rcases h with h | h; exact .inl (by rw [h]; exact List.drop_length); exact .inr (by rw [h]; exact List.drop_length))]
  simp only [List.length_drop]
  unfold ordI
  split <;> split <;> (try split) <;> (try split) <;> omega
theorem cmpK_zero (a b : Nd) : cmpK a b 0 = cmpN.go a.kind a.kids a.names b.names b.kids := rfl
theorem cmpN_refl : ∀ n : Nd, cmpN n n = 0
  | ⟨k, m, t, ns, l⟩ => by
    rw [cmpN_eq]
    simp only [if_true]
    have hk : ∀ x ∈ l, cmpN x x = 0 := fun x hx => by
      have : SizeOf.sizeOf x < 1 + SizeOf.sizeOf k + SizeOf.sizeOf m + SizeOf.sizeOf t + SizeOf.sizeOf ns + SizeOf.sizeOf l := by have := List.sizeOf_lt_of_mem hx; omega
      exact cmpN_refl x
    have key : ∀ (l : List Nd) (n : List Bs), (∀ x ∈ l, cmpN x x = 0) → cmpN.go k l n n l = 0 := by
      intro l
      induction l with
      | nil => intro n _; rw [cmpN.go]; exact ordI_refl _; intro _ _ _ _ e; cases e
      | cons x l ih =>
        intro n h
        rw [cmpN.go, if_neg (by simp), if_pos (h x (by simp)), ih _ fun y hy => h y (by simp [hy])]
    exact key l ns hk
termination_by n => SizeOf.sizeOf n
theorem okN_default : okN default := ⟨1, by omega, by decide⟩
/-- Names, as documents. -/
def nmI (l : List Bs) : List It := l.map fun x => ⟨x, 0, default⟩
theorem nmI_len (l : List Bs) : (nmI l).length = l.length := by simp [nmI]
theorem nmI_get (l : List Bs) (j : Nat) : ((nmI l).getD j default).name = l.getD j [] := by
  unfold nmI
  rw [List.getD_eq_getElem?_getD, List.getD_eq_getElem?_getD, List.getElem?_map]
  cases l[j]? <;> rfl
theorem names_sorted {l : List Bs} (h : namesM l = true) : sortedI (nmI l) := by
  have hadj : ∀ j, 0 < j → j < l.length → ltS (l.getD (j - 1) []) (l.getD j []) = true := fun j h0 hj => by
    have := (namesM_iff l).1 h j hj
    simp only [nameOk, Bool.and_eq_true, Bool.or_eq_true, decide_eq_true_eq] at this
    rcases this.2 with h | h
    · omega
    · exact h
  intro i j hij hj
  rw [nmI_len] at hj
  rw [nmI_get, nmI_get]
  induction j with
  | zero => omega
  | succ j ih =>
    have h1 := hadj (j + 1) (by omega) hj
    rw [Nat.add_sub_cancel] at h1
    rcases Nat.lt_or_eq_of_le (Nat.le_of_lt_succ hij) with h | h
    · exact ltS_trans (ih h (by omega)) h1
    · subst h; exact h1
theorem okN_sorted {n : Nd} (h : okN n) (hk : n.kind = 4) : sortedI (nmI n.names) := by
  have := okN_parts h
  refine names_sorted ?_
  simp only [partsM] at this
  grind [areNamesM]
def kidM (n : Nd) (b : Bs) : Int × Bool :=
  if n.kind = 4 then ((lbI (nmI n.names) b : Int), foundI (nmI n.names) b) else if placeM n b < 0 then (0, false) else (placeM n b, true)
theorem kid_map {n : Nd} {b : Bs} (h : okN n) (hk : n.kind = 4) : foundI (nmI n.names) b = !decide (placeM n b < 0) ∧ (foundI (nmI n.names) b = true → placeM n b = lbI (nmI n.names) b) := by
  have hs := ascI_sorted.2 (okN_sorted h hk)
  have hl := (okN_names h).2.1 hk
  cases hf : foundI (nmI n.names) b with
  | true =>
    have h1 : lbI (nmI n.names) b < (nmI n.names).length ∧ ((nmI n.names).getD (lbI (nmI n.names) b) default).name = b := by simp only [foundI, Bool.and_eq_true, decide_eq_true_eq] at hf; exact hf
    have hp : placeM n b = lbI (nmI n.names) b := by
      refine placeM_at (by rw [← hl, ← nmI_len]; exact h1.1) (hitM_iff.2 (.inl ⟨hk, by rw [← nmI_get]; exact h1.2⟩)) fun j hj => ?_
      refine hitM_no ⟨fun _ e => ?_, fun h3 => by omega⟩
      have h2 := lbI_lt hj
      rw [nmI_get, e] at h2
      rw [ltS_irrefl] at h2; cases h2
    exact ⟨by rw [hp]; simp, fun _ => hp⟩
  | false =>
    have hp : placeM n b = -1 := by
      refine placeM_none fun j hj => hitM_no ⟨fun _ e => ?_, fun h3 => by omega⟩
      have h1 := lookI_found (b := b) hs
      rw [hf, if_neg (by simp)] at h1
      unfold lookI at h1
      rw [List.find?_eq_none] at h1
      have hjn : j < (nmI n.names).length := by rw [nmI_len, hl]; exact hj
      have := h1 ((nmI n.names).getD j default) (getD_mem hjn)
      rw [nmI_get, e] at this
      simp at this
    exact ⟨by rw [hp]; simp, fun h => by cases h⟩
theorem kidM_ok {n : Nd} {b : Bs} (h : okN n) : (kidM n b).2 = !decide (placeM n b < 0) ∧ ((kidM n b).2 = true → (kidM n b).1 = placeM n b) := by
  unfold kidM
  split
  · rename_i hk
    have := kid_map (b := b) h hk
    exact ⟨this.1, fun h => (this.2 h).symm⟩
  · split
    · rename_i hp; exact ⟨by simp [hp], fun h => by cases h⟩
    · rename_i hp; exact ⟨by simp [hp], fun _ => rfl⟩
/-- The node at a pointer. -/
def findM : Nd → List Bs → Option Nd
  | n, [] => some n
  | n, s :: p => if placeM n s < 0 then none else findM (n.kids.getD (placeM n s).toNat default) p
theorem findM_drop {n : Nd} {p : List Bs} {i : Nat} (h : i < p.length) : findM n (p.drop i) = if placeM n (p.getD i []) < 0 then none else findM (n.kids.getD (placeM n (p.getD i [])).toNat default) (p.drop (i + 1)) := by
  rw [List.drop_eq_getElem_cons h, findM, getD_get h]
theorem findM_ok : ∀ {p : List Bs} {n m : Nd}, okN n → findM n p = some m → okN m
  | [], n, m, h, e => by cases e; exact h
  | s :: p, n, m, h, e => by
    rw [findM] at e
    split at e
    · cases e
    · have := (placeM_ge n s).2.1
      exact findM_ok (okN_kid h (by omega)) e
def pathM (p : List Bs) : Bool := decide (p.length ≤ 5) && p.all txtM
theorem allB_iff (l : List Bs) (p : Bs → Bool) : l.all p = true ↔ ∀ j, j < l.length → p (l.getD j []) = true := by
  rw [List.all_eq_true]
  exact ⟨fun h j hj => h _ (getD_mem hj), fun h x hx => by obtain ⟨j, hj, rfl⟩ := List.mem_iff_getElem.1 hx; rw [← getD_get hj []]; exact h j hj⟩
theorem allB_no {s : List Bs} {p : Bs → Bool} {j : Nat} (hj : j < s.length) (h : p (s.getD j []) = false) : s.all p = false := by
  rw [Bool.eq_false_iff]; intro e; rw [(allB_iff s p).1 e j hj] at h; cases h
def nodeAtM (n : Nd) (p : List Bs) : Option Nd := if validM n && pathM p then findM n p else none
def filterM (f : Flt) : Bool := pathM f.path && (decide (0 ≤ f.test) && decide (f.test ≤ 3)) && validM f.value
def testM (t : Int) (a b : Nd) : Bool := if t = 1 then decide (cmpN a b = 0) else if t = 2 then decide (cmpN a b < 0) else if t = 3 then decide (0 < cmpN a b) else true
def matchesM (n : Nd) (f : Flt) : Bool := match findM n f.path with
  | some m => testM f.test m f.value
  | none => false
def matchM (n : Nd) (f : Flt) : Bool := validM n && filterM f && matchesM n f
theorem depth_pos (n : Nd) : 0 < depthM n := by rw [depthM_eq]; omega
theorem maxN_ge {f : Nd → Nat} : ∀ {l : List Nd} {x : Nd}, x ∈ l → f x ≤ maxN f l
  | [], x, h => by cases h
  | y :: l, x, h => by
    have e : maxN f (y :: l) = Nat.max (f y) (maxN f l) ∨ maxN f (y :: l) = Nat.max (maxN f l) (f y) := by first | exact .inl rfl | exact .inr rfl
    rcases List.mem_cons.1 h with rfl | h
    · rcases e with e | e <;> rw [e] <;> simp only [Nat.max_def] <;> split <;> omega
    · have := maxN_ge (f := f) h
      rcases e with e | e <;> rw [e] <;> simp only [Nat.max_def] <;> split <;> omega
theorem depth_kid {n : Nd} {j : Nat} (h : j < n.kids.length) : depthM (n.kids.getD j default) + 1 ≤ depthM n := by
  rw [depthM_eq n]
  have := maxN_ge (f := depthM) (getD_mem (d := default) h)
  omega
theorem cmpN_rng : ∀ a b : Nd, -1 ≤ cmpN a b ∧ cmpN a b ≤ 1
  | ⟨k, m, t, ns, l⟩, b => by
    rw [cmpN_eq]
    have hk : ∀ x ∈ l, ∀ y, -1 ≤ cmpN x y ∧ cmpN x y ≤ 1 := fun x hx y => by
      have : SizeOf.sizeOf x < 1 + SizeOf.sizeOf k + SizeOf.sizeOf m + SizeOf.sizeOf t + SizeOf.sizeOf ns + SizeOf.sizeOf l := by have := List.sizeOf_lt_of_mem hx; omega
      exact cmpN_rng x y
    have key : ∀ (l : List Nd) (n n' : List Bs) (r : List Nd), (∀ x ∈ l, ∀ y, -1 ≤ cmpN x y ∧ cmpN x y ≤ 1) → -1 ≤ cmpN.go k l n n' r ∧ cmpN.go k l n n' r ≤ 1 := by
      intro l
      induction l with
      | nil => intro n n' r _; rw [cmpN.go]; exact ordI_rng _ _; intro _ _ _ _ e; cases e
      | cons x l ih =>
        intro n n' r h
        cases r with
        | nil => rw [cmpN.go]; exact ordI_rng _ _; intro _ _ _ _ _ e; cases e
        | cons y r =>
          rw [cmpN.go]
          split
          · exact cmpI_rng _ _
          · split
            · exact ih _ _ _ fun z hz => h z (by simp [hz])
            · exact h x (by simp) y
    split
    · split
      · split
        · exact key _ _ _ _ hk
        · exact cmpI_rng _ _
      · exact ordI_rng _ _
    · exact ordI_rng _ _
termination_by a => SizeOf.sizeOf a
end Go.Rs
end
