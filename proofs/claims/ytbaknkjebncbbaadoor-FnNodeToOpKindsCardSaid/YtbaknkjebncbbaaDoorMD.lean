import Derived.Test.YtbaknkjebncbbaaDoorMC
set_option linter.all false
section
/-! Plain models: how many operations lead from a node to another one. -/
namespace Go.Rs
end Go.Rs
end
section
/-! Plain laws: no operation leads from a node to an equal one; differences of maps are at least those of their names. -/
namespace Go.Rs
theorem okN_bare {n : Nd} (h : okN n) : (n.kind ≠ 1 → n.num = 0) ∧ (n.kind ≠ 2 → n.text = []) := by
  have := okN_parts h
  unfold partsM at this
  split at this
  · cases this
  · rename_i h1
    exact ⟨fun h => Classical.not_not.1 fun e => h1 (.inl ⟨h, e⟩), fun h => Classical.not_not.1 fun e => h1 (.inr (.inl ⟨h, e⟩))⟩
theorem nd_same {a b : Nd} (h1 : a.kind = b.kind) (h2 : a.num = b.num) (h3 : a.text = b.text) (h4 : a.names = b.names) (h5 : a.kids = b.kids) : a = b := by
  cases a; cases b; simp only at h1 h2 h3 h4 h5; subst h1; subst h2; subst h3; subst h4; subst h5; rfl
end Go.Rs
end
section
/-! Plain models: shapes. -/
namespace Go.Rs
def topS (x : Sh) : Bool := decide (0 ≤ x.kind) && decide (x.kind ≤ 4) && areNamesM x.names && (decide (x.names.length = 0) || decide (x.kind = 4)) && decide (x.needs.length = x.names.length) && decide (x.kids.length = x.names.length)
def shpM : Nat → Sh → Bool
  | 0, _ => false
  | d + 1, x => topS x && x.kids.all (shpM d)
theorem allS_iff (l : List Sh) (p : Sh → Bool) : l.all p = true ↔ ∀ j, j < l.length → p (l.getD j default) = true := by
  rw [List.all_eq_true]
  exact ⟨fun h j hj => h _ (getD_mem hj), fun h x hx => by obtain ⟨j, hj, rfl⟩ := List.mem_iff_getElem.1 hx; rw [← getD_get hj default]; exact h j hj⟩
theorem allS_no {s : List Sh} {p : Sh → Bool} {j : Nat} (hj : j < s.length) (h : p (s.getD j default) = false) : s.all p = false := by
  rw [Bool.eq_false_iff]; intro e; rw [(allS_iff s p).1 e j hj] at h; cases h
theorem shp_top {d : Nat} {x : Sh} (h : shpM d x = true) : topS x = true ∧ ∃ e, d = e + 1 := by
  cases d with
  | zero => cases h
  | succ d => simp only [shpM, Bool.and_eq_true] at h; exact ⟨h.1, d, rfl⟩
theorem shp_kid {d : Nat} {x : Sh} (h : shpM (d + 1) x = true) {j : Nat} (hj : j < x.kids.length) : shpM d (x.kids.getD j default) = true := by
  simp only [shpM, Bool.and_eq_true] at h
  exact (allS_iff _ _).1 h.2 j hj
theorem top_facts {x : Sh} (h : topS x = true) : (0 ≤ x.kind ∧ x.kind ≤ 4) ∧ areNamesM x.names = true ∧ x.names.length ≤ 6 ∧ (x.names.length = 0 ∨ x.kind = 4) ∧ x.needs.length = x.names.length ∧ x.kids.length = x.names.length := by
  simp only [topS, Bool.and_eq_true, Bool.or_eq_true, decide_eq_true_eq] at h
  refine ⟨⟨h.1.1.1.1.1, h.1.1.1.1.2⟩, h.1.1.1.2, ?_, h.1.1.2, h.1.2, h.2⟩
  have := h.1.1.1.2
  simp only [areNamesM, Bool.and_eq_true, decide_eq_true_eq] at this
  exact this.1
def okS (x : Sh) : Prop := ∃ d, d ≤ 5 ∧ shpM d x = true
theorem okS_kid {x : Sh} (h : okS x) {j : Nat} (hj : j < x.kids.length) : okS (x.kids.getD j default) := by
  obtain ⟨d, hd, h⟩ := h
  obtain ⟨-, e, rfl⟩ := shp_top h
  exact ⟨e, by omega, shp_kid h hj⟩
theorem okS_top {x : Sh} (h : okS x) : topS x = true := by obtain ⟨d, hd, h⟩ := h; exact (shp_top h).1
theorem kidS_size {x : Sh} {j : Nat} (h : j < x.kids.length) : SizeOf.sizeOf (x.kids.getD j default) < SizeOf.sizeOf x := by
  have h1 : x.kids[j] ∈ x.kids := List.getElem_mem h
  have h2 := List.sizeOf_lt_of_mem h1
  rw [getD_get h]
  cases x
  simp only [Sh.mk.sizeOf_spec] at *
  omega
/-- Where a node does not fit a shape. -/
def misM : Sh → Nd → Option (List Bs)
  | ⟨k, names, needs, kids⟩, n => if k = 0 then none else if k = n.kind then go n names needs kids else some []
where go (n : Nd) : List Bs → List Bool → List Sh → Option (List Bs)
  | nm :: ns, b :: bs, x :: xs =>
    if placeM n nm < 0 then (if b then some [nm] else go n ns bs xs)
    else match misM x (n.kids.getD (placeM n nm).toNat default) with
      | some p => some (nm :: p)
      | none => go n ns bs xs
  | _, _, _ => none
theorem misM_eq (x : Sh) (n : Nd) : misM x n = if x.kind = 0 then none else if x.kind = n.kind then misM.go n x.names x.needs x.kids else some [] := by
  cases x; rw [misM]
def misK (x : Sh) (n : Nd) (i : Nat) : Option (List Bs) := misM.go n (x.names.drop i) (x.needs.drop i) (x.kids.drop i)
theorem misK_step {x : Sh} {n : Nd} {i : Nat} (h1 : i < x.names.length) (h2 : x.needs.length = x.names.length) (h3 : x.kids.length = x.names.length) :
    misK x n i = if placeM n (x.names.getD i []) < 0 then (if x.needs.getD i false then some [x.names.getD i []] else misK x n (i + 1))
      else match misM (x.kids.getD i default) (n.kids.getD (placeM n (x.names.getD i [])).toNat default) with
        | some p => some (x.names.getD i [] :: p)
        | none => misK x n (i + 1) := by
  unfold misK
  rw [List.drop_eq_getElem_cons h1, List.drop_eq_getElem_cons (by omega : i < x.needs.length), List.drop_eq_getElem_cons (by omega : i < x.kids.length), misM.go]
  rw [getD_get h1, getD_get (by omega : i < x.needs.length), getD_get (by omega : i < x.kids.length)]
theorem misK_end {x : Sh} {n : Nd} {i : Nat} (h : x.names.length ≤ i) : misK x n i = none := by
  unfold misK
  rw [List.drop_of_length_le h, misM.go]
  intro _ _ _ _ _ _ e; cases e
theorem misK_zero (x : Sh) (n : Nd) : misK x n 0 = misM.go n x.names x.needs x.kids := rfl
/-- Paths are no longer than shapes are deep. -/
theorem mis_len : ∀ (d : Nat) {x : Sh} {n : Nd} {p : List Bs}, shpM d x = true → misM x n = some p → p.length ≤ d
  | 0, x, n, p, h, _ => by cases h
  | d + 1, x, n, p, h, hp => by
    rw [misM_eq] at hp
    split at hp
    · cases hp
    split at hp
    · have ht := top_facts (shp_top h).1
      have key : ∀ i p, misK x n i = some p → p.length ≤ d + 1 := by
        have : ∀ k i p, i + k = x.names.length → misK x n i = some p → p.length ≤ d + 1 := by
          intro k
          induction k with
          | zero => intro i p hi hp; rw [misK_end (by omega)] at hp; cases hp
          | succ k ih =>
            intro i p hi hp
            rw [misK_step (by omega) ht.2.2.2.2.1 ht.2.2.2.2.2] at hp
            split at hp
            · split at hp
              · cases hp; simp
              · exact ih (i + 1) p (by omega) hp
            · split at hp
              · rename_i q hq
                cases hp
                have := mis_len d (shp_kid h (by omega)) hq
                simp; omega
              · exact ih (i + 1) p (by omega) hp
        intro i p hp
        rcases Nat.lt_or_ge i x.names.length with hi | hi
        · exact this (x.names.length - i) i p (by omega) hp
        · rw [misK_end hi] at hp; cases hp
      exact key 0 p hp
    · cases hp; simp
theorem mis_five {x : Sh} {n : Nd} (h : okS x) : ((misM x n).getD []).length ≤ 5 := by
  obtain ⟨d, hd, h⟩ := h
  cases hm : misM x n with
  | none => simp
  | some p => have := mis_len d h hm; simp; omega
def validS (x : Sh) : Bool := shpM 5 x
theorem validS_ok {x : Sh} (h : validS x = true) : okS x := ⟨5, Nat.le_refl _, h⟩
end Go.Rs
end
section
/-! Plain models: maps as rows of documents; a name put in, a name taken out. -/
namespace Go.Rs
def zipI : List Bs → List Nd → List It
  | b :: ns, x :: xs => ⟨b, 0, x⟩ :: zipI ns xs
  | _, _ => []
theorem zip_names : ∀ {ns : List Bs} {ks : List Nd}, ns.length = ks.length → (zipI ns ks).map (·.name) = ns
  | [], [], _ => rfl
  | b :: ns, x :: ks, h => by simp only [zipI, List.map_cons]; rw [zip_names (by simpa using h)]
  | [], _ :: _, h => by simp at h
  | _ :: _, [], h => by simp at h
theorem zip_nodes : ∀ {ns : List Bs} {ks : List Nd}, ns.length = ks.length → (zipI ns ks).map (·.node) = ks
  | [], [], _ => rfl
  | b :: ns, x :: ks, h => by simp only [zipI, List.map_cons]; rw [zip_nodes (by simpa using h)]
  | [], _ :: _, h => by simp at h
  | _ :: _, [], h => by simp at h
theorem zip_len {ns : List Bs} {ks : List Nd} (h : ns.length = ks.length) : (zipI ns ks).length = ns.length := by
  have := congrArg List.length (zip_names h); simpa using this
theorem zip_v0 : ∀ (ns : List Bs) (ks : List Nd), ∀ x ∈ zipI ns ks, x.version = 0
  | b :: ns, y :: ks, x, h => by
    simp only [zipI, List.mem_cons] at h
    rcases h with rfl | h
    · rfl
    · exact zip_v0 ns ks x h
  | [], _, x, h => by simp [zipI] at h
  | _ :: _, [], x, h => by simp [zipI] at h
theorem zip_back : ∀ {l : List It}, (∀ x ∈ l, x.version = 0) → zipI (l.map (·.name)) (l.map (·.node)) = l
  | [], _ => rfl
  | x :: l, h => by
    simp only [List.map_cons, zipI]
    rw [zip_back fun y hy => h y (by simp [hy])]
    have := h x (by simp)
    cases x; simp only at this; subst this; rfl
theorem lb_names : ∀ (l : List It) (b : Bs), lbI (nmI (l.map (·.name))) b = lbI l b
  | [], b => rfl
  | x :: l, b => by
    have := lb_names l b
    simp only [List.map_cons, nmI] at this ⊢
    rw [lbI_cons, lbI_cons, this]
theorem nm_get (l : List It) (j : Nat) : ((nmI (l.map (·.name))).getD j default).name = (l.getD j default).name := by
  rw [nmI_get]
  simp only [List.getD_eq_getElem?_getD, List.getElem?_map]
  cases l[j]? <;> rfl
theorem found_names (l : List It) (b : Bs) : foundI (nmI (l.map (·.name))) b = foundI l b := by
  unfold foundI
  rw [lb_names, nmI_len, List.length_map, nm_get]
theorem asc_nm (l : List It) : ascI (nmI (l.map (·.name))) ↔ ascI l := by
  unfold ascI nmI
  rw [List.map_map, List.pairwise_map]
  exact Iff.rfl
theorem sorted_nm {l : List It} : sortedI (nmI (l.map (·.name))) ↔ ascI l := by rw [← ascI_sorted]; exact asc_nm l
/-- What putting does to the two rows. -/
theorem put_rows {ns : List Bs} {ks : List Nd} {b : Bs} {x : Nd} (h : ns.length = ks.length) (hs : sortedI (nmI ns)) :
    (foundI (nmI ns) b = true → (putL (zipI ns ks) ⟨b, 0, x⟩).map (·.name) = ns ∧ (putL (zipI ns ks) ⟨b, 0, x⟩).map (·.node) = ks.set (lbI (nmI ns) b) x) ∧
    (foundI (nmI ns) b = false → (putL (zipI ns ks) ⟨b, 0, x⟩).map (·.name) = ns.take (lbI (nmI ns) b) ++ [b] ++ ns.drop (lbI (nmI ns) b) ∧ (putL (zipI ns ks) ⟨b, 0, x⟩).map (·.node) = ks.take (lbI (nmI ns) b) ++ [x] ++ ks.drop (lbI (nmI ns) b)) := by
  obtain ⟨l, hl⟩ : ∃ l, l = zipI ns ks := ⟨_, rfl⟩
  have e1 : l.map (·.name) = ns := by rw [hl]; exact zip_names h
  have e2 : l.map (·.node) = ks := by rw [hl]; exact zip_nodes h
  rw [← hl]
  rw [← e1] at hs ⊢
  rw [← e2]
  have ha := sorted_nm.1 hs
  rw [found_names, lb_names]
  constructor
  · intro hf
    rw [putL_found ha hf]
    refine ⟨?_, by rw [List.map_set]⟩
    rw [List.map_set]
    simp only [foundI, Bool.and_eq_true, decide_eq_true_eq] at hf
    apply List.ext_getElem (by simp)
    intro i h1 h2
    rw [List.getElem_set]
    split
    · rename_i e
      subst e
      have := hf.2
      rw [getD_get (by simpa using h2)] at this
      simp only [List.getElem_map]
      exact this.symm
    · rfl
  · intro hf
    rw [putL_new ha hf]
    simp
theorem found_lt {ns : List Bs} {b : Bs} (h : foundI (nmI ns) b = true) : lbI (nmI ns) b < ns.length := by
  simp only [foundI, Bool.and_eq_true, decide_eq_true_eq] at h
  rw [← nmI_len]; exact h.1
theorem lb_le (ns : List Bs) (b : Bs) : lbI (nmI ns) b ≤ ns.length := by have := lbI_le (nmI ns) b; rwa [nmI_len] at this
end Go.Rs
end
section
/-! Plain models: a node merged with a patch. -/
namespace Go.Rs
def zeroN : Nd := ⟨0, 0, [], [], []⟩
def kidOf (l : List It) (b : Bs) : Nd := match lookI l b with
  | some it => it.node
  | none => zeroN
def ndOf (l : List It) : Nd := ⟨4, 0, [], l.map (·.name), l.map (·.node)⟩
def baseI (n : Nd) : List It := if n.kind = 4 then zipI n.names n.kids else []
theorem base_facts {n : Nd} (h : okN n) : ascI (baseI n) ∧ (∀ x ∈ baseI n, x.version = 0) ∧ (baseI n).length ≤ 6 ∧ (n.kind = 4 → (baseI n).map (·.name) = n.names ∧ (baseI n).map (·.node) = n.kids) := by
  unfold baseI
  by_cases hk : n.kind = 4
  · have hl := (okN_names h).2.1 hk
    rw [if_pos hk]
    refine ⟨?_, zip_v0 _ _, by rw [zip_len hl]; exact (okN_names h).1, fun _ => ⟨zip_names hl, zip_nodes hl⟩⟩
    have := okN_sorted h hk
    rw [← zip_names hl, sorted_nm] at this
    exact this
  · rw [if_neg hk]
    exact ⟨List.Pairwise.nil, by simp, by simp, fun h => absurd h hk⟩
theorem put_asc {l : List It} {it : It} (h : ascI l) : ascI (putL l it) := putL_asc h
theorem kid_found {l : List It} {b : Bs} (h : ascI l) : (foundI (nmI (l.map (·.name))) b = true → (l.map (·.node)).getD (lbI (nmI (l.map (·.name))) b) default = kidOf l b) ∧ (foundI (nmI (l.map (·.name))) b = false → kidOf l b = zeroN) := by
  rw [found_names, lb_names]
  unfold kidOf
  rw [lookI_found h]
  constructor
  · intro hf
    rw [if_pos hf]
    have : lbI l b < l.length := by simp only [foundI, Bool.and_eq_true, decide_eq_true_eq] at hf; exact hf.1
    simp [List.getD_eq_getElem?_getD, this]
  · intro hf
    rw [hf]; rfl
end Go.Rs
end
