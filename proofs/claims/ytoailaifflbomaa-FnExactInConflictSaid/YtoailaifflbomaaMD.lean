import Derived.Test.YtoailaifflbomaaMC
set_option linter.all false
section
/-! Plain models: how many operations lead from a node to another one. -/
namespace Go.Rs
theorem go_zero {k : Int} : ∀ (l : List Nd) (n n' : List Bs) (r : List Nd), (∀ x ∈ l, ∀ y ∈ r, cmpN x y = 0 → x = y) → cmpN.go k l n n' r = 0 → l = r ∧ (k = 4 → n.length = l.length → n'.length = r.length → n = n')
  | x :: l, n, n', y :: r, h, hg => by
    rw [cmpN.go] at hg
    split at hg
    · rename_i h1
      exact absurd (cmpI_zero.1 hg) h1.2
    rename_i h1
    split at hg
    · rename_i h2
      obtain ⟨e1, e2⟩ := go_zero l n.tail n'.tail r (fun z hz u hu => h z (by simp [hz]) u (by simp [hu])) hg
      have e3 := h x (by simp) y (by simp) h2
      refine ⟨by rw [e1, e3], fun hk hl hr => ?_⟩
      cases n with
      | nil => simp at hl
      | cons a n =>
        cases n' with
        | nil => simp at hr
        | cons b n' =>
          have h3 : a = b := by
            refine Classical.not_not.1 fun e => h1 ⟨hk, ?_⟩
            simpa using e
          rw [h3, show n = n' from e2 hk (by simpa using hl) (by simpa using hr)]
    · rename_i h2; exact absurd hg h2
  | [], n, n', r, h, hg => by
    rw [cmpN.go] at hg
    · have := ordI_zero.1 hg
      have hr : r = [] := List.length_eq_zero_iff.1 (by simp at this; omega)
      subst hr
      exact ⟨rfl, fun _ h1 h2 => by rw [List.length_eq_zero_iff.1 h1, List.length_eq_zero_iff.1 h2]⟩
    · intro _ _ _ _ e; cases e
  | x :: l, n, n', [], h, hg => by
    rw [cmpN.go] at hg
    · have := ordI_zero.1 hg
      simp at this
      omega
    · intro _ _ _ _ _ e; cases e
theorem cmpN_same : ∀ {a b : Nd}, okN a → okN b → cmpN a b = 0 → a = b
  | ⟨k, m, t, ns, l⟩, ⟨k', m', t', ns', l'⟩, ha, hb, h => by
    rw [cmpN_eq] at h
    simp only at h
    split at h
    case isFalse => exact absurd (ordI_zero.1 h) (by assumption)
    rename_i e1
    split at h
    case isFalse => exact absurd (ordI_zero.1 h) (by assumption)
    rename_i e2
    split at h
    case isFalse => exact absurd (cmpI_zero.1 h) (by assumption)
    rename_i e3
    subst e1; subst e2; subst e3
    have na := okN_names ha
    have nb := okN_names hb
    simp only at na nb
    obtain ⟨e4, e5⟩ := go_zero l ns ns' l' (fun x hx y hy hz => by
      have : SizeOf.sizeOf x < 1 + SizeOf.sizeOf k + SizeOf.sizeOf m + SizeOf.sizeOf t + SizeOf.sizeOf ns + SizeOf.sizeOf l := by have := List.sizeOf_lt_of_mem hx; omega
      exact cmpN_same (okN_mem ha hx) (okN_mem hb hy) hz) h
    subst e4
    by_cases hk : k = 4
    · rw [e5 hk (na.2.1 hk) (nb.2.1 hk)]
    · rw [na.2.2 hk, nb.2.2 hk]
termination_by a => SizeOf.sizeOf a
end Go.Rs
end
section
/-! Plain laws: no operation leads from a node to an equal one; differences of maps are at least those of their names. -/
namespace Go.Rs
theorem okN_bare {n : Nd} (h : okN n) : (n.kind ≠ 1 → n.num = 0) ∧ (n.kind ≠ 2 → n.text = []) := by
  have := okN_parts h
  unfold partsM at this
  split at this
  · cases this
  · rename_i h1
    exact ⟨fun h => Classical.not_not.1 fun e => h1 (.inl ⟨h, e⟩), fun h => Classical.not_not.1 fun e => h1 (.inr (.inl ⟨h, e⟩))⟩
theorem nd_same {a b : Nd} (h1 : a.kind = b.kind) (h2 : a.num = b.num) (h3 : a.text = b.text) (h4 : a.names = b.names) (h5 : a.kids = b.kids) : a = b := by
  cases a; cases b; simp only at h1 h2 h3 h4 h5; subst h1; subst h2; subst h3; subst h4; subst h5; rfl
end Go.Rs
end
section
/-! Plain models: shapes. -/
namespace Go.Rs
end Go.Rs
end
section
/-! Plain models: maps as rows of documents; a name put in, a name taken out. -/
namespace Go.Rs
def zipI : List Bs → List Nd → List It
  | b :: ns, x :: xs => ⟨b, 0, x⟩ :: zipI ns xs
  | _, _ => []
theorem zip_names : ∀ {ns : List Bs} {ks : List Nd}, ns.length = ks.length → (zipI ns ks).map (·.name) = ns
  | [], [], _ => rfl
  | b :: ns, x :: ks, h => by simp only [zipI, List.map_cons]; rw [zip_names (by simpa using h)]
  | [], _ :: _, h => by simp at h
  | _ :: _, [], h => by simp at h
theorem zip_nodes : ∀ {ns : List Bs} {ks : List Nd}, ns.length = ks.length → (zipI ns ks).map (·.node) = ks
  | [], [], _ => rfl
  | b :: ns, x :: ks, h => by simp only [zipI, List.map_cons]; rw [zip_nodes (by simpa using h)]
  | [], _ :: _, h => by simp at h
  | _ :: _, [], h => by simp at h
theorem zip_len {ns : List Bs} {ks : List Nd} (h : ns.length = ks.length) : (zipI ns ks).length = ns.length := by
  have := congrArg List.length (zip_names h); simpa using this
theorem zip_v0 : ∀ (ns : List Bs) (ks : List Nd), ∀ x ∈ zipI ns ks, x.version = 0
  | b :: ns, y :: ks, x, h => by
    simp only [zipI, List.mem_cons] at h
    rcases h with rfl | h
    · rfl
    · exact zip_v0 ns ks x h
  | [], _, x, h => by simp [zipI] at h
  | _ :: _, [], x, h => by simp [zipI] at h
theorem zip_back : ∀ {l : List It}, (∀ x ∈ l, x.version = 0) → zipI (l.map (·.name)) (l.map (·.node)) = l
  | [], _ => rfl
  | x :: l, h => by
    simp only [List.map_cons, zipI]
    rw [zip_back fun y hy => h y (by simp [hy])]
    have := h x (by simp)
    cases x; simp only at this; subst this; rfl
theorem lb_names : ∀ (l : List It) (b : Bs), lbI (nmI (l.map (·.name))) b = lbI l b
  | [], b => rfl
  | x :: l, b => by
    have := lb_names l b
    simp only [List.map_cons, nmI] at this ⊢
    rw [lbI_cons, lbI_cons, this]
theorem nm_get (l : List It) (j : Nat) : ((nmI (l.map (·.name))).getD j default).name = (l.getD j default).name := by
  rw [nmI_get]
  simp only [List.getD_eq_getElem?_getD, List.getElem?_map]
  cases l[j]? <;> rfl
theorem found_names (l : List It) (b : Bs) : foundI (nmI (l.map (·.name))) b = foundI l b := by
  unfold foundI
  rw [lb_names, nmI_len, List.length_map, nm_get]
theorem asc_nm (l : List It) : ascI (nmI (l.map (·.name))) ↔ ascI l := by
  unfold ascI nmI
  rw [List.map_map, List.pairwise_map]
  exact Iff.rfl
theorem sorted_nm {l : List It} : sortedI (nmI (l.map (·.name))) ↔ ascI l := by rw [← ascI_sorted]; exact asc_nm l
theorem put_rows {ns : List Bs} {ks : List Nd} {b : Bs} {x : Nd} (h : ns.length = ks.length) (hs : sortedI (nmI ns)) :
    (foundI (nmI ns) b = true → (putL (zipI ns ks) ⟨b, 0, x⟩).map (·.name) = ns ∧ (putL (zipI ns ks) ⟨b, 0, x⟩).map (·.node) = ks.set (lbI (nmI ns) b) x) ∧
    (foundI (nmI ns) b = false → (putL (zipI ns ks) ⟨b, 0, x⟩).map (·.name) = ns.take (lbI (nmI ns) b) ++ [b] ++ ns.drop (lbI (nmI ns) b) ∧ (putL (zipI ns ks) ⟨b, 0, x⟩).map (·.node) = ks.take (lbI (nmI ns) b) ++ [x] ++ ks.drop (lbI (nmI ns) b)) := by
  obtain ⟨l, hl⟩ : ∃ l, l = zipI ns ks := ⟨_, rfl⟩
  have e1 : l.map (·.name) = ns := by rw [hl]; exact zip_names h
  have e2 : l.map (·.node) = ks := by rw [hl]; exact zip_nodes h
  rw [← hl]
  rw [← e1] at hs ⊢
  rw [← e2]
  have ha := sorted_nm.1 hs
  rw [found_names, lb_names]
  constructor
  · intro hf
    rw [putL_found ha hf]
    refine ⟨?_, by rw [List.map_set]⟩
    rw [List.map_set]
    simp only [foundI, Bool.and_eq_true, decide_eq_true_eq] at hf
    apply List.ext_getElem (by simp)
    intro i h1 h2
    rw [List.getElem_set]
    split
    · rename_i e
      subst e
      have := hf.2
      rw [getD_get (by simpa using h2)] at this
      simp only [List.getElem_map]
      exact this.symm
    · rfl
  · intro hf
    rw [putL_new ha hf]
    simp
theorem found_lt {ns : List Bs} {b : Bs} (h : foundI (nmI ns) b = true) : lbI (nmI ns) b < ns.length := by
  simp only [foundI, Bool.and_eq_true, decide_eq_true_eq] at h
  rw [← nmI_len]; exact h.1
theorem lb_le (ns : List Bs) (b : Bs) : lbI (nmI ns) b ≤ ns.length := by have := lbI_le (nmI ns) b; rwa [nmI_len] at this
end Go.Rs
end
section
/-! Plain models: a node merged with a patch. -/
namespace Go.Rs
def zeroN : Nd := ⟨0, 0, [], [], []⟩
def kidOf (l : List It) (b : Bs) : Nd := match lookI l b with
  | some it => it.node
  | none => zeroN
def ndOf (l : List It) : Nd := ⟨4, 0, [], l.map (·.name), l.map (·.node)⟩
def baseI (n : Nd) : List It := if n.kind = 4 then zipI n.names n.kids else []
theorem base_facts {n : Nd} (h : okN n) : ascI (baseI n) ∧ (∀ x ∈ baseI n, x.version = 0) ∧ (baseI n).length ≤ 6 ∧ (n.kind = 4 → (baseI n).map (·.name) = n.names ∧ (baseI n).map (·.node) = n.kids) := by
  unfold baseI
  by_cases hk : n.kind = 4
  · have hl := (okN_names h).2.1 hk
    rw [if_pos hk]
    refine ⟨?_, zip_v0 _ _, by rw [zip_len hl]; exact (okN_names h).1, fun _ => ⟨zip_names hl, zip_nodes hl⟩⟩
    have := okN_sorted h hk
    rw [← zip_names hl, sorted_nm] at this
    exact this
  · rw [if_neg hk]
    exact ⟨List.Pairwise.nil, by simp, by simp, fun h => absurd h hk⟩
theorem put_asc {l : List It} {it : It} (h : ascI l) : ascI (putL l it) := putL_asc h
theorem kid_found {l : List It} {b : Bs} (h : ascI l) : (foundI (nmI (l.map (·.name))) b = true → (l.map (·.node)).getD (lbI (nmI (l.map (·.name))) b) default = kidOf l b) ∧ (foundI (nmI (l.map (·.name))) b = false → kidOf l b = zeroN) := by
  rw [found_names, lb_names]
  unfold kidOf
  rw [lookI_found h]
  constructor
  · intro hf
    rw [if_pos hf]
    have : lbI l b < l.length := by simp only [foundI, Bool.and_eq_true, decide_eq_true_eq] at hf; exact hf.1
    simp [List.getD_eq_getElem?_getD, this]
  · intro hf
    rw [hf]; rfl
theorem okN_zero : okN zeroN := ⟨1, by omega, by decide⟩
theorem put_mem {l : List It} {it x : It} (h : ascI l) (hx : x ∈ putL l it) : x ∈ l ∨ x = it := by
  cases hf : foundI l it.name with
  | true =>
    rw [putL_found h hf] at hx
    exact List.mem_or_eq_of_mem_set hx
  | false =>
    rw [putL_new h hf] at hx
    simp only [List.mem_append, List.mem_cons] at hx
    rcases hx with h1 | h1 | h1
    · exact .inl (List.mem_of_mem_take h1)
    · exact .inr h1
    · exact .inl (List.mem_of_mem_drop h1)
end Go.Rs
end
