import Derived.Test.YtkalanmdpnapbaaDoorMC
set_option linter.all false
section
/-! Plain models: how many operations lead from a node to another one. -/
namespace Go.Rs
theorem go_zero {k : Int} : ∀ (l : List Nd) (n n' : List Bs) (r : List Nd), (∀ x ∈ l, ∀ y ∈ r, cmpN x y = 0 → x = y) → cmpN.go k l n n' r = 0 → l = r ∧ (k = 4 → n.length = l.length → n'.length = r.length → n = n')
  | x :: l, n, n', y :: r, h, hg => by
    rw [cmpN.go] at hg
    split at hg
    · rename_i h1
      exact absurd (cmpI_zero.1 hg) h1.2
    rename_i h1
    split at hg
    · rename_i h2
      obtain ⟨e1, e2⟩ := go_zero l n.tail n'.tail r (fun z hz u hu => h z (by simp [hz]) u (by simp [hu])) hg
      have e3 := h x (by simp) y (by simp) h2
      refine ⟨by rw [e1, e3], fun hk hl hr => ?_⟩
      cases n with
      | nil => simp at hl
      | cons a n =>
        cases n' with
        | nil => simp at hr
        | cons b n' =>
          have h3 : a = b := by
            refine Classical.not_not.1 fun e => h1 ⟨hk, ?_⟩
            simpa using e
          rw [h3, show n = n' from e2 hk (by simpa using hl) (by simpa using hr)]
    · rename_i h2; exact absurd hg h2
  | [], n, n', r, h, hg => by
    rw [cmpN.go] at hg
    · have := ordI_zero.1 hg
      have hr : r = [] := List.length_eq_zero_iff.1 (by simp at this; omega)
      subst hr
      exact ⟨rfl, fun _ h1 h2 => by rw [List.length_eq_zero_iff.1 h1, List.length_eq_zero_iff.1 h2]⟩
    · intro _ _ _ _ e; cases e
  | x :: l, n, n', [], h, hg => by
    rw [cmpN.go] at hg
    · have := ordI_zero.1 hg
      simp at this
      omega
    · intro _ _ _ _ _ e; cases e
theorem cmpN_same : ∀ {a b : Nd}, okN a → okN b → cmpN a b = 0 → a = b
  | ⟨k, m, t, ns, l⟩, ⟨k', m', t', ns', l'⟩, ha, hb, h => by
    rw [cmpN_eq] at h
    simp only at h
    split at h
    case isFalse => exact absurd (ordI_zero.1 h) (by assumption)
    rename_i e1
    split at h
    case isFalse => exact absurd (ordI_zero.1 h) (by assumption)
    rename_i e2
    split at h
    case isFalse => exact absurd (cmpI_zero.1 h) (by assumption)
    rename_i e3
    subst e1; subst e2; subst e3
    have na := okN_names ha
    have nb := okN_names hb
    simp only at na nb
    obtain ⟨e4, e5⟩ := go_zero l ns ns' l' (fun x hx y hy hz => by
      have : SizeOf.sizeOf x < 1 + SizeOf.sizeOf k + SizeOf.sizeOf m + SizeOf.sizeOf t + SizeOf.sizeOf ns + SizeOf.sizeOf l := by have := List.sizeOf_lt_of_mem hx; omega
      exact cmpN_same (okN_mem ha hx) (okN_mem hb hy) hz) h
    subst e4
    by_cases hk : k = 4
    · rw [e5 hk (na.2.1 hk) (nb.2.1 hk)]
    · rw [na.2.2 hk, nb.2.2 hk]
termination_by a => SizeOf.sizeOf a
end Go.Rs
end
section
/-! Plain laws: no operation leads from a node to an equal one; differences of maps are at least those of their names. -/
namespace Go.Rs
theorem okN_bare {n : Nd} (h : okN n) : (n.kind ≠ 1 → n.num = 0) ∧ (n.kind ≠ 2 → n.text = []) := by
  have := okN_parts h
  unfold partsM at this
  split at this
  · cases this
  · rename_i h1
    exact ⟨fun h => Classical.not_not.1 fun e => h1 (.inl ⟨h, e⟩), fun h => Classical.not_not.1 fun e => h1 (.inr (.inl ⟨h, e⟩))⟩
theorem nd_same {a b : Nd} (h1 : a.kind = b.kind) (h2 : a.num = b.num) (h3 : a.text = b.text) (h4 : a.names = b.names) (h5 : a.kids = b.kids) : a = b := by
  cases a; cases b; simp only at h1 h2 h3 h4 h5; subst h1; subst h2; subst h3; subst h4; subst h5; rfl
end Go.Rs
end
section
/-! Plain models: shapes. -/
namespace Go.Rs
end Go.Rs
end
section
/-! Plain models: maps as rows of documents; a name put in, a name taken out. -/
namespace Go.Rs
end Go.Rs
end
section
/-! Plain models: a node merged with a patch. -/
namespace Go.Rs
end Go.Rs
end
