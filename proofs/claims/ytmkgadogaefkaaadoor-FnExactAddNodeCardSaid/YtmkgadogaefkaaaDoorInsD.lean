import Derived.Test.YtmkgadogaefkaaaDoorIns
set_option linter.all false
set_option linter.unusedSimpArgs false
set_option linter.unusedVariables false
namespace Go.Rs
open Go.Proofs Go.RowKit Go.Lib
theorem ins_get {l v : List It} {i i' : Nat} (hi : i ≤ l.length) (hv : v.length = 1) (h : i' < l.length + 1) :
    (l.take i ++ v ++ l.drop i).getD i' default = if i' < i then l.getD i' default else if i' = i then v.getD 0 default else l.getD (i' - 1) default := by
  obtain ⟨x, rfl⟩ := List.length_eq_one_iff.1 hv
  have e : (l.take i).length = i := by simp; omega
  simp only [List.getD_eq_getElem?_getD]
  rw [List.append_assoc]
  by_cases h1 : i' < i
  · rw [if_pos h1, List.getElem?_append_left (by rw [e]; exact h1), List.getElem?_take_of_lt h1]
  · rw [if_neg h1, List.getElem?_append_right (by rw [e]; omega), e]
    by_cases h2 : i' = i
    · subst h2; simp
    · have e2 : i' - i = (i' - i - 1) + 1 := by omega
      have e3 : i + (i' - i - 1) = i' - 1 := by omega
      rw [if_neg h2, e2]
      simp only [List.singleton_append, List.getElem?_cons_succ, List.getElem?_drop]
      rw [e3]
theorem ins_fin {w w' : World} {γ γ' : Nat → Nat} {l v : List It} {i cap' b' T : Nat} {xs ys X : List Value} (hi : i ≤ l.length) (hv : v.length = 1) (hl : l.length ≤ 2097152)
    (hxr : ∀ k, k < l.length → ∀ j, j < 7 → Rep noU noν γ w (xs.getD (k * 7 + j) undef) ((enc .item (l.getD k default)).getD j .opq))
    (hyr : ∀ j, j < 7 → Rep noU noν γ w (ys.getD j undef) ((enc .item (v.getD 0 default)).getD j .opq))
    (hX : ∀ k j, k < l.length + 1 → j < 7 → X.getD (k * 7 + j) undef = if k < i then xs.getD (k * 7 + j) undef else if k = i then ys.getD j undef else xs.getD ((k - 1) * 7 + j) undef)
    (hXl : X.length = cap' * 7) (hcap : l.length + 1 ≤ cap') (hX1 : ∀ x ∈ X, x.oneCell' = true)
    (hb : w'.heap[b']? = some (.cells X.toArray T (0, 0))) (hγ : γ' b' = 0) (hk : Keeps γ w γ' w') :
    IR γ' w' [b'] (.slice (some ⟨b', 0, none⟩) (l.length + 1) cap') (.own .item (l.take i ++ v ++ l.drop i)) := by
  have hlen : (l.take i ++ v ++ l.drop i).length = l.length + 1 := by simp [hv]; omega
  have := IC.own (γ := γ') (w := w') .item (l.take i ++ v ++ l.drop i) b' cap' X (by rw [hlen]; unfold MX; omega) (by rw [hlen]; exact hcap) (by omega) ⟨hγ, hX1, T, hb⟩ hXl (by
    intro k hkk j hj
    rw [hlen] at hkk
    have hj7 : j < 7 := hj
    show Rep noU noν γ' w' (X.getD (k * 7 + j) undef) ((enc .item ((l.take i ++ v ++ l.drop i).getD k default)).getD j .opq)
    rw [hX k j hkk hj7, ins_get hi hv hkk]
    split
    · exact (hxr k (by omega) j hj7).keep hk (fun _ h => h) (fun _ _ => rfl)
    · split
      · exact (hyr j hj7).keep hk (fun _ h => h) (fun _ _ => rfl)
      · exact (hxr (k - 1) (by omega) j hj7).keep hk (fun _ h => h) (fun _ _ => rfl))
  rw [hlen] at this
  exact .one (.cell this)
end Go.Rs

