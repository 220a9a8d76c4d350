import Derived.Test.YtahppankhidkeaaDoorM12
set_option linter.all false
section
/-! Plain models: parts of valid nodes are valid; filters and stores. -/
namespace Go.Rs
theorem shape_mono : ∀ {d : Nat} {n : Nd}, shapeM d n = true → shapeM (d + 1) n = true
  | 0, n, h => by obtain ⟨-, e, he⟩ := shape_parts h; omega
  | d + 1, n, h => by
    have h1 := (shape_parts h).1
    have h2 : ∀ x ∈ n.kids, shapeM d x = true := fun x hx => shape_kid h hx
    have e := shapeM_pos n (d := ((d + 2 : Nat) : Int)) (by omega)
    rw [Int.toNat_natCast] at e
    rw [e, h1, Bool.true_and, List.all_eq_true]
    intro x hx
    exact shape_mono (h2 x hx)
theorem shape_le {d e : Nat} {n : Nd} (h : shapeM d n = true) (hle : d ≤ e) : shapeM e n = true := by
  induction hle with
  | refl => exact h
  | step _ ih => exact shape_mono ih
theorem okN_shape {n : Nd} (h : okN n) : shapeM 5 n = true := by obtain ⟨d, hd, h⟩ := h; exact shape_le h hd
theorem validM_iff {n : Nd} : validM n = true ↔ okN n ∧ countM n ≤ 40 := by
  constructor
  · intro h
    refine ⟨validM_ok h, ?_⟩
    simp only [validM, Bool.and_eq_true, decide_eq_true_eq] at h
    exact h.2
  · rintro ⟨h1, h2⟩
    simp only [validM, okN_shape h1, Bool.true_and]; exact decide_eq_true h2
theorem sumN_ge {f : Nd → Nat} {l : List Nd} {j : Nat} (h : j < l.length) : f (l.getD j default) ≤ sumN f l := by
  have h1 := sumN_take (f := f) h
  have h2 : sumN f (l.take (j + 1)) ≤ sumN f l := sumN_take_le
  omega
theorem count_kid {n : Nd} {j : Nat} (h : j < n.kids.length) : countM (n.kids.getD j default) < countM n := by
  rw [countM_eq n]; have := sumN_ge (f := countM) h; omega
theorem count_find : ∀ {p : List Bs} {n m : Nd}, findM n p = some m → countM m ≤ countM n
  | [], n, m, e => by cases e; exact Nat.le_refl _
  | s :: p, n, m, e => by
    rw [findM] at e
    split at e
    · cases e
    · have h1 := (placeM_ge n s).2.1
      have h2 := count_find e
      have h3 := count_kid (n := n) (j := (placeM n s).toNat) (by omega)
      omega
theorem find_valid {n m : Nd} {p : List Bs} (h : validM n = true) (e : findM n p = some m) : validM m = true := by
  obtain ⟨h1, h2⟩ := validM_iff.1 h
  exact validM_iff.2 ⟨findM_ok h1 e, Nat.le_trans (count_find e) h2⟩
theorem valid0 : validM default = true := by decide
theorem pathM_nil : pathM [] = true := by decide
theorem match_whole {n : Nd} (h : validM n = true) : matchM n ⟨[], 1, n⟩ = true ∧ matchM n ⟨[], 2, n⟩ = false ∧ matchM n ⟨[], 3, n⟩ = false := by
  simp [matchM, filterM, matchesM, testM, findM, h, pathM_nil, cmpN_refl]
theorem nodeAt_isSome (n : Nd) (p : List Bs) : (nodeAtM n p).isSome = (validM n && pathM p && (findM n p).isSome) := by
  unfold nodeAtM; cases validM n <;> cases pathM p <;> simp
theorem matches_isSome (n : Nd) (f : Flt) : matchesM n f = true → (findM n f.path).isSome = true := by
  unfold matchesM; cases findM n f.path <;> simp
theorem match_has (n : Nd) (f : Flt) : matchM n ⟨f.path, 0, default⟩ = (nodeAtM n f.path).isSome := by
  rw [nodeAt_isSome]
  simp only [matchM, filterM, valid0, matchesM, testM]
  cases findM n f.path <;> simp
theorem match_is (n : Nd) (f : Flt) : matchM n ⟨f.path, 1, (nodeAtM n f.path).getD default⟩ = (nodeAtM n f.path).isSome := by
  cases h : nodeAtM n f.path with
  | none =>
    have := nodeAt_isSome n f.path
    rw [h] at this
    simp only [Option.isSome_none, Option.getD_none, matchM, filterM, valid0, matchesM, testM]
    cases hv : validM n <;> cases hp : pathM f.path <;> cases hf : findM n f.path <;> simp_all
  | some m =>
    have := nodeAt_isSome n f.path
    rw [h] at this
    simp only [Option.isSome_some, Bool.true_eq, Bool.and_eq_true] at this
    have e : findM n f.path = some m := by unfold nodeAtM at h; rw [if_pos (by simp [this])] at h; exact h
    have hv := find_valid this.1.1 e
    simp [matchM, filterM, matchesM, testM, e, hv, this, cmpN_refl]
theorem match_imp {n : Nd} {f : Flt} (h : matchM n f = true) : (nodeAtM n f.path).isSome = true := by
  rw [nodeAt_isSome]
  simp only [matchM, filterM, Bool.and_eq_true] at h
  simp [h, matches_isSome n f h.2]
def kM (n : Nd) (f : Flt) (t : Nat) : Nat := (if 1 < t ∧ matchM n ⟨f.path, 1, f.value⟩ then 1 else 0) + (if 2 < t ∧ matchM n ⟨f.path, 2, f.value⟩ then 1 else 0) + (if 3 < t ∧ matchM n ⟨f.path, 3, f.value⟩ then 1 else 0)
theorem kM_step (n : Nd) (f : Flt) {t : Nat} (h1 : 1 ≤ t) (h3 : t ≤ 3) : kM n f (t + 1) = kM n f t + (if matchM n ⟨f.path, (t : Int), f.value⟩ then 1 else 0) := by
  have : t = 1 ∨ t = 2 ∨ t = 3 := by omega
  rcases this with rfl | rfl | rfl <;> simp [kM]
theorem kM_one (n : Nd) (f : Flt) : kM n f 1 = 0 := by simp [kM]
theorem kM_le (n : Nd) (f : Flt) (t : Nat) : kM n f t ≤ 3 := by unfold kM; split <;> split <;> split <;> omega
theorem kM_four {n : Nd} {f : Flt} (h : validM f.value = true) : kM n f 4 = if (nodeAtM n f.path).isSome then 1 else 0 := by
  rw [nodeAt_isSome]
  simp only [kM, matchM, filterM, matchesM, testM, h]
  cases validM n <;> cases pathM f.path <;> cases findM n f.path <;> simp
  rename_i m
  rcases Int.lt_trichotomy (cmpN m f.value) 0 with h | h | h
  · rw [if_neg (by omega), if_pos h, if_neg (by omega)]
  · rw [if_pos h, if_neg (by omega), if_neg (by omega)]
  · rw [if_neg (by omega), if_neg (by omega), if_pos h]
end Go.Rs
end
