import Derived.Test.YtahppankhidkeaaDoorM6
set_option linter.all false
section
/-! Plain models: sorted stores, by pairs. -/
namespace Go.Rs
def itOk (clock : Int) (x : It) : Prop := nameM x.name = true ∧ validM x.node = true ∧ 1 ≤ x.version ∧ x.version ≤ clock
def ascI (l : List It) : Prop := l.Pairwise fun a b => ltS a.name b.name = true
theorem ascI_sorted {l : List It} : ascI l ↔ sortedI l := by
  unfold ascI sortedI
  rw [List.pairwise_iff_getElem]
  constructor
  · intro h i j hij hj
    rw [getD_get (by omega), getD_get hj]; exact h i j _ _ hij
  · intro h i j hi hj hij
    have := h i j hij hj
    rwa [getD_get (by omega), getD_get hj] at this
theorem storeM_iff {s : Sto} : storeM s = true ↔ s.items.length ≤ 10 ∧ (0 ≤ s.clock ∧ s.clock ≤ 999) ∧ (∀ x ∈ s.items, itOk s.clock x) ∧ ascI s.items := by
  constructor
  · intro h
    have hc := storeM_clock h
    refine ⟨hc.2.2, ⟨hc.1, hc.2.1⟩, fun x hx => ?_, ascI_sorted.2 (storeM_sorted h)⟩
    obtain ⟨j, hj, rfl⟩ := List.getElem_of_mem hx
    have := storeM_item h hj
    rw [← getD_get hj default]
    simp only [itemOk, Bool.and_eq_true, decide_eq_true_eq] at this
    exact ⟨this.1.1.1.1, this.1.1.1.2, this.1.1.2, this.1.2⟩
  · rintro ⟨h1, ⟨h2, h3⟩, h4, h5⟩
    have hs := ascI_sorted.1 h5
    simp only [storeM, Bool.and_eq_true, decide_eq_true_eq]
    refine ⟨⟨⟨(itemsM_iff s).2 fun j hj => ?_, h1⟩, h2⟩, h3⟩
    obtain ⟨k1, k2, k3, k4⟩ := h4 (s.items.getD j default) (by rw [getD_get hj]; exact List.getElem_mem hj)
    simp only [itemOk, Bool.and_eq_true, decide_eq_true_eq, Bool.or_eq_true]
    refine ⟨⟨⟨⟨k1, k2⟩, k3⟩, k4⟩, ?_⟩
    by_cases e : j = 0
    · exact .inl e
    · exact .inr (hs (j - 1) j (by omega) hj)
theorem lbI_cons (x : It) (r : List It) (b : Bs) : lbI (x :: r) b = if ltS x.name b then lbI r b + 1 else 0 := by
  unfold lbI
  rw [List.findIdx_cons]
  cases ltS x.name b <;> simp
theorem lbI_ge_all {l : List It} {b : Bs} (h : ascI l) : ∀ x ∈ l.drop (lbI l b), ltS x.name b = false := by
  intro x hx
  obtain ⟨j, hj, rfl⟩ := List.getElem_of_mem hx
  rw [List.getElem_drop]
  simp at hj
  cases e : ltS l[lbI l b + j].name b with
  | false => rfl
  | true =>
    have h2 := lbI_gt (h := lbI l b + j) (ascI_sorted.1 h) (by omega) (by rw [getD_get (by omega)]; exact e)
    omega
theorem dropL_none {l : List It} {b : Bs} (h : ∀ x ∈ l, x.name ≠ b) : dropL l b = l := by
  unfold dropL
  rw [List.filter_eq_self]
  intro x hx
  simpa using h x hx
theorem asc_head {x : It} {r : List It} (h : ascI (x :: r)) {b : Bs} (hb : ltS x.name b = false) : ∀ y ∈ r, y.name ≠ b := by
  intro y hy e
  subst e
  have := (List.pairwise_cons.1 h).1 y hy
  rw [hb] at this; cases this
theorem putL_found : ∀ {l : List It} {it : It}, ascI l → foundI l it.name = true → putL l it = l.set (lbI l it.name) it
  | [], it, _, hf => by simp [foundI] at hf
  | x :: r, it, h, hf => by
    rw [lbI_cons]
    simp only [foundI, lbI_cons] at hf
    unfold putL
    cases hl : ltS x.name it.name with
    | true =>
      simp only [hl, if_true] at hf ⊢
      rw [putL_found (List.pairwise_cons.1 h).2 (by simpa [foundI] using hf)]
      rfl
    | false =>
      simp [hl] at hf
      have hn : dropL (x :: r) it.name = r := by
        have := dropL_none (asc_head h hl)
        simp only [dropL, List.filter_cons, hf, decide_true, Bool.not_true, Bool.false_eq_true, if_false]
        exact this
      simp [hn]
theorem putL_new : ∀ {l : List It} {it : It}, ascI l → foundI l it.name = false → putL l it = l.take (lbI l it.name) ++ it :: l.drop (lbI l it.name)
  | [], it, _, _ => by simp [putL, lbI]
  | x :: r, it, h, hf => by
    rw [lbI_cons]
    simp only [foundI, lbI_cons] at hf
    unfold putL
    cases hl : ltS x.name it.name with
    | true =>
      simp only [hl, if_true] at hf ⊢
      rw [putL_new (List.pairwise_cons.1 h).2 (by simpa [foundI] using hf)]
      rfl
    | false =>
      simp [hl] at hf
      have hn : dropL (x :: r) it.name = x :: r := dropL_none (by
        intro y hy
        simp at hy
        rcases hy with rfl | hy
        · exact hf
        · exact asc_head h hl y hy)
      simp [hn]
theorem dropL_found : ∀ {l : List It} {b : Bs}, ascI l → foundI l b = true → dropL l b = l.eraseIdx (lbI l b)
  | [], b, _, hf => by simp [foundI] at hf
  | x :: r, b, h, hf => by
    rw [lbI_cons]
    simp only [foundI, lbI_cons] at hf
    cases hl : ltS x.name b with
    | true =>
      simp only [hl, if_true] at hf ⊢
      have ih := dropL_found (List.pairwise_cons.1 h).2 (b := b) (by simpa [foundI] using hf)
      have hne := ltS_ne hl
      simp only [dropL, List.filter_cons, hne, decide_false, Bool.not_false, if_true, List.eraseIdx_cons_succ]
      rw [← ih]; rfl
    | false =>
      simp [hl] at hf
      have := dropL_none (asc_head h hl)
      simp only [dropL, List.filter_cons, hf, decide_true, Bool.not_true, Bool.false_eq_true, if_false, List.eraseIdx_cons_zero]
      exact this
theorem findI_found {l : List It} {b : Bs} (hf : foundI l b = true) : findI l b = lbI l b := by
  simp only [foundI, Bool.and_eq_true, decide_eq_true_eq] at hf
  exact findI_at hf.1 hf.2 fun i hi => ltS_ne (lbI_lt hi)
theorem findI_new {l : List It} {b : Bs} (h : ascI l) (hf : foundI l b = false) : findI l b = -1 := by
  refine findI_none fun i hi e => ?_
  rcases Nat.lt_trichotomy i (lbI l b) with h1 | h1 | h1
  · exact ltS_ne (lbI_lt h1) e
  · subst h1; simp [foundI, hi] at hf; rw [getD_get hi] at e; exact hf e
  · have h2 := ascI_sorted.1 h (lbI l b) i h1 hi
    have h3 := lbI_at (l := l) (b := b) (by omega)
    rw [e, h3] at h2; cases h2
theorem ascI_drop {l : List It} {b : Bs} (h : ascI l) : ascI (dropL l b) := List.Pairwise.filter _ h
theorem dropS_store {s : Sto} {b : Bs} (h : storeM s = true) (hc : s.clock ≠ 999) : storeM (dropS s b) = true := by
  obtain ⟨h1, h2, h3, h4⟩ := storeM_iff.1 h
  refine storeM_iff.2 ⟨by have := dropL_len s.items b; simp only [dropS]; omega, by simp only [dropS]; omega, fun x hx => ?_, ascI_drop h4⟩
  obtain ⟨k1, k2, k3, k4⟩ := h3 x (dropL_mem hx)
  exact ⟨k1, k2, k3, by simp only [dropS]; omega⟩
theorem applyM_ok {s t : Sto} {c : Chg} (h : applyM s c = some t) : storeM s = true ∧ storeM t = true ∧ t.clock = s.clock + 1 := by
  unfold applyM at h
  split at h
  · unfold dropItemM at h
    split at h
    · rename_i hh
      simp only [Bool.and_eq_true, Bool.not_eq_true', decide_eq_false_iff_not] at hh
      cases h
      exact ⟨hh.1.1, dropS_store hh.1.1 hh.2, rfl⟩
    · cases h
  · unfold putItemM at h
    split at h
    · rename_i hh
      simp only [Bool.and_eq_true] at hh
      split at h
      · rename_i h2; cases h; exact ⟨hh.1.1, h2, rfl⟩
      · cases h
    · cases h
theorem store0 : storeM ⟨[], 0⟩ = true := by decide
theorem replay_ok : ∀ {l : List Chg} {s t : Sto}, storeM s = true → replayFrom s l = some t → storeM t = true ∧ t.clock = s.clock + l.length
  | [], s, t, hs, h => by cases h; exact ⟨hs, by simp⟩
  | c :: l, s, t, hs, h => by
    unfold replayFrom at h
    rw [List.foldl_cons] at h
    cases hst : stepM (some s) c with
    | none => rw [hst, stepM_none] at h; cases h
    | some u =>
      rw [hst] at h
      simp only [stepM] at hst
      split at hst
      · obtain ⟨-, h2, h3⟩ := applyM_ok hst
        obtain ⟨h4, h5⟩ := replay_ok h2 h
        exact ⟨h4, by simp; omega⟩
      · cases hst
theorem replayM_ok {l : List Chg} {t : Sto} (h : replayM l = some t) : storeM t = true ∧ t.clock = l.length := by
  have := replay_ok store0 h
  exact ⟨this.1, by simpa using this.2⟩
theorem applyCM_step {s : Sto} {c : Chg} (hs : storeM s = true) : applyCM s c = stepM (some s) c := by
  simp [applyCM, stepM, hs]
theorem stoAt_len (l : List Chg) : stoAtM l l.length = logM l := by
  unfold stoAtM
  cases h : logM l with
  | none => simp
  | some t => simp; unfold logM at h; split at h <;> first | exact h | cases h
def keptM (l : List Chg) (v k : Nat) : Sto := if v ≤ k then (replayM (l.take v)).getD ⟨[], 0⟩ else ⟨[], 0⟩
theorem replay_take_isSome {l : List Chg} {i : Nat} (h : (replayM l).isSome = true) : (replayM (l.take i)).isSome = true := by
  cases h2 : replayM (l.take i) with
  | some t => rfl
  | none => rw [replayM_none h2] at h; cases h
theorem keptM_zero (l : List Chg) (v : Nat) : keptM l v 0 = ⟨[], 0⟩ := by
  unfold keptM; split
  · rename_i h; have : v = 0 := by omega
    subst this; rfl
  · rfl
theorem keptM_end {l : List Chg} {v : Nat} (h : v ≤ l.length) : keptM l v l.length = (replayM (l.take v)).getD ⟨[], 0⟩ := by
  unfold keptM; rw [if_pos h]
theorem keptM_succ {l : List Chg} {v i : Nat} : keptM l v (i + 1) = if i + 1 = v then (replayM (l.take (i + 1))).getD ⟨[], 0⟩ else keptM l v i := by
  unfold keptM
  by_cases e : i + 1 = v
  · subst e; simp
  · simp only [e, if_false]
    by_cases h : v ≤ i
    · rw [if_pos h, if_pos (by omega)]
    · rw [if_neg h, if_neg (by omega)]
theorem applyCM_ok {s t : Sto} {c : Chg} (h : applyCM s c = some t) : storeM s = true ∧ storeM t = true ∧ t.clock = s.clock + 1 := by
  unfold applyCM at h; split at h
  · exact applyM_ok h
  · cases h
theorem applyCM_sm {s : Sto} {c : Chg} (h : (applyCM s c).isSome = true) : smS ((applyCM s c).getD ⟨[], 0⟩) := by
  cases e : applyCM s c with
  | none => rw [e] at h; cases h
  | some t => exact storeM_sm (applyCM_ok e).2.1
theorem replayM_next {l : List Chg} {i : Nat} (hi : i < l.length) (h : (replayM (l.take i)).isSome = true) :
    replayM (l.take (i + 1)) = applyCM ((replayM (l.take i)).getD ⟨[], 0⟩) (l.getD i default) := by
  rw [replayM_take hi]
  cases e : replayM (l.take i) with
  | none => rw [e] at h; cases h
  | some t => exact (applyCM_step (replayM_ok e).1).symm
end Go.Rs
end
