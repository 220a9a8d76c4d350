import Derived.Test.YtahppankhidkeaaDoorM8
set_option linter.all false
section
/-! Plain models: finding documents, histories of names, lags. -/
namespace Go.Rs
def lookI (l : List It) (b : Bs) : Option It := l.find? fun x => decide (x.name = b)
theorem lookI_cons (x : It) (r : List It) (b : Bs) : lookI (x :: r) b = if x.name = b then some x else lookI r b := by
  unfold lookI; rw [List.find?_cons]; by_cases h : x.name = b <;> simp [h]
theorem lookI_drop (l : List It) (a b : Bs) : lookI (dropL l a) b = if a = b then none else lookI l b := by
  induction l with
  | nil => simp [lookI, dropL]
  | cons x r ih =>
    have e : dropL (x :: r) a = if x.name = a then dropL r a else x :: dropL r a := by
      unfold dropL; rw [List.filter_cons]; by_cases h : x.name = a <;> simp [h]
    rw [e, lookI_cons]
    by_cases h1 : x.name = a
    · rw [if_pos h1, ih]; grind
    · rw [if_neg h1, lookI_cons, ih]; grind
theorem lookI_put (it : It) (b : Bs) : ∀ l : List It, ascI l → lookI (putL l it) b = if it.name = b then some it else lookI l b := by
  intro l h
  cases hf : foundI l it.name with
  | true =>
    rw [putL_found h hf]
    have hlt : lbI l it.name < l.length ∧ (l.getD (lbI l it.name) default).name = it.name := by simp only [foundI, Bool.and_eq_true, decide_eq_true_eq] at hf; exact hf
    generalize lbI l it.name = k at hlt
    clear hf
    induction l generalizing k with
    | nil => simp at hlt
    | cons x r ih =>
      cases k with
      | zero =>
        have h2 : x.name = it.name := by simpa using hlt.2
        rw [List.set_cons_zero, lookI_cons, lookI_cons, h2]; grind
      | succ k =>
        rw [List.set_cons_succ, lookI_cons, lookI_cons, ih (List.pairwise_cons.1 h).2 k (by simpa using hlt)]
        have h3 : (r.getD k default).name = it.name := by simpa using hlt.2
        have h4 : k < r.length := by simpa using hlt.1
        have h5 : ltS x.name it.name = true := by
          rw [← h3]; exact (List.pairwise_cons.1 h).1 _ (getD_mem h4)
        have h6 := ltS_ne h5
        grind
  | false =>
    rw [putL_new h hf]
    have key : ∀ (l : List It) (k : Nat), (∀ x ∈ l, x.name ≠ it.name) → lookI (l.take k ++ it :: l.drop k) b = if it.name = b then some it else lookI l b := by
      intro l
      induction l with
      | nil => intro k _; simp [lookI_cons]
      | cons x r ih =>
        intro k hne
        cases k with
        | zero => simp [lookI_cons]
        | succ k =>
          rw [List.take_succ_cons, List.drop_succ_cons, List.cons_append, lookI_cons, lookI_cons, ih k fun y hy => hne y (by simp [hy])]
          have := hne x (by simp)
          grind
    refine key l _ fun x hx e => ?_
    obtain ⟨j, hj, hx⟩ := List.mem_iff_getElem.1 hx
    have h1 := findI_new h hf
    have h2 : ∃ y ∈ l, y.name = it.name := ⟨x, by rw [← hx]; exact List.getElem_mem hj, e⟩
    unfold findI at h1
    split at h1
    · omega
    · rename_i h3
      exact h3 (List.findIdx_lt_length_of_exists (by obtain ⟨y, hy, he⟩ := h2; exact ⟨y, hy, by simp [he]⟩))
theorem lookI_found {l : List It} {b : Bs} (h : ascI l) : lookI l b = if foundI l b then some (l.getD (lbI l b) default) else none := by
  cases hf : foundI l b with
  | true =>
    have hlt : lbI l b < l.length ∧ (l.getD (lbI l b) default).name = b := by simp only [foundI, Bool.and_eq_true, decide_eq_true_eq] at hf; exact hf
    generalize lbI l b = k at hlt
    simp only [if_true]
    clear hf
    induction l generalizing k with
    | nil => simp at hlt
    | cons x r ih =>
      rw [lookI_cons]
      cases k with
      | zero => have h2 : x.name = b := by simpa using hlt.2
                rw [if_pos h2]; rfl
      | succ k =>
        have h3 : (r.getD k default).name = b := by simpa using hlt.2
        have h4 : k < r.length := by simpa using hlt.1
        have h5 : ltS x.name b = true := by rw [← h3]; exact (List.pairwise_cons.1 h).1 _ (getD_mem h4)
        rw [if_neg (ltS_ne h5), ih (List.pairwise_cons.1 h).2 k (by simpa using hlt)]
        simp
  | false =>
    have h1 := findI_new h hf
    unfold findI at h1
    split at h1
    · omega
    · rename_i h3
      simp only [Bool.false_eq_true, if_false]
      unfold lookI
      rw [List.find?_eq_none]
      intro x hx e
      exact h3 (List.findIdx_lt_length_of_exists ⟨x, hx, e⟩)
def getM (s : Sto) (b : Bs) : Option It := if storeM s then lookI s.items b else none
def optT (r : Option It) : AV := .tup [.st (itC (r.getD default)), .bool r.isSome]
/-- What a log leaves under a name. -/
def lookF (b : Bs) : List Chg → Nat → Option It → Option It
  | [], _, r => r
  | c :: l, k, r => lookF b l (k + 1) (if c.name = b then (if c.gone then none else some ⟨b, (k : Int) + 1, c.node⟩) else r)
theorem storeM_asc {s : Sto} (h : storeM s = true) : ascI s.items := (storeM_iff.1 h).2.2.2
theorem applyM_look {s t : Sto} {c : Chg} {b : Bs} (h : applyM s c = some t) : lookI t.items b = if c.name = b then (if c.gone then none else some ⟨c.name, s.clock + 1, c.node⟩) else lookI s.items b := by
  have hs := (applyM_ok h).1
  unfold applyM at h
  cases hg : c.gone with
  | true =>
    rw [hg] at h
    simp only [if_true] at h
    unfold dropItemM at h
    split at h
    · cases h
      simp only [dropS, lookI_drop, if_true]
    · cases h
  | false =>
    rw [hg] at h
    simp only [Bool.false_eq_true, if_false] at h
    unfold putItemM at h
    split at h
    · split at h
      · cases h
        simp only [putS, Bool.false_eq_true, if_false]
        rw [lookI_put _ _ _ (storeM_asc hs)]
      · cases h
    · cases h
theorem replay_look {b : Bs} : ∀ {l : List Chg} {s t : Sto} {k : Nat}, storeM s = true → s.clock = k → replayFrom s l = some t → lookI t.items b = lookF b l k (lookI s.items b)
  | [], s, t, k, hs, hk, h => by cases h; rfl
  | c :: l, s, t, k, hs, hk, h => by
    have e : replayFrom s (c :: l) = l.foldl stepM (stepM (some s) c) := rfl
    rw [e] at h
    cases h1 : stepM (some s) c with
    | none => rw [h1, stepM_none] at h; cases h
    | some u =>
      rw [h1] at h
      have h2 : applyM s c = some u := by
        unfold stepM at h1
        simp only at h1
        split at h1
        · exact h1
        · cases h1
      obtain ⟨-, hu, hc⟩ := applyM_ok h2
      rw [replay_look (k := k + 1) hu (by rw [hc, hk]; simp) h, applyM_look h2]
      simp only [lookF]
      congr 1
      rw [hk]
      by_cases e : c.name = b
      · subst e; rfl
      · rw [if_neg e, if_neg e]
theorem replayM_look {b : Bs} {l : List Chg} {t : Sto} (h : replayM l = some t) : lookI t.items b = lookF b l 0 none := replay_look store0 rfl h
/-- Histories. -/
def histV (l : List Chg) (b : Bs) : List Int := if (logM l).isSome then histM l b 0 else []
theorem histM_cons (c : Chg) (l : List Chg) (b : Bs) (k : Nat) : histM (c :: l) b k = if c.name = b then ((k : Int) + 1) :: histM l b (k + 1) else histM l b (k + 1) := rfl
theorem histM_app (b : Bs) : ∀ (l m : List Chg) (k : Nat), histM (l ++ m) b k = histM l b k ++ histM m b (k + l.length)
  | [], m, k => by simp [histM]
  | c :: l, m, k => by
    rw [List.cons_append, histM_cons, histM_cons, histM_app b l m (k + 1), show k + (c :: l).length = k + 1 + l.length by simp; omega]
    split <;> simp
theorem histM_take {l : List Chg} {b : Bs} {i : Nat} (h : i < l.length) : histM (l.take (i + 1)) b 0 = histM (l.take i) b 0 ++ (if (l.getD i default).name = b then [(i : Int) + 1] else []) := by
  rw [← take_snoc default h, histM_app]
  congr 1
  rw [histM_cons, List.length_take, Nat.min_eq_left (by omega)]
  simp [histM]
theorem histM_mem {b : Bs} : ∀ {l : List Chg} {k : Nat} {v : Int}, v ∈ histM l b k → (k : Int) + 1 ≤ v ∧ v ≤ k + l.length ∧ (l.getD (v - 1 - k).toNat default).name = b
  | [], k, v, h => by simp [histM] at h
  | c :: l, k, v, h => by
    rw [histM_cons] at h
    have key : v ∈ histM l b (k + 1) → (k : Int) + 1 ≤ v ∧ v ≤ k + (c :: l).length ∧ ((c :: l).getD (v - 1 - k).toNat default).name = b := fun h => by
      obtain ⟨h1, h2, h3⟩ := histM_mem h
      refine ⟨by omega, by simp at h2 ⊢; omega, ?_⟩
      rw [show (v - 1 - (k : Int)).toNat = (v - 1 - ((k + 1 : Nat) : Int)).toNat + 1 by omega]
      simpa using h3
    split at h
    · rename_i hc
      rcases List.mem_cons.1 h with rfl | h
      · refine ⟨by omega, by simp; omega, ?_⟩
        rw [show ((k : Int) + 1 - 1 - k).toNat = 0 by omega]
        simpa using hc
      · exact key h
    · exact key h
theorem histM_asc {b : Bs} : ∀ (l : List Chg) (k : Nat), (histM l b k).Pairwise (· < ·)
  | [], k => by simp [histM]
  | c :: l, k => by
    rw [histM_cons]
    split
    · refine List.pairwise_cons.2 ⟨fun v hv => ?_, histM_asc l (k + 1)⟩
      have := (histM_mem hv).1
      omega
    · exact histM_asc l (k + 1)
theorem lookF_hist {b : Bs} : ∀ (l : List Chg) (k : Nat) (r : Option It), lookF b l k r = match (histM l b k).getLast? with
    | none => r
    | some v => if (l.getD (v - 1 - k).toNat default).gone then none else some ⟨b, v, (l.getD (v - 1 - k).toNat default).node⟩
  | [], k, r => by simp [lookF, histM]
  | c :: l, k, r => by
    rw [lookF, lookF_hist l (k + 1), histM_cons]
    by_cases hc : c.name = b
    · rw [if_pos hc, if_pos hc, List.getLast?_cons]
      cases hl : (histM l b (k + 1)).getLast? with
      | none =>
        simp only [Option.getD_none]
        rw [show ((k : Int) + 1 - 1 - k).toNat = 0 by omega]
        simp
      | some v =>
        have hv := histM_mem (List.mem_of_getLast? hl)
        simp only [Option.getD_some]
        rw [show (v - 1 - (k : Int)).toNat = (v - 1 - ((k + 1 : Nat) : Int)).toNat + 1 by omega]
        simp
    · rw [if_neg hc, if_neg hc]
      cases hl : (histM l b (k + 1)).getLast? with
      | none => rfl
      | some v =>
        have hv := histM_mem (List.mem_of_getLast? hl)
        simp only
        rw [show (v - 1 - (k : Int)).toNat = (v - 1 - ((k + 1 : Nat) : Int)).toNat + 1 by omega]
        simp
theorem pair_lt {l : List Int} (h : l.Pairwise (· < ·)) {i : Nat} (h0 : 0 < i) (hi : i < l.length) : l.getD (i - 1) 0 < l.getD i 0 := by
  rw [List.pairwise_iff_getElem] at h
  have := h (i - 1) i (by omega) hi (by omega)
  rw [getD_get (by omega), getD_get hi]; exact this
/-- What a history's last version tells of the store. -/
theorem hist_last {l : List Chg} {s : Sto} {b : Bs} {v : Int} (h : replayM l = some s) (hv : (histM l b 0).getLast? = some v) :
    lookI s.items b = if (l.getD (v - 1).toNat default).gone then none else some ⟨b, v, (l.getD (v - 1).toNat default).node⟩ := by
  rw [replayM_look h, lookF_hist, hv]
  simp
theorem getLast_getD {l : List Int} (h : l ≠ []) : l.getLast? = some (l.getD (l.length - 1) 0) := by
  rw [List.getLast?_eq_getElem?, List.getD_eq_getElem?_getD]
  have : l.length - 1 < l.length := by have := List.length_pos_iff.2 h; omega
  simp [this]
/-- The histories of all names. -/
theorem histM_count (b : Bs) : ∀ (l : List Chg) (k : Nat), (histM l b k).length = (l.filter fun c => decide (c.name = b)).length
  | [], k => by simp [histM]
  | c :: l, k => by
    rw [histM_cons, List.filter_cons]
    by_cases h : c.name = b <;> simp [h, histM_count b l]
theorem log_len {l : List Chg} (h : (logM l).isSome = true) : l.length ≤ 20 := by
  unfold logM at h
  split at h
  · assumption
  · cases h
theorem histM_len (l : List Chg) (b : Bs) (i : Nat) : (histM (l.take i) b 0).length ≤ i := by
  rw [histM_count]; exact Nat.le_trans (List.length_filter_le _ _) (by simp; omega)
def notIn (seen : List Bs) (c : Chg) : Bool := seen.all fun b => !decide (b = c.name)
def allH (full : List Chg) : List Bs → List Chg → Nat
  | _, [] => 0
  | seen, c :: r => (if notIn seen c then (histM full c.name 0).length else 0) + allH full (seen ++ [c.name]) r
theorem notIn_snoc (seen : List Bs) (b : Bs) (c : Chg) : notIn (seen ++ [b]) c = (notIn seen c && !decide (b = c.name)) := by simp [notIn]
theorem filter_split (seen : List Bs) (b : Bs) (h : ∀ c : Chg, c.name = b → notIn seen c = true) : ∀ l : List Chg, (l.filter (notIn seen)).length = (l.filter fun c => decide (c.name = b)).length + (l.filter (notIn (seen ++ [b]))).length
  | [] => rfl
  | c :: l => by
    have ih := filter_split seen b h l
    rw [List.filter_cons, List.filter_cons, List.filter_cons, notIn_snoc]
    by_cases e : c.name = b
    · simp [h c e, e]; omega
    · have e' : ¬ b = c.name := fun h => e h.symm
      cases h2 : notIn seen c <;> simp [e, e', ih]; omega
theorem notIn_name {seen : List Bs} {c d : Chg} (h : c.name = d.name) : notIn seen c = notIn seen d := by unfold notIn; rw [h]
theorem allH_eq (full : List Chg) : ∀ (r : List Chg) (seen : List Bs), (∀ c ∈ full, notIn seen c = true → ∃ d ∈ r, d.name = c.name) → allH full seen r = (full.filter (notIn seen)).length
  | [], seen, h => by
    have : full.filter (notIn seen) = [] := List.filter_eq_nil_iff.2 fun c hc hn => by obtain ⟨d, hd, -⟩ := h c hc hn; simp at hd
    rw [this]; rfl
  | c :: r, seen, h => by
    have h2 : ∀ d ∈ full, notIn (seen ++ [c.name]) d = true → ∃ e ∈ r, e.name = d.name := fun d hd hn => by
      rw [notIn_snoc] at hn
      simp only [Bool.and_eq_true, Bool.not_eq_true', decide_eq_false_iff_not] at hn
      obtain ⟨e, he, hen⟩ := h d hd hn.1
      rcases List.mem_cons.1 he with rfl | he
      · exact absurd hen hn.2
      · exact ⟨e, he, hen⟩
    rw [allH, allH_eq full r _ h2]
    cases hn : notIn seen c with
    | true =>
      simp only [if_true]
      rw [histM_count, filter_split seen c.name fun d hd => by rw [notIn_name hd]; exact hn]
    | false =>
      simp only [Bool.false_eq_true, if_false, Nat.zero_add]
      congr 2
      funext d
      rw [notIn_snoc]
      by_cases e : c.name = d.name
      · rw [← notIn_name e, hn]; rfl
      · simp [e]
theorem allH_all (l : List Chg) : allH l [] l = l.length := by
  rw [allH_eq l l [] fun c hc _ => ⟨c, hc, rfl⟩]
  congr 1
  exact List.filter_eq_self.2 fun c _ => rfl
theorem allH_step {l : List Chg} {k : Nat} (h : k < l.length) : allH l ((l.take k).map (·.name)) (l.drop k) =
    (if (l.take k).all (fun c => !decide (c.name = (l.getD k default).name)) then (histM l (l.getD k default).name 0).length else 0) + allH l ((l.take (k + 1)).map (·.name)) (l.drop (k + 1)) := by
  have e : l.drop k = l.getD k default :: l.drop (k + 1) := by rw [getD_get h]; exact List.drop_eq_getElem_cons h
  have e2 : notIn ((l.take k).map (·.name)) (l.getD k default) = (l.take k).all (fun c => !decide (c.name = (l.getD k default).name)) := by
    unfold notIn; rw [List.all_map]; rfl
  rw [e, allH, e2, ← take_snoc default h, List.map_append]; rfl
/-- Lags. -/
def lagM (s : Sto) (l : List Chg) : Int := if (logM l).isSome ∧ storeM s = true ∧ s.clock ≤ l.length then l.length - s.clock else -1
theorem all_take_succ {l : List Chg} {k : Nat} (h : k < l.length) (p : Chg → Bool) : (l.take (k + 1)).all p = ((l.take k).all p && p (l.getD k default)) := by
  rw [← take_snoc default h, List.all_append]; simp
/-- Slices that begin as nil. -/
def nlV (E : El) : List (ElT E) → AV
  | [] => .nils E
  | _ :: _ => .ls 900
def nlL (E : El) : List (ElT E) → List (Nat × LC)
  | [] => []
  | a :: l => [(900, .arr E (a :: l))]
end Go.Rs
end
