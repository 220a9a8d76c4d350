import Derived.Test.YtcmdkiolbhccgaaMF
set_option linter.all false
section
/-! Exact laws: what a call of sz tells; bounds of texts in trees. -/
namespace Go.Rs
def smNs (l : List Nd) : Prop := l.length ≤ 2097152 ∧ ∀ x ∈ l, smN x
def smIs (l : List It) : Prop := l.length ≤ 2097152 ∧ ∀ x ∈ l, smN x.node
def smCs (l : List Chg) : Prop := l.length ≤ 2097152 ∧ ∀ x ∈ l, smN x.node
theorem smCs.kid {l : List Chg} (h : smCs l) {j : Nat} (hj : j < l.length) : smN (l.getD j default).node := by
  rw [getD_get hj]; exact h.2 _ (List.getElem_mem hj)
theorem smIs.kid {l : List It} (h : smIs l) {j : Nat} (hj : j < l.length) : smN (l.getD j default).node := by
  rw [getD_get hj]; exact h.2 _ (List.getElem_mem hj)
theorem smNs.kid {l : List Nd} (h : smNs l) {j : Nat} (hj : j < l.length) : smN (l.getD j default) := by
  rw [getD_get hj]; exact h.2 _ (List.getElem_mem hj)
/-- Texts that a slice of texts holds are no longer than memory. -/
inductive bdN : Nd → Prop
  | mk {n : Nd} (h1 : ∀ x ∈ n.names, x.length ≤ 140737488355328) (h2 : ∀ x ∈ n.kids, bdN x) : bdN n
theorem bdN.names {n : Nd} (h : bdN n) : ∀ x ∈ n.names, x.length ≤ 140737488355328 := by cases h; assumption
theorem bdN.kids {n : Nd} (h : bdN n) : ∀ x ∈ n.kids, bdN x := by cases h; assumption
end Go.Rs
end
section
/-! News: the map of the last places. -/
namespace Go.Rs
def nmC (l : List Chg) (i : Nat) : Bs := (l.getD i default).name
def mh (l : List Chg) : Nat → List (Bs × Int)
  | 0 => []
  | k + 1 => (nmC l k, (k : Int)) :: mh l k
theorem mh_len (l : List Chg) (k : Nat) : (mh l k).length = k := by
  induction k with
  | zero => rfl
  | succ k ih => simp [mh, ih]
theorem mh_some (l : List Chg) (i : Nat) : ∀ n, i < n → ∃ j : Nat, mget (mh l n) (nmC l i) = some (j : Int) ∧ i ≤ j ∧ j < n ∧ nmC l j = nmC l i ∧ ∀ t, j < t → t < n → nmC l t ≠ nmC l i
  | 0, h => by omega
  | n + 1, h => by
    by_cases e : nmC l n = nmC l i
    · exact ⟨n, by simp [mh, mget, e], by omega, by omega, e, fun t h1 h2 => by omega⟩
    · have hi : i < n := by
        rcases Nat.lt_or_ge i n with h1 | h1
        · exact h1
        · have : i = n := by omega
          subst this; exact absurd rfl e
      obtain ⟨j, h1, h2, h3, h4, h5⟩ := mh_some l i n hi
      refine ⟨j, by simp [mh, mget, e, h1], h2, by omega, h4, fun t ht1 ht2 => ?_⟩
      rcases Nat.lt_or_ge t n with h6 | h6
      · exact h5 t ht1 h6
      · have : t = n := by omega
        subst this; exact e
theorem mh_last {l : List Chg} {i : Nat} (hi : i < l.length) : ((mget (mh l l.length) (l.getD i default).name).getD 0 = (i : Int)) ↔ lastM l i = true := by
  obtain ⟨j, h1, h2, h3, h4, h5⟩ := mh_some l i l.length hi
  have e : (mget (mh l l.length) (l.getD i default).name).getD 0 = (j : Int) := by
    have : mget (mh l l.length) (l.getD i default).name = some (j : Int) := h1
    rw [this]; rfl
  rw [e, lastM_iff]
  constructor
  · intro h t ht1 ht2
    have : j = i := by omega
    subst this
    exact h5 t ht1 ht2
  · intro h
    rcases Nat.lt_or_ge i j with h6 | h6
    · exact absurd h4 (h j h6 h3)
    · omega
end Go.Rs
namespace Go.Rs
theorem sinceV_bd (l : List Chg) (v : Int) (h : ¬ sinceV l v = []) : 0 ≤ v ∧ v < l.length ∧ (logM l).isSome = true ∧ sinceV l v = sinceF l v.toNat l.length := by
  unfold sinceV at h ⊢
  by_cases hc : (logM l).isSome = true ∧ 0 ≤ v ∧ v ≤ l.length
  · rw [if_pos hc] at h ⊢
    refine ⟨hc.2.1, ?_, hc.1, rfl⟩
    rcases Nat.lt_or_ge v.toNat l.length with h1 | h1
    · omega
    · have : v.toNat = l.length := by omega
      rw [this, sinceF_zero] at h; exact absurd rfl h
  · rw [if_neg hc] at h; exact absurd rfl h
theorem sinceF_head {l : List Chg} {v n : Nat} (h : v < n) : sinceF l v n = (if lastM l v then [nwAt l v] else []) ++ sinceF l (v + 1) n := by
  unfold sinceF
  rw [show n - v = (n - (v + 1)) + 1 by omega, List.range'_succ]
  by_cases h : lastM l v = true <;> simp [h]
theorem since_later {l : List Chg} {v : Int} (h : ¬ sinceV l v = []) : ((sinceV l v).length : Int) - (sinceV l (v + 1)).length = 0 ∧ sinceV l (v + 1) = sinceV l v ∨
    ((sinceV l v).length : Int) - (sinceV l (v + 1)).length = 1 ∧ sinceV l (v + 1) = (sinceV l v).drop 1 := by
  obtain ⟨h1, h2, h3, h4⟩ := sinceV_bd l v h
  have e : sinceV l (v + 1) = sinceF l (v.toNat + 1) l.length := by
    unfold sinceV
    rw [if_pos ⟨h3, by omega, by omega⟩, show (v + 1).toNat = v.toNat + 1 by omega]
  rw [h4, e, sinceF_head (by omega : v.toNat < l.length)]
  by_cases hl : lastM l v.toNat = true
  · right; simp [hl]; omega
  · left; simp [hl]
theorem later_ok {l : List Chg} {v : Int} (h : ¬ sinceV l v = []) : (decide (0 ≤ ((sinceV l v).length : Int) - (sinceV l (v + 1)).length) && decide (((sinceV l v).length : Int) - (sinceV l (v + 1)).length ≤ 1) &&
    eqD (sinceV l (v + 1)) (List.drop (((sinceV l v).length : Int) - (sinceV l (v + 1)).length).toNat (List.take ((sinceV l v).length : Int).toNat (sinceV l v)))) = true := by
  have e : List.take ((sinceV l v).length : Int).toNat (sinceV l v) = sinceV l v := by rw [Int.toNat_natCast, List.take_length]
  rw [e]
  rcases since_later h with ⟨h1, h2⟩ | ⟨h1, h2⟩
  · rw [h1]; simp [eqD_iff, h2]
  · rw [h1]; simp [eqD_iff, h2]
theorem sinceF_map (l : List Chg) (v k : Nat) : sinceF l v k = ((List.range' v (k - v)).filter (lastM l)).map (nwAt l) := by
  unfold sinceF
  induction List.range' v (k - v) with
  | nil => rfl
  | cons a r ih => by_cases h : lastM l a = true <;> simp [h, ih]
/-- The places of the news. -/
def posF (l : List Chg) (v k : Nat) : List Nat := (List.range' v (k - v)).filter (lastM l)
theorem posF_lt (l : List Chg) (v k : Nat) : (posF l v k).Pairwise (· < ·) := (List.pairwise_lt_range' (s := v) (n := k - v)).filter _
theorem feed_at {l : List Chg} {v : Int} (h : ¬ sinceV l v = []) : ∃ f : Nat → Nat, (∀ i, i < (sinceV l v).length → (sinceV l v).getD i default = nwAt l (f i) ∧ v ≤ f i ∧ f i < l.length ∧ lastM l (f i) = true) ∧ (∀ i j, j < i → i < (sinceV l v).length → f j < f i) ∧
    f ((sinceV l v).length - 1) + 1 = l.length := by
  obtain ⟨h1, h2, h3, h4⟩ := sinceV_bd l v h
  rw [h4] at h ⊢
  rw [sinceF_map] at h ⊢
  show ∃ f : Nat → Nat, (∀ i, i < ((posF l v.toNat l.length).map (nwAt l)).length → _) ∧ _
  have hp := posF_lt l v.toNat l.length
  have hm : ∀ p ∈ posF l v.toNat l.length, v ≤ p ∧ p < l.length ∧ lastM l p = true := by
    intro p hp
    simp only [posF, List.mem_filter, List.mem_range'_1] at hp
    exact ⟨by omega, by omega, hp.2⟩
  have hge : ∀ i, i < (posF l v.toNat l.length).length → (posF l v.toNat l.length).getD i 0 ∈ posF l v.toNat l.length := fun i hi => by
    rw [List.getD_eq_getElem?_getD, List.getElem?_eq_getElem hi]; exact List.getElem_mem hi
  have hlt : ∀ i j, j < i → i < (posF l v.toNat l.length).length → (posF l v.toNat l.length).getD j 0 < (posF l v.toNat l.length).getD i 0 := fun i j hj hi => by
    have := List.pairwise_iff_getElem.1 hp j i (by omega) hi hj
    rw [getD_get hi, getD_get (show j < (posF l v.toNat l.length).length by omega)]
    exact this
  refine ⟨fun i => (posF l v.toNat l.length).getD i 0, ?_, ?_, ?_⟩
  · intro i hi
    rw [List.length_map] at hi
    refine ⟨?_, hm _ (hge i hi)⟩
    show ((posF l v.toNat l.length).map (nwAt l)).getD i default = _
    simp only [List.getD_eq_getElem?_getD, List.getElem?_map, List.getElem?_eq_getElem hi]; rfl
  · intro i j hj hi
    exact hlt i j hj (by simpa [posF] using hi)
  · show (posF l v.toNat l.length).getD (((posF l v.toNat l.length).map (nwAt l)).length - 1) 0 + 1 = l.length
    rw [List.length_map]
    have hn : l.length - 1 ∈ posF l v.toNat l.length := by
      simp only [posF, List.mem_filter, List.mem_range'_1]
      exact ⟨by omega, (lastM_iff l _).2 fun j h5 h6 => by omega⟩
    obtain ⟨i, hi, he⟩ := List.getElem_of_mem hn
    have e2 : (posF l v.toNat l.length).getD i 0 = l.length - 1 := by rw [List.getD_eq_getElem?_getD, List.getElem?_eq_getElem hi]; exact he
    have hlast := (hm _ (hge ((posF l v.toNat l.length).length - 1) (by omega))).2.1
    rcases Nat.lt_or_ge i ((posF l v.toNat l.length).length - 1) with h5 | h5
    · have := hlt _ i h5 (by omega); omega
    · have : i = (posF l v.toNat l.length).length - 1 := by omega
      rw [← this, e2]; omega
theorem sinceV_len (l : List Chg) (v : Int) : (sinceV l v).length ≤ l.length := by
  unfold sinceV
  split
  · exact Nat.le_trans (sinceF_len _ _ _) (Nat.sub_le _ _)
  · exact Nat.zero_le _
end Go.Rs
end
section
/-! News lead to the newest store. -/
namespace Go.Rs
def nf : Nat → List Chg → List Nws
  | _, [] => []
  | k, c :: m => (if m.all (fun d => !decide (d.name = c.name)) then [⟨c.name, c.gone, c.node, (k : Int) + 1⟩] else []) ++ nf (k + 1) m
theorem sinceF_nf (l : List Chg) : ∀ (m : Nat) (v : Nat), v + m = l.length → sinceF l v l.length = nf v (l.drop v)
  | 0, v, h => by
    have : v = l.length := by omega
    subst this
    rw [sinceF_zero, List.drop_length]; rfl
  | m + 1, v, h => by
    have hv : v < l.length := by omega
    rw [sinceF_head hv, sinceF_nf l m (v + 1) (by omega), List.drop_eq_getElem_cons hv]
    simp only [nf]
    have e1 : l[v] = l.getD v default := (getD_get hv default).symm
    have e2 : (lastM l v = true) ↔ ((l.drop (v + 1)).all (fun d => !decide (d.name = l[v].name)) = true) := by rw [e1]; unfold lastM; exact Iff.rfl
    by_cases hl : lastM l v = true
    · rw [if_pos hl, if_pos (e2.1 hl)]; rw [e1]; rfl
    · rw [if_neg hl, if_neg (fun h => hl (e2.2 h))]
theorem lookF_indep {b : Bs} : ∀ {m : List Chg} {k : Nat} {r r' : Option It}, (∃ d ∈ m, d.name = b) → lookF b m k r = lookF b m k r'
  | [], _, _, _, h => by obtain ⟨d, hd, -⟩ := h; cases hd
  | c :: m, k, r, r', h => by
    simp only [lookF]
    by_cases e : c.name = b
    · rw [if_pos e, if_pos e]
    · rw [if_neg e, if_neg e]
      obtain ⟨d, hd, hb⟩ := h
      rcases List.mem_cons.1 hd with rfl | hd
      · exact absurd hb e
      · exact lookF_indep ⟨d, hd, hb⟩
theorem stepN_asc {s : Sto} {n : Nws} (h : ascI s.items) : ascI (stepN s n).items := by
  simp only [stepN]
  split
  · exact ascI_drop h
  · exact putL_asc h
theorem follow_asc : ∀ {l : List Nws} {s : Sto}, ascI s.items → ascI (followM s l).items
  | [], s, h => h
  | n :: l, s, h => follow_asc (l := l) (stepN_asc (n := n) h)
theorem look_nf {b : Bs} : ∀ (m : List Chg) (k : Nat) {s : Sto}, ascI s.items → lookI (followM s (nf k m)).items b = lookF b m k (lookI s.items b)
  | [], k, s, h => rfl
  | c :: m, k, s, h => by
    simp only [nf, lookF]
    by_cases hl : m.all (fun d => !decide (d.name = c.name)) = true
    · rw [if_pos hl]
      have e : followM s ([⟨c.name, c.gone, c.node, (k : Int) + 1⟩] ++ nf (k + 1) m) = followM (stepN s ⟨c.name, c.gone, c.node, (k : Int) + 1⟩) (nf (k + 1) m) := rfl
      rw [e, look_nf m (k + 1) (stepN_asc h), look_step h]
      by_cases hb : c.name = b
      · subst hb; rfl
      · simp only [if_neg hb]
    · rw [if_neg hl, List.nil_append, look_nf m (k + 1) h]
      by_cases hb : c.name = b
      · refine lookF_indep ?_
        simp only [List.all_eq_true, Bool.not_eq_true', decide_eq_false_iff_not, Classical.not_forall] at hl
        obtain ⟨d, hd, hne⟩ := hl
        exact ⟨d, hd, by rw [← hb]; exact Classical.not_not.1 hne⟩
      · rw [if_neg hb]
theorem feed_nf : ∀ (m : List Chg) (k : Nat) (c : Int), c ≤ k → (∀ d ∈ m, changeM d = true) → k + m.length ≤ 999 → feedOk c (nf k m) = true
  | [], _, _, _, _, _ => rfl
  | d :: m, k, c, hc, hm, hk => by
    simp only [List.length_cons] at hk
    have hd := hm d (List.mem_cons_self ..)
    have hr := fun c' h => feed_nf m (k + 1) c' h (fun x hx => hm x (List.mem_cons_of_mem _ hx)) (by omega)
    simp only [nf]
    split
    · show (newsM _ c && feedOk ((k : Int) + 1) (nf (k + 1) m)) = true
      rw [hr _ (by omega), Bool.and_true]
      simp only [newsM, Bool.and_eq_true, decide_eq_true_eq]
      exact ⟨⟨hd, by omega⟩, by omega⟩
    · rw [List.nil_append]; exact hr c (by omega)
theorem clock_nf : ∀ (m : List Chg) (k : Nat) (c : Int), m ≠ [] → clockF c (nf k m) = k + m.length
  | [], _, _, h => absurd rfl h
  | d :: m, k, c, _ => by
    simp only [nf]
    cases m with
    | nil => simp [nf, clockF]
    | cons e m =>
      have ih := fun c => clock_nf (e :: m) (k + 1) c (by simp)
      split
      · rw [List.singleton_append, clockF_cons, ih]; simp; omega
      · rw [List.nil_append, ih]; simp; omega
theorem follow_all {l : List Chg} {v : Int} {s : Sto} (h : stoAtM l v = some s) : ffM s (sinceV l v) = logM l ∧ (logM l).isSome = true := by
  unfold stoAtM at h
  split at h
  case isFalse => cases h
  rename_i hc
  obtain ⟨h1, h2, h3⟩ := hc
  have h20 := log_len h1
  obtain ⟨t, ht⟩ := Option.isSome_iff_exists.1 h1
  have hr : replayM l = some t := by
    unfold logM at ht
    rw [if_pos h20] at ht
    exact ht
  have hv : v.toNat ≤ l.length := by omega
  have e0 : sinceV l v = nf v.toNat (l.drop v.toNat) := by
    unfold sinceV; rw [if_pos ⟨h1, h2, h3⟩]; exact sinceF_nf l (l.length - v.toNat) v.toNat (by omega)
  have hs := replayM_ok h
  have hk : s.clock = (v.toNat : Nat) := by rw [hs.2, List.length_take, Nat.min_eq_left hv]
  have hf : replayFrom s (l.drop v.toNat) = some t := by
    have e : replayM l = (l.drop v.toNat).foldl stepM (replayM (l.take v.toNat)) := by
      unfold replayM replayFrom
      rw [← List.foldl_append, List.take_append_drop]
    rw [e, h] at hr
    exact hr
  have hto := replayM_ok hr
  have hasc := storeM_asc hs.1
  have hit : (followM s (sinceV l v)).items = t.items := by
    refine look_ext (follow_asc hasc) (storeM_asc hto.1) fun b => ?_
    rw [e0, look_nf _ _ hasc, replay_look hs.1 hk hf]
  have hch : ∀ d ∈ l.drop v.toNat, changeM d = true := by
    intro d hd
    have hd2 := List.mem_of_mem_drop hd
    obtain ⟨i, hi, rfl⟩ := List.getElem_of_mem hd2
    have := log_change h1 hi
    rwa [getD_get hi] at this
  have hfo : feedOk s.clock (sinceV l v) = true := by
    rw [e0]; exact feed_nf _ _ _ (by rw [hk]; exact Int.le_refl _) hch (by rw [List.length_drop]; omega)
  have hw := storeM_wide.1 hs.1
  have hcl : (followM s (sinceV l v)).clock = t.clock := by
    rw [(follow_wide hw.2 hfo).2.1, hto.2, e0]
    by_cases hn : l.drop v.toNat = []
    · rw [hn]
      have : l.length ≤ v.toNat := List.drop_eq_nil_iff.1 hn
      show s.clock = _
      rw [hk]; omega
    · rw [clock_nf _ _ _ hn, List.length_drop]; omega
  have he : followM s (sinceV l v) = t := sto_ext hit hcl
  refine ⟨?_, h1⟩
  rw [ht]
  unfold ffM
  have hlen := sinceV_len l v
  rw [if_pos (by simp only [areNewsM, hs.1, hfo, Bool.and_true, Bool.true_and, decide_eq_true_eq]; omega), he, if_pos (storeM_wide.1 hto.1).1]
theorem since_none {l : List Chg} {v : Int} (h : stoAtM l v = none) : sinceV l v = [] := by
  unfold stoAtM at h
  unfold sinceV
  split at h
  · rename_i hc
    have h1 := hc.1
    have hr : (replayM l).isSome = true := by
      unfold logM at h1
      rw [if_pos (log_len hc.1)] at h1
      exact h1
    have := replay_take_isSome (i := v.toNat) hr
    rw [h] at this
    cases this
  · rename_i hc
    rw [if_neg hc]
theorem follow_leaf {l : List Chg} {v : Int} (h : (stoAtM l v).isSome = true) : ((ffM ((stoAtM l v).getD ⟨[], 0⟩) (sinceV l v)).isSome && (logM l).isSome && eqD ((ffM ((stoAtM l v).getD ⟨[], 0⟩) (sinceV l v)).getD ⟨[], 0⟩) ((logM l).getD ⟨[], 0⟩)) = true := by
  obtain ⟨s, hs⟩ := Option.isSome_iff_exists.1 h
  rw [hs]
  simp only [Option.getD_some]
  obtain ⟨e1, e2⟩ := follow_all hs
  rw [e1, e2]
  simp [eqD_iff]
end Go.Rs
end
