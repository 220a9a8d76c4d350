import Derived.Test.YtgmilpefnaadmaaDoorMB
set_option linter.all false
section
/-! Plain models: news and feeds. -/
namespace Go.Rs
def newsM (n : Nws) (before : Int) : Bool := changeM ⟨n.name, n.gone, n.node⟩ && decide (before < n.version) && decide (n.version ≤ 999)
def feedOk : Int → List Nws → Bool
  | _, [] => true
  | c, n :: r => newsM n c && feedOk n.version r
def areNewsM (l : List Nws) (c : Int) : Bool := decide (l.length ≤ 20) && feedOk c l
def clockF (c : Int) (l : List Nws) : Int := match l.getLast? with
  | some n => n.version
  | none => c
theorem clockF_nil (c : Int) : clockF c [] = c := rfl
theorem clockF_snoc (c : Int) (l : List Nws) (n : Nws) : clockF c (l ++ [n]) = n.version := by simp [clockF]
theorem clockF_cons (c : Int) (n : Nws) (l : List Nws) : clockF c (n :: l) = clockF n.version l := by
  unfold clockF; rw [List.getLast?_cons]; cases l.getLast? <;> rfl
theorem feedOk_app : ∀ (c : Int) (l m : List Nws), feedOk c (l ++ m) = (feedOk c l && feedOk (clockF c l) m)
  | c, [], m => by simp [feedOk, clockF_nil]
  | c, n :: l, m => by rw [List.cons_append, feedOk, feedOk, feedOk_app, clockF_cons, Bool.and_assoc]
theorem feedOk_take {c : Int} {l : List Nws} {i : Nat} (h : i < l.length) : feedOk c (l.take (i + 1)) = (feedOk c (l.take i) && newsM (l.getD i default) (clockF c (l.take i))) := by
  rw [← take_snoc default h, feedOk_app]; simp [feedOk]
theorem clockF_take {c : Int} {l : List Nws} {i : Nat} (h : i < l.length) : clockF c (l.take (i + 1)) = (l.getD i default).version := by
  rw [← take_snoc default h, clockF_snoc]
theorem feedOk_pre {c : Int} {l : List Nws} (h : feedOk c l = true) (i : Nat) : feedOk c (l.take i) = true := by
  have : feedOk c (l.take i ++ l.drop i) = true := by rw [List.take_append_drop]; exact h
  rw [feedOk_app, Bool.and_eq_true] at this
  exact this.1
theorem feedOk_no {c : Int} {l : List Nws} {i : Nat} (h : feedOk c (l.take i) = false) : feedOk c l = false := by
  cases h2 : feedOk c l with
  | false => rfl
  | true => rw [feedOk_pre h2 i] at h; cases h
theorem feedOk_ge : ∀ {c : Int} {l : List Nws}, feedOk c l = true → c ≤ clockF c l ∧ ∀ n ∈ l, c < n.version ∧ n.version ≤ 999
  | c, [], _ => ⟨Int.le_refl _, by simp⟩
  | c, n :: l, h => by
    simp only [feedOk, newsM, Bool.and_eq_true, decide_eq_true_eq] at h
    obtain ⟨h1, h2⟩ := feedOk_ge h.2
    have g1 := h.1.1.2
    have g2 := h.1.2
    rw [clockF_cons]
    refine ⟨by omega, fun m hm => ?_⟩
    rcases List.mem_cons.1 hm with rfl | hm
    · omega
    · have := h2 m hm; omega
/-- The reference looks at each, and at the one before. -/
def feedAt (c : Int) (l : List Nws) (i : Nat) : Bool :=
  changeM ⟨(l.getD i default).name, (l.getD i default).gone, (l.getD i default).node⟩ && (decide (c + 1 ≤ (l.getD i default).version) && decide ((l.getD i default).version ≤ 999)) && (decide (i = 0) || decide ((l.getD (i - 1) default).version < (l.getD i default).version))
theorem feedAt_step {c : Int} {l : List Nws} {i : Nat} (h : i < l.length) (ho : feedOk c (l.take i) = true) : feedOk c (l.take (i + 1)) = feedAt c l i := by
  rw [feedOk_take h, ho, Bool.true_and]
  obtain ⟨h1, -⟩ := feedOk_ge ho
  unfold feedAt newsM
  cases i with
  | zero =>
    simp only [List.take_zero, clockF_nil]
    rw [Bool.eq_iff_iff]; simp; grind
  | succ i =>
    rw [clockF_take (by omega)] at h1 ⊢
    simp only [Nat.add_sub_cancel]
    rw [Bool.eq_iff_iff]; simp; grind
def stepN (s : Sto) (n : Nws) : Sto := ⟨if n.gone then dropL s.items n.name else putL s.items ⟨n.name, n.version, n.node⟩, n.version⟩
def followM (s : Sto) (l : List Nws) : Sto := l.foldl stepN s
theorem followM_take {s : Sto} {l : List Nws} {i : Nat} (h : i < l.length) : followM s (l.take (i + 1)) = stepN (followM s (l.take i)) (l.getD i default) := by
  rw [← take_snoc default h]; unfold followM; rw [List.foldl_append]; rfl
theorem followM_app (s : Sto) (l m : List Nws) : followM s (l ++ m) = followM (followM s l) m := by unfold followM; rw [List.foldl_append]
/-- A store but for the number of documents. -/
def wideS (s : Sto) : Prop := (0 ≤ s.clock ∧ s.clock ≤ 999) ∧ (∀ x ∈ s.items, itOk s.clock x) ∧ ascI s.items
theorem storeM_wide {s : Sto} : storeM s = true ↔ s.items.length ≤ 10 ∧ wideS s := storeM_iff
theorem dropL_sorted {l : List It} {b : Bs} (h : ascI l) : ascI (dropL l b) := ascI_drop h
theorem ltS_total {a b : Bs} (h : ltS a b = false) (hne : a ≠ b) : ltS b a = true := by
  cases h2 : ltS b a with
  | true => rfl
  | false => exact absurd (ltS_tri h h2) hne
theorem putL_cons (it x : It) (r : List It) : putL (x :: r) it = if ltS x.name it.name then x :: putL r it else it :: dropL (x :: r) it.name := rfl
theorem putL_asc {it : It} : ∀ {l : List It}, ascI l → ascI (putL l it)
  | [], _ => by simp [putL, ascI]
  | x :: r, h => by
    rw [putL_cons]
    have h' := List.pairwise_cons.1 h
    split
    · rename_i hlt
      refine List.pairwise_cons.2 ⟨fun y hy => ?_, putL_asc h'.2⟩
      rcases putL_mem hy with rfl | hy
      · exact hlt
      · exact h'.1 y hy
    · rename_i hge
      have hge : ltS x.name it.name = false := by simpa using hge
      refine List.pairwise_cons.2 ⟨fun y hy => ?_, ascI_drop h⟩
      have hy1 := dropL_mem hy
      have hne : y.name ≠ it.name := by
        have := (List.mem_filter.1 hy).2
        simpa using this
      rcases List.mem_cons.1 hy1 with rfl | hy2
      · exact ltS_total hge hne
      · have h3 := h'.1 y hy2
        exact ltS_le_lt hge h3
theorem stepN_wide {s : Sto} {n : Nws} (h : wideS s) (hn : newsM n s.clock = true) : wideS (stepN s n) := by
  simp only [newsM, changeM, Bool.and_eq_true, decide_eq_true_eq] at hn
  obtain ⟨⟨⟨⟨hname, hnode⟩, hg⟩, h1⟩, h2⟩ := hn
  obtain ⟨hc, hi, ha⟩ := h
  have hup : ∀ x ∈ s.items, itOk n.version x := fun x hx => by
    have := hi x hx
    exact ⟨this.1, this.2.1, this.2.2.1, by have := this.2.2.2; omega⟩
  refine ⟨⟨by simp only [stepN]; omega, h2⟩, ?_, ?_⟩
  · intro x hx
    simp only [stepN] at hx ⊢
    split at hx
    · exact hup x (dropL_mem hx)
    · rcases putL_mem hx with rfl | hx
      · exact ⟨hname, hnode, by simp only; omega, Int.le_refl _⟩
      · exact hup x hx
  · simp only [stepN]
    split
    · exact ascI_drop ha
    · exact putL_asc ha
theorem stepN_len (s : Sto) (n : Nws) : (stepN s n).items.length ≤ s.items.length + 1 := by
  simp only [stepN]
  split
  · exact Nat.le_trans (dropL_len _ _) (Nat.le_succ _)
  · exact putL_len _ _
theorem follow_wide : ∀ {l : List Nws} {s : Sto}, wideS s → feedOk s.clock l = true → wideS (followM s l) ∧ (followM s l).clock = clockF s.clock l ∧ (followM s l).items.length ≤ s.items.length + l.length
  | [], s, h, _ => ⟨h, rfl, Nat.le_refl _⟩
  | n :: l, s, h, ho => by
    simp only [feedOk, Bool.and_eq_true] at ho
    have h1 := stepN_wide h ho.1
    have e : followM s (n :: l) = followM (stepN s n) l := rfl
    obtain ⟨h2, h3, h4⟩ := follow_wide h1 (show feedOk (stepN s n).clock l = true from ho.2)
    have h5 := stepN_len s n
    rw [e, clockF_cons]
    exact ⟨h2, h3, by simp; omega⟩
def ffM (s : Sto) (l : List Nws) : Option Sto := if storeM s && areNewsM l s.clock then (if (followM s l).items.length ≤ 10 then some (followM s l) else none) else none
theorem ff_facts {s : Sto} {l : List Nws} (h : (storeM s && areNewsM l s.clock) = true) (i : Nat) : wideS (followM s (l.take i)) ∧ (followM s (l.take i)).clock = clockF s.clock (l.take i) ∧ (followM s (l.take i)).items.length ≤ 30 ∧ l.length ≤ 20 ∧ feedOk s.clock l = true := by
  simp only [areNewsM, Bool.and_eq_true, decide_eq_true_eq] at h
  have hw := storeM_wide.1 h.1
  obtain ⟨h1, h2, h3⟩ := follow_wide hw.2 (feedOk_pre h.2.2 i)
  have h4 : (l.take i).length ≤ l.length := by simp; omega
  exact ⟨h1, h2, by omega, h.2.1, h.2.2⟩
theorem ff_store {s : Sto} {l : List Nws} (h : (storeM s && areNewsM l s.clock) = true) : storeM (followM s l) = decide ((followM s l).items.length ≤ 10) := by
  have h1 := (ff_facts h l.length).1
  rw [List.take_length] at h1
  rw [Bool.eq_iff_iff, storeM_wide, decide_eq_true_eq]
  exact ⟨fun h => h.1, fun h => ⟨h, h1⟩⟩
theorem wide_small {s : Sto} (h : wideS s) (hl : s.items.length ≤ 30) : smS s := ⟨by omega, fun x hx => validM_sm (h.2.1 x hx).2.1⟩
theorem look_step {s : Sto} {n : Nws} {b : Bs} (h : ascI s.items) : lookI (stepN s n).items b = if n.name = b then (if n.gone then none else some ⟨n.name, n.version, n.node⟩) else lookI s.items b := by
  simp only [stepN]
  cases hg : n.gone with
  | true => simp only [if_true]; rw [lookI_drop]
  | false => simp only [Bool.false_eq_true, if_false]; rw [lookI_put _ _ _ h]
theorem look_follow {b : Bs} : ∀ {l : List Nws} {s : Sto}, wideS s → feedOk s.clock l = true → (∀ n ∈ l, n.name ≠ b) → lookI (followM s l).items b = lookI s.items b
  | [], s, _, _, _ => rfl
  | n :: l, s, h, ho, hn => by
    simp only [feedOk, Bool.and_eq_true] at ho
    have e : followM s (n :: l) = followM (stepN s n) l := rfl
    rw [e, look_follow (stepN_wide h ho.1) ho.2 fun m hm => hn m (by simp [hm]), look_step h.2.2, if_neg (hn n (by simp))]
theorem dropL_new {l : List It} {b : Bs} (h : ascI l) (hf : foundI l b = false) : dropL l b = l := by
  refine dropL_none fun x hx e => ?_
  have h1 := lookI_found (b := b) h
  rw [hf, if_neg (by simp)] at h1
  unfold lookI at h1
  rw [List.find?_eq_none] at h1
  have := h1 x hx
  simp [e] at this
/-- What is there under the name of news behind which no others have it. -/
theorem look_last {s : Sto} {l : List Nws} (h : (storeM s && areNewsM l s.clock) = true) {i : Nat} (hi : i < l.length) (hl : ∀ n ∈ l.drop (i + 1), n.name ≠ (l.getD i default).name) :
    lookI (followM s l).items (l.getD i default).name = if (l.getD i default).gone then none else some ⟨(l.getD i default).name, (l.getD i default).version, (l.getD i default).node⟩ := by
  obtain ⟨h1, h2, -, -, h5⟩ := ff_facts h i
  obtain ⟨h6, h7, -, -, -⟩ := ff_facts h (i + 1)
  have e : followM s l = followM (followM s (l.take (i + 1))) (l.drop (i + 1)) := by rw [← followM_app, List.take_append_drop]
  have ho : feedOk (followM s (l.take (i + 1))).clock (l.drop (i + 1)) = true := by
    rw [h7]
    have : feedOk s.clock (l.take (i + 1) ++ l.drop (i + 1)) = true := by rw [List.take_append_drop]; exact h5
    rw [feedOk_app, Bool.and_eq_true] at this
    exact this.2
  rw [e, look_follow h6 ho hl, followM_take hi, look_step h1.2.2, if_pos rfl]
theorem log_change {l : List Chg} (h : (logM l).isSome = true) {i : Nat} (hi : i < l.length) : changeM (l.getD i default) = true := by
  have hr : (replayM l).isSome = true := by
    unfold logM at h
    split at h
    · exact h
    · cases h
  have h1 := replay_take_isSome (i := i + 1) hr
  rw [replayM_take hi] at h1
  cases hs : replayM (l.take i) with
  | none => rw [hs] at h1; cases h1
  | some s =>
    rw [hs] at h1
    unfold stepM at h1
    simp only at h1
    split at h1
    · assumption
    · cases h1
theorem log_node {l : List Chg} (h : (logM l).isSome = true) {i : Nat} (hi : i < l.length) : smN (l.getD i default).node := by
  have := log_change h hi
  simp only [changeM, Bool.and_eq_true] at this
  exact validM_sm this.1.2
/-- News of a log. -/
def nwAt (l : List Chg) (i : Nat) : Nws := ⟨(l.getD i default).name, (l.getD i default).gone, (l.getD i default).node, (i : Int) + 1⟩
def sinceF (l : List Chg) (v k : Nat) : List Nws := (List.range' v (k - v)).filterMap fun i => if lastM l i then some (nwAt l i) else none
theorem sinceF_zero (l : List Chg) (v : Nat) : sinceF l v v = [] := by simp [sinceF]
theorem sinceF_succ {l : List Chg} {v k : Nat} (h : v ≤ k) : sinceF l v (k + 1) = sinceF l v k ++ (if lastM l k then [nwAt l k] else []) := by
  unfold sinceF
  rw [show k + 1 - v = (k - v) + 1 by omega, List.range'_concat, List.filterMap_append]
  congr 1
  rw [show v + 1 * (k - v) = k by omega]
  by_cases h : lastM l k = true <;> simp [h]
theorem sinceF_len (l : List Chg) (v k : Nat) : (sinceF l v k).length ≤ k - v := by
  unfold sinceF; exact Nat.le_trans (List.length_filterMap_le _ _) (by simp)
def sinceV (l : List Chg) (v : Int) : List Nws := if (logM l).isSome ∧ 0 ≤ v ∧ v ≤ l.length then sinceF l v.toNat l.length else []
theorem lastM_iff (l : List Chg) (k : Nat) : lastM l k = true ↔ ∀ j, k < j → j < l.length → (l.getD j default).name ≠ (l.getD k default).name := by
  unfold lastM
  rw [List.all_eq_true]
  constructor
  · intro h j h1 h2
    have := h (l.getD j default) (by
      rw [getD_get h2, List.mem_iff_getElem]
      exact ⟨j - (k + 1), by first | (simp; done) | (simp; omega), by simp only [List.getElem_drop]; congr 1; omega⟩)
    simpa using this
  · intro h c hc
    obtain ⟨j, hj, rfl⟩ := List.mem_iff_getElem.1 hc
    simp at hj
    have := h (k + 1 + j) (by omega) (by omega)
    rw [getD_get (by omega)] at this
    simpa using this
end Go.Rs
end
section
/-! Plain models: the order of nodes, names searched, nodes at pointers. -/
namespace Go.Rs
def ordI (a b : Int) : Int := if b < a then 1 else if a < b then -1 else 0
theorem ordI_refl (a : Int) : ordI a a = 0 := by simp [ordI]
theorem ordI_zero {a b : Int} : ordI a b = 0 ↔ a = b := by unfold ordI; split <;> (try split) <;> omega
theorem cmpI_refl (a : Bs) : cmpI a a = 0 := by simp [cmpI, ltS_irrefl]
theorem cmpI_zero {a b : Bs} : cmpI a b = 0 ↔ a = b := by
  unfold cmpI
  cases h1 : ltS a b with
  | true => simp; exact ltS_ne h1
  | false =>
    cases h2 : ltS b a with
    | true => simp; exact fun e => ltS_ne h2 e.symm
    | false => simp; exact ltS_tri h1 h2
theorem cmpI_rng (a b : Bs) : -1 ≤ cmpI a b ∧ cmpI a b ≤ 1 := by unfold cmpI; split <;> (try split) <;> omega
theorem ordI_rng (a b : Int) : -1 ≤ ordI a b ∧ ordI a b ≤ 1 := by unfold ordI; split <;> (try split) <;> omega
def cmpN : Nd → Nd → Int
  | ⟨k, m, t, ns, l⟩, b => if k = b.kind then (if m = b.num then (if t = b.text then go k l ns b.names b.kids else cmpI t b.text) else ordI m b.num) else ordI k b.kind
where go (k : Int) : List Nd → List Bs → List Bs → List Nd → Int
  | x :: l, n, n', y :: r => if k = 4 ∧ n.headD [] ≠ n'.headD [] then cmpI (n.headD []) (n'.headD []) else (if cmpN x y = 0 then go k l n.tail n'.tail r else cmpN x y)
  | l, _, _, r => ordI l.length r.length
theorem cmpN_eq (a b : Nd) : cmpN a b = if a.kind = b.kind then (if a.num = b.num then (if a.text = b.text then cmpN.go a.kind a.kids a.names b.names b.kids else cmpI a.text b.text) else ordI a.num b.num) else ordI a.kind b.kind := by
  cases a; rw [cmpN]
/-- From the i-th kid on. -/
def cmpK (a b : Nd) (i : Nat) : Int := cmpN.go a.kind (a.kids.drop i) (a.names.drop i) (b.names.drop i) (b.kids.drop i)
theorem headD_drop {l : List Bs} {i : Nat} : (l.drop i).headD [] = l.getD i [] := by
  rw [List.headD_eq_head?_getD, List.head?_drop, List.getD_eq_getElem?_getD]
theorem cmpK_step {a b : Nd} {i : Nat} (h1 : i < a.kids.length) (h2 : i < b.kids.length) : cmpK a b i =
    if a.kind = 4 ∧ a.names.getD i [] ≠ b.names.getD i [] then cmpI (a.names.getD i []) (b.names.getD i []) else (if cmpN (a.kids.getD i default) (b.kids.getD i default) = 0 then cmpK a b (i + 1) else cmpN (a.kids.getD i default) (b.kids.getD i default)) := by
  unfold cmpK
  rw [List.drop_eq_getElem_cons h1, List.drop_eq_getElem_cons h2, cmpN.go, headD_drop, headD_drop, List.tail_drop, List.tail_drop, getD_get h1, getD_get h2]
theorem cmpK_end {a b : Nd} {i : Nat} (h1 : i ≤ a.kids.length) (h2 : i ≤ b.kids.length) (h : i = a.kids.length ∨ i = b.kids.length) : cmpK a b i = ordI a.kids.length b.kids.length := by
  unfold cmpK
  have key : ∀ (k : Int) (l r : List Nd) (n n' : List Bs), l = [] ∨ r = [] → cmpN.go k l n n' r = ordI l.length r.length := by
    intro k l r n n' h
    cases l with
    | nil => rw [cmpN.go]; intro _ _ _ _ e; cases e
    | cons x l =>
      cases r with
      | nil => rw [cmpN.go]; intro _ _ _ _ _ e; cases e
      | cons y r => rcases h with h | h <;> cases h
  rw [key _ _ _ _ _ (by rcases h with h | h; exact .inl (by rw [h]; exact List.drop_length); exact .inr (by rw [h]; exact List.drop_length))]
  simp only [List.length_drop]
  unfold ordI
  split <;> split <;> (try split) <;> (try split) <;> omega
theorem cmpK_zero (a b : Nd) : cmpK a b 0 = cmpN.go a.kind a.kids a.names b.names b.kids := rfl
theorem cmpN_refl : ∀ n : Nd, cmpN n n = 0
  | ⟨k, m, t, ns, l⟩ => by
    rw [cmpN_eq]
    simp only [if_true]
    have hk : ∀ x ∈ l, cmpN x x = 0 := fun x hx => by
      have : SizeOf.sizeOf x < 1 + SizeOf.sizeOf k + SizeOf.sizeOf m + SizeOf.sizeOf t + SizeOf.sizeOf ns + SizeOf.sizeOf l := by have := List.sizeOf_lt_of_mem hx; omega
      exact cmpN_refl x
    have key : ∀ (l : List Nd) (n : List Bs), (∀ x ∈ l, cmpN x x = 0) → cmpN.go k l n n l = 0 := by
      intro l
      induction l with
      | nil => intro n _; rw [cmpN.go]; exact ordI_refl _; intro _ _ _ _ e; cases e
      | cons x l ih =>
        intro n h
        rw [cmpN.go, if_neg (by simp), if_pos (h x (by simp)), ih _ fun y hy => h y (by simp [hy])]
    exact key l ns hk
termination_by n => SizeOf.sizeOf n
theorem okN_default : okN default := ⟨1, by omega, by decide⟩
/-- Names, as documents. -/
def nmI (l : List Bs) : List It := l.map fun x => ⟨x, 0, default⟩
theorem nmI_len (l : List Bs) : (nmI l).length = l.length := by simp [nmI]
theorem nmI_get (l : List Bs) (j : Nat) : ((nmI l).getD j default).name = l.getD j [] := by
  unfold nmI
  rw [List.getD_eq_getElem?_getD, List.getD_eq_getElem?_getD, List.getElem?_map]
  cases l[j]? <;> rfl
theorem names_sorted {l : List Bs} (h : namesM l = true) : sortedI (nmI l) := by
  have hadj : ∀ j, 0 < j → j < l.length → ltS (l.getD (j - 1) []) (l.getD j []) = true := fun j h0 hj => by
    have := (namesM_iff l).1 h j hj
    simp only [nameOk, Bool.and_eq_true, Bool.or_eq_true, decide_eq_true_eq] at this
    rcases this.2 with h | h
    · omega
    · exact h
  intro i j hij hj
  rw [nmI_len] at hj
  rw [nmI_get, nmI_get]
  induction j with
  | zero => omega
  | succ j ih =>
    have h1 := hadj (j + 1) (by omega) hj
    rw [Nat.add_sub_cancel] at h1
    rcases Nat.lt_or_eq_of_le (Nat.le_of_lt_succ hij) with h | h
    · exact ltS_trans (ih h (by omega)) h1
    · subst h; exact h1
theorem okN_sorted {n : Nd} (h : okN n) (hk : n.kind = 4) : sortedI (nmI n.names) := by
  have := okN_parts h
  refine names_sorted ?_
  simp only [partsM] at this
  grind [areNamesM]
def kidM (n : Nd) (b : Bs) : Int × Bool :=
  if n.kind = 4 then ((lbI (nmI n.names) b : Int), foundI (nmI n.names) b) else if placeM n b < 0 then (0, false) else (placeM n b, true)
theorem kid_map {n : Nd} {b : Bs} (h : okN n) (hk : n.kind = 4) : foundI (nmI n.names) b = !decide (placeM n b < 0) ∧ (foundI (nmI n.names) b = true → placeM n b = lbI (nmI n.names) b) := by
  have hs := ascI_sorted.2 (okN_sorted h hk)
  have hl := (okN_names h).2.1 hk
  cases hf : foundI (nmI n.names) b with
  | true =>
    have h1 : lbI (nmI n.names) b < (nmI n.names).length ∧ ((nmI n.names).getD (lbI (nmI n.names) b) default).name = b := by simp only [foundI, Bool.and_eq_true, decide_eq_true_eq] at hf; exact hf
    have hp : placeM n b = lbI (nmI n.names) b := by
      refine placeM_at (by rw [← hl, ← nmI_len]; exact h1.1) (hitM_iff.2 (.inl ⟨hk, by rw [← nmI_get]; exact h1.2⟩)) fun j hj => ?_
      refine hitM_no ⟨fun _ e => ?_, fun h3 => by omega⟩
      have h2 := lbI_lt hj
      rw [nmI_get, e] at h2
      rw [ltS_irrefl] at h2; cases h2
    exact ⟨by rw [hp]; simp, fun _ => hp⟩
  | false =>
    have hp : placeM n b = -1 := by
      refine placeM_none fun j hj => hitM_no ⟨fun _ e => ?_, fun h3 => by omega⟩
      have h1 := lookI_found (b := b) hs
      rw [hf, if_neg (by simp)] at h1
      unfold lookI at h1
      rw [List.find?_eq_none] at h1
      have hjn : j < (nmI n.names).length := by rw [nmI_len, hl]; exact hj
      have := h1 ((nmI n.names).getD j default) (getD_mem hjn)
      rw [nmI_get, e] at this
      simp at this
    exact ⟨by rw [hp]; simp, fun h => by cases h⟩
theorem kidM_ok {n : Nd} {b : Bs} (h : okN n) : (kidM n b).2 = !decide (placeM n b < 0) ∧ ((kidM n b).2 = true → (kidM n b).1 = placeM n b) := by
  unfold kidM
  split
  · rename_i hk
    have := kid_map (b := b) h hk
    exact ⟨this.1, fun h => (this.2 h).symm⟩
  · split
    · rename_i hp; exact ⟨by simp [hp], fun h => by cases h⟩
    · rename_i hp; exact ⟨by simp [hp], fun _ => rfl⟩
/-- The node at a pointer. -/
def findM : Nd → List Bs → Option Nd
  | n, [] => some n
  | n, s :: p => if placeM n s < 0 then none else findM (n.kids.getD (placeM n s).toNat default) p
theorem findM_drop {n : Nd} {p : List Bs} {i : Nat} (h : i < p.length) : findM n (p.drop i) = if placeM n (p.getD i []) < 0 then none else findM (n.kids.getD (placeM n (p.getD i [])).toNat default) (p.drop (i + 1)) := by
  rw [List.drop_eq_getElem_cons h, findM, getD_get h]
theorem findM_ok : ∀ {p : List Bs} {n m : Nd}, okN n → findM n p = some m → okN m
  | [], n, m, h, e => by cases e; exact h
  | s :: p, n, m, h, e => by
    rw [findM] at e
    split at e
    · cases e
    · have := (placeM_ge n s).2.1
      exact findM_ok (okN_kid h (by omega)) e
def pathM (p : List Bs) : Bool := decide (p.length ≤ 5) && p.all txtM
theorem allB_iff (l : List Bs) (p : Bs → Bool) : l.all p = true ↔ ∀ j, j < l.length → p (l.getD j []) = true := by
  rw [List.all_eq_true]
  exact ⟨fun h j hj => h _ (getD_mem hj), fun h x hx => by obtain ⟨j, hj, rfl⟩ := List.mem_iff_getElem.1 hx; rw [← getD_get hj []]; exact h j hj⟩
theorem allB_no {s : List Bs} {p : Bs → Bool} {j : Nat} (hj : j < s.length) (h : p (s.getD j []) = false) : s.all p = false := by
  rw [Bool.eq_false_iff]; intro e; rw [(allB_iff s p).1 e j hj] at h; cases h
def nodeAtM (n : Nd) (p : List Bs) : Option Nd := if validM n && pathM p then findM n p else none
def filterM (f : Flt) : Bool := pathM f.path && (decide (0 ≤ f.test) && decide (f.test ≤ 3)) && validM f.value
def testM (t : Int) (a b : Nd) : Bool := if t = 1 then decide (cmpN a b = 0) else if t = 2 then decide (cmpN a b < 0) else if t = 3 then decide (0 < cmpN a b) else true
def matchesM (n : Nd) (f : Flt) : Bool := match findM n f.path with
  | some m => testM f.test m f.value
  | none => false
def matchM (n : Nd) (f : Flt) : Bool := validM n && filterM f && matchesM n f
theorem depth_pos (n : Nd) : 0 < depthM n := by rw [depthM_eq]; omega
theorem maxN_ge {f : Nd → Nat} : ∀ {l : List Nd} {x : Nd}, x ∈ l → f x ≤ maxN f l
  | [], x, h => by cases h
  | y :: l, x, h => by
    have e : maxN f (y :: l) = Nat.max (f y) (maxN f l) ∨ maxN f (y :: l) = Nat.max (maxN f l) (f y) := by first | exact .inl rfl | exact .inr rfl
    rcases List.mem_cons.1 h with rfl | h
    · rcases e with e | e <;> rw [e] <;> simp only [Nat.max_def] <;> split <;> omega
    · have := maxN_ge (f := f) h
      rcases e with e | e <;> rw [e] <;> simp only [Nat.max_def] <;> split <;> omega
theorem depth_kid {n : Nd} {j : Nat} (h : j < n.kids.length) : depthM (n.kids.getD j default) + 1 ≤ depthM n := by
  rw [depthM_eq n]
  have := maxN_ge (f := depthM) (getD_mem (d := default) h)
  omega
theorem cmpN_rng : ∀ a b : Nd, -1 ≤ cmpN a b ∧ cmpN a b ≤ 1
  | ⟨k, m, t, ns, l⟩, b => by
    rw [cmpN_eq]
    have hk : ∀ x ∈ l, ∀ y, -1 ≤ cmpN x y ∧ cmpN x y ≤ 1 := fun x hx y => by
      have : SizeOf.sizeOf x < 1 + SizeOf.sizeOf k + SizeOf.sizeOf m + SizeOf.sizeOf t + SizeOf.sizeOf ns + SizeOf.sizeOf l := by have := List.sizeOf_lt_of_mem hx; omega
      exact cmpN_rng x y
    have key : ∀ (l : List Nd) (n n' : List Bs) (r : List Nd), (∀ x ∈ l, ∀ y, -1 ≤ cmpN x y ∧ cmpN x y ≤ 1) → -1 ≤ cmpN.go k l n n' r ∧ cmpN.go k l n n' r ≤ 1 := by
      intro l
      induction l with
      | nil => intro n n' r _; rw [cmpN.go]; exact ordI_rng _ _; intro _ _ _ _ e; cases e
      | cons x l ih =>
        intro n n' r h
        cases r with
        | nil => rw [cmpN.go]; exact ordI_rng _ _; intro _ _ _ _ _ e; cases e
        | cons y r =>
          rw [cmpN.go]
          split
          · exact cmpI_rng _ _
          · split
            · exact ih _ _ _ fun z hz => h z (by simp [hz])
            · exact h x (by simp) y
    split
    · split
      · split
        · exact key _ _ _ _ hk
        · exact cmpI_rng _ _
      · exact ordI_rng _ _
    · exact ordI_rng _ _
termination_by a => SizeOf.sizeOf a
end Go.Rs
end
section
/-! Plain models: parts of valid nodes are valid; filters and stores. -/
namespace Go.Rs
theorem shape_mono : ∀ {d : Nat} {n : Nd}, shapeM d n = true → shapeM (d + 1) n = true
  | 0, n, h => by obtain ⟨-, e, he⟩ := shape_parts h; omega
  | d + 1, n, h => by
    have h1 := (shape_parts h).1
    have h2 : ∀ x ∈ n.kids, shapeM d x = true := fun x hx => shape_kid h hx
    have e := shapeM_pos n (d := ((d + 2 : Nat) : Int)) (by omega)
    rw [Int.toNat_natCast] at e
    rw [e, h1, Bool.true_and, List.all_eq_true]
    intro x hx
    exact shape_mono (h2 x hx)
theorem shape_le {d e : Nat} {n : Nd} (h : shapeM d n = true) (hle : d ≤ e) : shapeM e n = true := by
  induction hle with
  | refl => exact h
  | step _ ih => exact shape_mono ih
theorem okN_shape {n : Nd} (h : okN n) : shapeM 5 n = true := by obtain ⟨d, hd, h⟩ := h; exact shape_le h hd
theorem validM_iff {n : Nd} : validM n = true ↔ okN n ∧ countM n ≤ 40 := by
  constructor
  · intro h
    refine ⟨validM_ok h, ?_⟩
    simp only [validM, Bool.and_eq_true, decide_eq_true_eq] at h
    exact h.2
  · rintro ⟨h1, h2⟩
    simp only [validM, okN_shape h1, Bool.true_and]; exact decide_eq_true h2
theorem sumN_ge {f : Nd → Nat} {l : List Nd} {j : Nat} (h : j < l.length) : f (l.getD j default) ≤ sumN f l := by
  have h1 := sumN_take (f := f) h
  have h2 : sumN f (l.take (j + 1)) ≤ sumN f l := sumN_take_le
  omega
theorem count_kid {n : Nd} {j : Nat} (h : j < n.kids.length) : countM (n.kids.getD j default) < countM n := by
  rw [countM_eq n]; have := sumN_ge (f := countM) h; omega
theorem count_find : ∀ {p : List Bs} {n m : Nd}, findM n p = some m → countM m ≤ countM n
  | [], n, m, e => by cases e; exact Nat.le_refl _
  | s :: p, n, m, e => by
    rw [findM] at e
    split at e
    · cases e
    · have h1 := (placeM_ge n s).2.1
      have h2 := count_find e
      have h3 := count_kid (n := n) (j := (placeM n s).toNat) (by omega)
      omega
theorem find_valid {n m : Nd} {p : List Bs} (h : validM n = true) (e : findM n p = some m) : validM m = true := by
  obtain ⟨h1, h2⟩ := validM_iff.1 h
  exact validM_iff.2 ⟨findM_ok h1 e, Nat.le_trans (count_find e) h2⟩
theorem valid0 : validM default = true := by decide
theorem pathM_nil : pathM [] = true := by decide
theorem match_whole {n : Nd} (h : validM n = true) : matchM n ⟨[], 1, n⟩ = true ∧ matchM n ⟨[], 2, n⟩ = false ∧ matchM n ⟨[], 3, n⟩ = false := by
  simp [matchM, filterM, matchesM, testM, findM, h, pathM_nil, cmpN_refl]
theorem nodeAt_isSome (n : Nd) (p : List Bs) : (nodeAtM n p).isSome = (validM n && pathM p && (findM n p).isSome) := by
  unfold nodeAtM; cases validM n <;> cases pathM p <;> simp
theorem matches_isSome (n : Nd) (f : Flt) : matchesM n f = true → (findM n f.path).isSome = true := by
  unfold matchesM; cases findM n f.path <;> simp
theorem match_has (n : Nd) (f : Flt) : matchM n ⟨f.path, 0, default⟩ = (nodeAtM n f.path).isSome := by
  rw [nodeAt_isSome]
  simp only [matchM, filterM, valid0, matchesM, testM]
  cases findM n f.path <;> simp
theorem match_is (n : Nd) (f : Flt) : matchM n ⟨f.path, 1, (nodeAtM n f.path).getD default⟩ = (nodeAtM n f.path).isSome := by
  cases h : nodeAtM n f.path with
  | none =>
    have := nodeAt_isSome n f.path
    rw [h] at this
    simp only [Option.isSome_none, Option.getD_none, matchM, filterM, valid0, matchesM, testM]
    cases hv : validM n <;> cases hp : pathM f.path <;> cases hf : findM n f.path <;> simp_all
  | some m =>
    have := nodeAt_isSome n f.path
    rw [h] at this
    simp only [Option.isSome_some, Bool.true_eq, Bool.and_eq_true] at this
    have e : findM n f.path = some m := by unfold nodeAtM at h; rw [if_pos (by simp [this])] at h; exact h
    have hv := find_valid this.1.1 e
    simp [matchM, filterM, matchesM, testM, e, hv, this, cmpN_refl]
theorem match_imp {n : Nd} {f : Flt} (h : matchM n f = true) : (nodeAtM n f.path).isSome = true := by
  rw [nodeAt_isSome]
  simp only [matchM, filterM, Bool.and_eq_true] at h
  simp [h, matches_isSome n f h.2]
def kM (n : Nd) (f : Flt) (t : Nat) : Nat := (if 1 < t ∧ matchM n ⟨f.path, 1, f.value⟩ then 1 else 0) + (if 2 < t ∧ matchM n ⟨f.path, 2, f.value⟩ then 1 else 0) + (if 3 < t ∧ matchM n ⟨f.path, 3, f.value⟩ then 1 else 0)
theorem kM_step (n : Nd) (f : Flt) {t : Nat} (h1 : 1 ≤ t) (h3 : t ≤ 3) : kM n f (t + 1) = kM n f t + (if matchM n ⟨f.path, (t : Int), f.value⟩ then 1 else 0) := by
  have : t = 1 ∨ t = 2 ∨ t = 3 := by omega
  rcases this with rfl | rfl | rfl <;> simp [kM]
theorem kM_one (n : Nd) (f : Flt) : kM n f 1 = 0 := by simp [kM]
theorem kM_le (n : Nd) (f : Flt) (t : Nat) : kM n f t ≤ 3 := by unfold kM; split <;> split <;> split <;> omega
theorem kM_four {n : Nd} {f : Flt} (h : validM f.value = true) : kM n f 4 = if (nodeAtM n f.path).isSome then 1 else 0 := by
  rw [nodeAt_isSome]
  simp only [kM, matchM, filterM, matchesM, testM, h]
  cases validM n <;> cases pathM f.path <;> cases findM n f.path <;> simp
  rename_i m
  rcases Int.lt_trichotomy (cmpN m f.value) 0 with h | h | h
  · rw [if_neg (by omega), if_pos h, if_neg (by omega)]
  · rw [if_pos h, if_neg (by omega), if_neg (by omega)]
  · rw [if_neg (by omega), if_neg (by omega), if_pos h]
end Go.Rs
end
section
/-! Plain models: documents selected. -/
namespace Go.Rs
def filtersM (l : List Flt) : Bool := decide (l.length ≤ 4) && l.all filterM
theorem allF_iff (l : List Flt) (p : Flt → Bool) : l.all p = true ↔ ∀ j, j < l.length → p (l.getD j default) = true := by
  rw [List.all_eq_true]
  exact ⟨fun h j hj => h _ (getD_mem hj), fun h x hx => by obtain ⟨j, hj, rfl⟩ := List.mem_iff_getElem.1 hx; rw [← getD_get hj default]; exact h j hj⟩
theorem allF_no {s : List Flt} {p : Flt → Bool} {j : Nat} (hj : j < s.length) (h : p (s.getD j default) = false) : s.all p = false := by
  rw [Bool.eq_false_iff]; intro e; rw [(allF_iff s p).1 e j hj] at h; cases h
def selP (l : List Flt) (x : It) : Bool := l.all fun f => matchM x.node f
def selL (s : Sto) (l : List Flt) : List It := s.items.filter (selP l)
def selM (s : Sto) (l : List Flt) : Sto := if storeM s && filtersM l then ⟨selL s l, s.clock⟩ else ⟨[], 0⟩
theorem sel_take {s : Sto} {l : List Flt} {i : Nat} (h : i < s.items.length) : (s.items.take (i + 1)).filter (selP l) = (s.items.take i).filter (selP l) ++ (if selP l (s.items.getD i default) then [s.items.getD i default] else []) := filter_take _ h default
theorem sel_len (s : Sto) (l : List Flt) (i : Nat) : ((s.items.take i).filter (selP l)).length ≤ i := Nat.le_trans (List.length_filter_le _ _) (by simp; omega)
theorem match_matches {n : Nd} {f : Flt} (h1 : validM n = true) (h2 : filterM f = true) : matchM n f = matchesM n f := by simp [matchM, h1, h2]
theorem storeM_node {s : Sto} (h : storeM s = true) {i : Nat} (hi : i < s.items.length) : validM (s.items.getD i default).node = true := by
  have := (storeM_iff.1 h).2.2.1 _ (getD_mem (d := default) hi)
  exact this.2.1
theorem sel_store {s : Sto} {l : List Flt} (h : storeM s = true) : storeM ⟨selL s l, s.clock⟩ = true := by
  obtain ⟨h1, h2, h3, h4⟩ := storeM_iff.1 h
  exact storeM_iff.2 ⟨Nat.le_trans (List.length_filter_le _ _) h1, h2, fun x hx => h3 x (List.mem_filter.1 hx).1, List.Pairwise.filter _ h4⟩
theorem sel_again {s : Sto} {l : List Flt} (h : storeM s = true) : selL ⟨selL s l, s.clock⟩ l = selL s l := by
  unfold selL; simp only; rw [List.filter_filter]; congr 1; funext x; simp
theorem selM_again {s : Sto} {l : List Flt} (h : (storeM s && filtersM l) = true) : selM (selM s l) l = selM s l := by
  have h1 : storeM s = true := by simp only [Bool.and_eq_true] at h; exact h.1
  have h2 : filtersM l = true := by simp only [Bool.and_eq_true] at h; exact h.2
  have e : selM s l = ⟨selL s l, s.clock⟩ := by unfold selM; rw [if_pos h]
  rw [e]
  unfold selM
  rw [if_pos (by rw [sel_store h1, h2]; rfl), sel_again h1]
def namesI (l : List It) : List Bs := l.map (·.name)
theorem namesI_take {l : List It} {i : Nat} (h : i < l.length) : namesI (l.take (i + 1)) = namesI (l.take i) ++ [(l.getD i default).name] := by
  unfold namesI; rw [← take_snoc default h, List.map_append]; rfl
theorem selP_rev (l : List Flt) : selP l.reverse = selP l := by funext x; unfold selP; simp
theorem filtersM_rev (l : List Flt) : filtersM l.reverse = filtersM l := by unfold filtersM; simp
theorem selM_rev (s : Sto) (l : List Flt) : selM s l.reverse = selM s l := by unfold selM selL; rw [selP_rev, filtersM_rev]
theorem rev_take {l : List Flt} {i : Nat} (h : i < l.length) : (l.drop i).reverse = (l.drop (i + 1)).reverse ++ [l.getD i default] := by
  rw [List.drop_eq_getElem_cons h, List.reverse_cons, getD_get h]
/-- The places of the documents selected. -/
theorem namesI_get (l : List It) (j : Nat) : (namesI l).getD j [] = (l.getD j default).name := by
  unfold namesI
  rw [List.getD_eq_getElem?_getD, List.getD_eq_getElem?_getD, List.getElem?_map]
  cases l[j]? <;> rfl
theorem filter_at {α : Type} (p : α → Bool) (d : α) {l : List α} {i : Nat} (h : i < l.length) (hp : p (l.getD i d) = true) : ((l.take i).filter p).length < (l.filter p).length ∧ (l.filter p).getD ((l.take i).filter p).length d = l.getD i d := by
  have e : l.filter p = (l.take i).filter p ++ l.getD i d :: (l.drop (i + 1)).filter p := by
    conv => lhs; rw [← List.take_append_drop i l, List.filter_append, List.drop_eq_getElem_cons h, List.filter_cons]
    rw [getD_get h] at hp ⊢
    rw [if_pos hp]
  rw [e]
  refine ⟨by simp, ?_⟩
  rw [List.getD_eq_getElem?_getD]; simp
end Go.Rs
end
section
/-! Plain models: nodes with another node at a pointer, and without one. -/
namespace Go.Rs
def setAtM : Nd → List Bs → Nd → Option Nd
  | _, [], v => some v
  | n, s :: p, v => if placeM n s < 0 then none else (setAtM (n.kids.getD (placeM n s).toNat default) p v).map (withKidM n (placeM n s).toNat)
theorem withKidM_sm {n x : Nd} {i : Nat} (h : smN n) (hx : smN x) : smN (withKidM n i x) := by
  unfold withKidM
  refine smN_mk h.text h.names (by simp; exact h.kids) fun y hy => ?_
  rcases List.mem_or_eq_of_mem_set hy with h1 | rfl
  · exact h.mem h1
  · exact hx
theorem setAtM_sm : ∀ {p : List Bs} {n v m : Nd}, smN n → smN v → setAtM n p v = some m → smN m
  | [], n, v, m, _, hv, e => by cases e; exact hv
  | s :: p, n, v, m, hn, hv, e => by
    rw [setAtM] at e
    split at e
    · cases e
    · rename_i h
      have hp := (placeM_ge n s).2.1
      have hk : smN (n.kids.getD (placeM n s).toNat default) := hn.kid (by omega)
      cases hs : setAtM (n.kids.getD (placeM n s).toNat default) p v with
      | none => rw [hs] at e; cases e
      | some k => rw [hs] at e; cases e; exact withKidM_sm hn (setAtM_sm hk hv hs)
theorem setAtM_at {n x : Nd} {p : List Bs} (h : 0 < p.length) : setAtM n p x = if placeM n (p.getD 0 []) < 0 then none else (setAtM (n.kids.getD (placeM n (p.getD 0 [])).toNat default) (p.drop 1) x).map (withKidM n (placeM n (p.getD 0 [])).toNat) := by
  cases p with
  | nil => simp at h
  | cons s p => rfl
theorem setAtM_get_sm {n v : Nd} {p : List Bs} (hn : smN n) (hv : smN v) : smN ((setAtM n p v).getD default) := by
  cases h : setAtM n p v with
  | none => exact smN_default
  | some m => exact setAtM_sm hn hv h
def lastD (p : List Bs) : Bs := p.getD (p.length - 1) []
def addAtM (n : Nd) (p : List Bs) (v : Nd) : Option Nd :=
  if p = [] then some v else
  match findM n (p.take (p.length - 1)) with
  | none => none
  | some m => match addHereM m (lastD p) v with
    | none => none
    | some x => setAtM n (p.take (p.length - 1)) x
/-- A list without one place. -/
def outM {α : Type} (l : List α) (i : Nat) : List α := l.take i ++ l.drop (i + 1)
def withoutM (m : Nd) (i : Nat) : Nd := ⟨m.kind, 0, [], if m.kind = 4 then outM m.names i else [], outM m.kids i⟩
def removeAtM (n : Nd) (p : List Bs) : Option Nd :=
  if p = [] then none else
  match findM n (p.take (p.length - 1)) with
  | none => none
  | some m => if placeM m (lastD p) < 0 then none else setAtM n (p.take (p.length - 1)) (withoutM m (placeM m (lastD p)).toNat)
def checkedM (r : Option Nd) : Option Nd := match r with
  | none => none
  | some m => if validM m then some m else none
def addNodeM (n : Nd) (p : List Bs) (v : Nd) : Option Nd := if validM n && pathM p && validM v then checkedM (addAtM n p v) else none
def removeNodeM (n : Nd) (p : List Bs) : Option Nd := if validM n && pathM p then checkedM (removeAtM n p) else none
theorem okN_even {n : Nd} (h : okN n) : evenN n := (okN_names h).2.1
theorem withoutM_sm {m : Nd} {i : Nat} (h : smN m) : smN (withoutM m i) := by
  unfold withoutM outM
  have h2 := h.names
  have h3 := h.kids
  refine smN_mk (by simp) ?_ (by simp; omega) fun y hy => ?_
  · split <;> simp; omega
  · rcases List.mem_append.1 hy with h1 | h1
    · exact h.mem (List.mem_of_mem_take h1)
    · exact h.mem (List.mem_of_mem_drop h1)
theorem front_eq (p : List Bs) : List.drop (Int.toNat 0) (List.take ((p.length : Int) - 1).toNat p) = p.take (p.length - 1) := by
  have : ((p.length : Int) - 1).toNat = p.length - 1 := by omega
  rw [this]; simp
theorem find_get_ok {n : Nd} (h : okN n) (p : List Bs) : okN ((findM n p).getD default) := by
  cases e : findM n p with
  | none => exact okN_default
  | some m => exact findM_ok h e
theorem here_get_sm {n x : Nd} (h : okN n) (hx : smN x) (b : Bs) : smN ((addHereM n b x).getD default) := by
  cases e : addHereM n b x with
  | none => exact smN_default
  | some m => exact addHereM_sm (okN_even h) e h.sm hx (by have := okN_kids h; omega) (by have := okN_names h; omega)
theorem removeAtM_at {n : Nd} {p : List Bs} {r : Option Nd} (hp : p ≠ []) (hr : r = findM n (p.take (p.length - 1))) (hs : r.isSome = true) (h0 : 0 ≤ placeM (r.getD default) (p.getD (p.length - 1) [])) :
    removeAtM n p = setAtM n (p.take (p.length - 1)) (withoutM (r.getD default) (placeM (r.getD default) (p.getD (p.length - 1) [])).toNat) := by
  obtain ⟨m, rfl⟩ := Option.isSome_iff_exists.1 hs
  unfold removeAtM
  rw [if_neg hp, ← hr]
  simp only [Option.getD_some] at h0 ⊢
  exact if_neg (by show ¬ placeM m (p.getD (p.length - 1) []) < 0; omega)
theorem addAtM_sm {n v m : Nd} {p : List Bs} (hn : okN n) (hv : smN v) (h : addAtM n p v = some m) : smN m := by
  unfold addAtM at h
  split at h
  · cases h; exact hv
  · cases hf : findM n (p.take (p.length - 1)) with
    | none => rw [hf] at h; cases h
    | some x =>
      rw [hf] at h
      dsimp only at h
      have hx := findM_ok hn hf
      cases ha : addHereM x (lastD p) v with
      | none => rw [ha] at h; simp at h
      | some y => rw [ha] at h; exact setAtM_sm hn.sm (addHereM_sm (okN_even hx) ha hx.sm hv (by have := okN_kids hx; omega) (by have := okN_names hx; omega)) h
theorem removeAtM_sm {n m : Nd} {p : List Bs} (hn : okN n) (h : removeAtM n p = some m) : smN m := by
  unfold removeAtM at h
  split at h
  · cases h
  · cases hf : findM n (p.take (p.length - 1)) with
    | none => rw [hf] at h; cases h
    | some x =>
      rw [hf] at h
      have hx := findM_ok hn hf
      simp only at h
      split at h
      · cases h
      · exact setAtM_sm hn.sm (withoutM_sm hx.sm) h
end Go.Rs
end
