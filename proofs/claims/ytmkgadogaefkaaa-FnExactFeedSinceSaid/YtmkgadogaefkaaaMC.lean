import Derived.Test.YtmkgadogaefkaaaMB
set_option linter.all false
section
/-! Plain models: news and feeds. -/
namespace Go.Rs
def newsM (n : Nws) (before : Int) : Bool := changeM ⟨n.name, n.gone, n.node⟩ && decide (before < n.version) && decide (n.version ≤ 999)
def feedOk : Int → List Nws → Bool
  | _, [] => true
  | c, n :: r => newsM n c && feedOk n.version r
def areNewsM (l : List Nws) (c : Int) : Bool := decide (l.length ≤ 20) && feedOk c l
def clockF (c : Int) (l : List Nws) : Int := match l.getLast? with
  | some n => n.version
  | none => c
theorem clockF_nil (c : Int) : clockF c [] = c := rfl
theorem clockF_snoc (c : Int) (l : List Nws) (n : Nws) : clockF c (l ++ [n]) = n.version := by simp [clockF]
theorem clockF_cons (c : Int) (n : Nws) (l : List Nws) : clockF c (n :: l) = clockF n.version l := by
  unfold clockF; rw [List.getLast?_cons]; cases l.getLast? <;> rfl
theorem feedOk_app : ∀ (c : Int) (l m : List Nws), feedOk c (l ++ m) = (feedOk c l && feedOk (clockF c l) m)
  | c, [], m => by simp [feedOk, clockF_nil]
  | c, n :: l, m => by rw [List.cons_append, feedOk, feedOk, feedOk_app, clockF_cons, Bool.and_assoc]
theorem feedOk_take {c : Int} {l : List Nws} {i : Nat} (h : i < l.length) : feedOk c (l.take (i + 1)) = (feedOk c (l.take i) && newsM (l.getD i default) (clockF c (l.take i))) := by
  rw [← take_snoc default h, feedOk_app]; simp [feedOk]
theorem clockF_take {c : Int} {l : List Nws} {i : Nat} (h : i < l.length) : clockF c (l.take (i + 1)) = (l.getD i default).version := by
  rw [← take_snoc default h, clockF_snoc]
theorem feedOk_pre {c : Int} {l : List Nws} (h : feedOk c l = true) (i : Nat) : feedOk c (l.take i) = true := by
  have : feedOk c (l.take i ++ l.drop i) = true := by rw [List.take_append_drop]; exact h
  rw [feedOk_app, Bool.and_eq_true] at this
  exact this.1
theorem feedOk_no {c : Int} {l : List Nws} {i : Nat} (h : feedOk c (l.take i) = false) : feedOk c l = false := by
  cases h2 : feedOk c l with
  | false => rfl
  | true => rw [feedOk_pre h2 i] at h; cases h
theorem feedOk_ge : ∀ {c : Int} {l : List Nws}, feedOk c l = true → c ≤ clockF c l ∧ ∀ n ∈ l, c < n.version ∧ n.version ≤ 999
  | c, [], _ => ⟨Int.le_refl _, by simp⟩
  | c, n :: l, h => by
    simp only [feedOk, newsM, Bool.and_eq_true, decide_eq_true_eq] at h
    obtain ⟨h1, h2⟩ := feedOk_ge h.2
    have g1 := h.1.1.2
    have g2 := h.1.2
    rw [clockF_cons]
    refine ⟨by omega, fun m hm => ?_⟩
    rcases List.mem_cons.1 hm with rfl | hm
    · omega
    · have := h2 m hm; omega
def feedAt (c : Int) (l : List Nws) (i : Nat) : Bool :=
  changeM ⟨(l.getD i default).name, (l.getD i default).gone, (l.getD i default).node⟩ && (decide (c + 1 ≤ (l.getD i default).version) && decide ((l.getD i default).version ≤ 999)) && (decide (i = 0) || decide ((l.getD (i - 1) default).version < (l.getD i default).version))
theorem feedAt_step {c : Int} {l : List Nws} {i : Nat} (h : i < l.length) (ho : feedOk c (l.take i) = true) : feedOk c (l.take (i + 1)) = feedAt c l i := by
  rw [feedOk_take h, ho, Bool.true_and]
  obtain ⟨h1, -⟩ := feedOk_ge ho
  unfold feedAt newsM
  cases i with
  | zero =>
    simp only [List.take_zero, clockF_nil]
    rw [Bool.eq_iff_iff]; simp; grind
  | succ i =>
    rw [clockF_take (by omega)] at h1 ⊢
    simp only [Nat.add_sub_cancel]
    rw [Bool.eq_iff_iff]; simp; grind
def stepN (s : Sto) (n : Nws) : Sto := ⟨if n.gone then dropL s.items n.name else putL s.items ⟨n.name, n.version, n.node⟩, n.version⟩
def followM (s : Sto) (l : List Nws) : Sto := l.foldl stepN s
theorem followM_take {s : Sto} {l : List Nws} {i : Nat} (h : i < l.length) : followM s (l.take (i + 1)) = stepN (followM s (l.take i)) (l.getD i default) := by
  rw [← take_snoc default h]; unfold followM; rw [List.foldl_append]; rfl
def wideS (s : Sto) : Prop := (0 ≤ s.clock ∧ s.clock ≤ 999) ∧ (∀ x ∈ s.items, itOk s.clock x) ∧ ascI s.items
theorem storeM_wide {s : Sto} : storeM s = true ↔ s.items.length ≤ 10 ∧ wideS s := storeM_iff
theorem ltS_total {a b : Bs} (h : ltS a b = false) (hne : a ≠ b) : ltS b a = true := by
  cases h2 : ltS b a with
  | true => rfl
  | false => exact absurd (ltS_tri h h2) hne
theorem putL_cons (it x : It) (r : List It) : putL (x :: r) it = if ltS x.name it.name then x :: putL r it else it :: dropL (x :: r) it.name := rfl
theorem putL_asc {it : It} : ∀ {l : List It}, ascI l → ascI (putL l it)
  | [], _ => by simp [putL, ascI]
  | x :: r, h => by
    rw [putL_cons]
    have h' := List.pairwise_cons.1 h
    split
    · rename_i hlt
      refine List.pairwise_cons.2 ⟨fun y hy => ?_, putL_asc h'.2⟩
      rcases putL_mem hy with rfl | hy
      · exact hlt
      · exact h'.1 y hy
    · rename_i hge
      have hge : ltS x.name it.name = false := by simpa using hge
      refine List.pairwise_cons.2 ⟨fun y hy => ?_, ascI_drop h⟩
      have hy1 := dropL_mem hy
      have hne : y.name ≠ it.name := by
        have := (List.mem_filter.1 hy).2
        simpa using this
      rcases List.mem_cons.1 hy1 with rfl | hy2
      · exact ltS_total hge hne
      · have h3 := h'.1 y hy2
        exact ltS_le_lt hge h3
theorem stepN_wide {s : Sto} {n : Nws} (h : wideS s) (hn : newsM n s.clock = true) : wideS (stepN s n) := by
  simp only [newsM, changeM, Bool.and_eq_true, decide_eq_true_eq] at hn
  obtain ⟨⟨⟨⟨hname, hnode⟩, hg⟩, h1⟩, h2⟩ := hn
  obtain ⟨hc, hi, ha⟩ := h
  have hup : ∀ x ∈ s.items, itOk n.version x := fun x hx => by
    have := hi x hx
    exact ⟨this.1, this.2.1, this.2.2.1, by have := this.2.2.2; omega⟩
  refine ⟨⟨by simp only [stepN]; omega, h2⟩, ?_, ?_⟩
  · intro x hx
    simp only [stepN] at hx ⊢
    split at hx
    · exact hup x (dropL_mem hx)
    · rcases putL_mem hx with rfl | hx
      · exact ⟨hname, hnode, by simp only; omega, Int.le_refl _⟩
      · exact hup x hx
  · simp only [stepN]
    split
    · exact ascI_drop ha
    · exact putL_asc ha
theorem stepN_len (s : Sto) (n : Nws) : (stepN s n).items.length ≤ s.items.length + 1 := by
  simp only [stepN]
  split
  · exact Nat.le_trans (dropL_len _ _) (Nat.le_succ _)
  · exact putL_len _ _
theorem follow_wide : ∀ {l : List Nws} {s : Sto}, wideS s → feedOk s.clock l = true → wideS (followM s l) ∧ (followM s l).clock = clockF s.clock l ∧ (followM s l).items.length ≤ s.items.length + l.length
  | [], s, h, _ => ⟨h, rfl, Nat.le_refl _⟩
  | n :: l, s, h, ho => by
    simp only [feedOk, Bool.and_eq_true] at ho
    have h1 := stepN_wide h ho.1
    have e : followM s (n :: l) = followM (stepN s n) l := rfl
    obtain ⟨h2, h3, h4⟩ := follow_wide h1 (show feedOk (stepN s n).clock l = true from ho.2)
    have h5 := stepN_len s n
    rw [e, clockF_cons]
    exact ⟨h2, h3, by simp; omega⟩
def ffM (s : Sto) (l : List Nws) : Option Sto := if storeM s && areNewsM l s.clock then (if (followM s l).items.length ≤ 10 then some (followM s l) else none) else none
theorem ff_facts {s : Sto} {l : List Nws} (h : (storeM s && areNewsM l s.clock) = true) (i : Nat) : wideS (followM s (l.take i)) ∧ (followM s (l.take i)).clock = clockF s.clock (l.take i) ∧ (followM s (l.take i)).items.length ≤ 30 ∧ l.length ≤ 20 ∧ feedOk s.clock l = true := by
  simp only [areNewsM, Bool.and_eq_true, decide_eq_true_eq] at h
  have hw := storeM_wide.1 h.1
  obtain ⟨h1, h2, h3⟩ := follow_wide hw.2 (feedOk_pre h.2.2 i)
  have h4 : (l.take i).length ≤ l.length := by simp; omega
  exact ⟨h1, h2, by omega, h.2.1, h.2.2⟩
theorem ff_store {s : Sto} {l : List Nws} (h : (storeM s && areNewsM l s.clock) = true) : storeM (followM s l) = decide ((followM s l).items.length ≤ 10) := by
  have h1 := (ff_facts h l.length).1
  rw [List.take_length] at h1
  rw [Bool.eq_iff_iff, storeM_wide, decide_eq_true_eq]
  exact ⟨fun h => h.1, fun h => ⟨h, h1⟩⟩
theorem wide_small {s : Sto} (h : wideS s) (hl : s.items.length ≤ 30) : smS s := ⟨by omega, fun x hx => validM_sm (h.2.1 x hx).2.1⟩
theorem dropL_new {l : List It} {b : Bs} (h : ascI l) (hf : foundI l b = false) : dropL l b = l := by
  refine dropL_none fun x hx e => ?_
  have h1 := lookI_found (b := b) h
  rw [hf, if_neg (by simp)] at h1
  unfold lookI at h1
  rw [List.find?_eq_none] at h1
  have := h1 x hx
  simp [e] at this
theorem log_change {l : List Chg} (h : (logM l).isSome = true) {i : Nat} (hi : i < l.length) : changeM (l.getD i default) = true := by
  have hr : (replayM l).isSome = true := by
    unfold logM at h
    split at h
    · exact h
    · cases h
  have h1 := replay_take_isSome (i := i + 1) hr
  rw [replayM_take hi] at h1
  cases hs : replayM (l.take i) with
  | none => rw [hs] at h1; cases h1
  | some s =>
    rw [hs] at h1
    unfold stepM at h1
    simp only at h1
    split at h1
    · assumption
    · cases h1
theorem log_node {l : List Chg} (h : (logM l).isSome = true) {i : Nat} (hi : i < l.length) : smN (l.getD i default).node := by
  have := log_change h hi
  simp only [changeM, Bool.and_eq_true] at this
  exact validM_sm this.1.2
def nwAt (l : List Chg) (i : Nat) : Nws := ⟨(l.getD i default).name, (l.getD i default).gone, (l.getD i default).node, (i : Int) + 1⟩
def sinceF (l : List Chg) (v k : Nat) : List Nws := (List.range' v (k - v)).filterMap fun i => if lastM l i then some (nwAt l i) else none
theorem sinceF_zero (l : List Chg) (v : Nat) : sinceF l v v = [] := by simp [sinceF]
theorem sinceF_succ {l : List Chg} {v k : Nat} (h : v ≤ k) : sinceF l v (k + 1) = sinceF l v k ++ (if lastM l k then [nwAt l k] else []) := by
  unfold sinceF
  rw [show k + 1 - v = (k - v) + 1 by omega, List.range'_concat, List.filterMap_append]
  congr 1
  rw [show v + 1 * (k - v) = k by omega]
  by_cases h : lastM l k = true <;> simp [h]
theorem sinceF_len (l : List Chg) (v k : Nat) : (sinceF l v k).length ≤ k - v := by
  unfold sinceF; exact Nat.le_trans (List.length_filterMap_le _ _) (by simp)
def sinceV (l : List Chg) (v : Int) : List Nws := if (logM l).isSome ∧ 0 ≤ v ∧ v ≤ l.length then sinceF l v.toNat l.length else []
theorem lastM_iff (l : List Chg) (k : Nat) : lastM l k = true ↔ ∀ j, k < j → j < l.length → (l.getD j default).name ≠ (l.getD k default).name := by
  unfold lastM
  rw [List.all_eq_true]
  constructor
  · intro h j h1 h2
    have := h (l.getD j default) (by
      rw [getD_get h2, List.mem_iff_getElem]
      exact ⟨j - (k + 1), by first | (simp; done) | (simp; omega), by simp only [List.getElem_drop]; congr 1; omega⟩)
    simpa using this
  · intro h c hc
    obtain ⟨j, hj, rfl⟩ := List.mem_iff_getElem.1 hc
    simp at hj
    have := h (k + 1 + j) (by omega) (by omega)
    rw [getD_get (by omega)] at this
    simpa using this
end Go.Rs
end
section
/-! Plain models: the order of nodes, names searched, nodes at pointers. -/
namespace Go.Rs
end Go.Rs
end
section
/-! Plain models: parts of valid nodes are valid; filters and stores. -/
namespace Go.Rs
theorem shape_mono : ∀ {d : Nat} {n : Nd}, shapeM d n = true → shapeM (d + 1) n = true
  | 0, n, h => by obtain ⟨-, e, he⟩ := shape_parts h; omega
  | d + 1, n, h => by
    have h1 := (shape_parts h).1
    have h2 : ∀ x ∈ n.kids, shapeM d x = true := fun x hx => shape_kid h hx
    have e := shapeM_pos n (d := ((d + 2 : Nat) : Int)) (by omega)
    rw [Int.toNat_natCast] at e
    rw [e, h1, Bool.true_and, List.all_eq_true]
    intro x hx
    exact shape_mono (h2 x hx)
theorem shape_le {d e : Nat} {n : Nd} (h : shapeM d n = true) (hle : d ≤ e) : shapeM e n = true := by
  induction hle with
  | refl => exact h
  | step _ ih => exact shape_mono ih
theorem okN_shape {n : Nd} (h : okN n) : shapeM 5 n = true := by obtain ⟨d, hd, h⟩ := h; exact shape_le h hd
theorem validM_iff {n : Nd} : validM n = true ↔ okN n ∧ countM n ≤ 40 := by
  constructor
  · intro h
    refine ⟨validM_ok h, ?_⟩
    simp only [validM, Bool.and_eq_true, decide_eq_true_eq] at h
    exact h.2
  · rintro ⟨h1, h2⟩
    simp only [validM, okN_shape h1, Bool.true_and]; exact decide_eq_true h2
end Go.Rs
end
section
/-! Plain models: documents selected. -/
namespace Go.Rs
theorem storeM_node {s : Sto} (h : storeM s = true) {i : Nat} (hi : i < s.items.length) : validM (s.items.getD i default).node = true := by
  have := (storeM_iff.1 h).2.2.1 _ (getD_mem (d := default) hi)
  exact this.2.1
end Go.Rs
end
section
/-! Plain models: nodes with another node at a pointer, and without one. -/
namespace Go.Rs
end Go.Rs
end
