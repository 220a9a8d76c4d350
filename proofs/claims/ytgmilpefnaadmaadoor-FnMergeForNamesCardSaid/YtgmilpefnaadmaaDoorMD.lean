import Derived.Test.YtgmilpefnaadmaaDoorMC
set_option linter.all false
section
/-! Plain models: how many operations lead from a node to another one. -/
namespace Go.Rs
def missM (a b : Nd) : Nat := (b.names.filter fun nm => decide (placeM a nm < 0)).length
def dszM : Nd → Nd → Nat
  | ⟨k, n, t, names, kids⟩, b =>
    if cmpN ⟨k, n, t, names, kids⟩ b = 0 then 0
    else if k = 4 ∧ b.kind = 4 then goM b names kids + missM ⟨k, n, t, names, kids⟩ b
    else if k = 3 ∧ b.kind = 3 then goL kids b.kids + ((kids.length - b.kids.length) + (b.kids.length - kids.length))
    else 1
where
  goM (b : Nd) : List Bs → List Nd → Nat
    | nm :: ns, x :: xs => (if placeM b nm < 0 then 1 else dszM x (b.kids.getD (placeM b nm).toNat default)) + goM b ns xs
    | _, _ => 0
  goL : List Nd → List Nd → Nat
    | x :: xs, y :: ys => dszM x y + goL xs ys
    | _, _ => 0
theorem dszM_eq (a b : Nd) : dszM a b = if cmpN a b = 0 then 0 else if a.kind = 4 ∧ b.kind = 4 then dszM.goM b a.names a.kids + missM a b
    else if a.kind = 3 ∧ b.kind = 3 then dszM.goL a.kids b.kids + ((a.kids.length - b.kids.length) + (b.kids.length - a.kids.length)) else 1 := by
  cases a; rw [dszM]
def stepD (a b : Nd) (i : Nat) : Nat := if placeM b (a.names.getD i []) < 0 then 1 else dszM (a.kids.getD i default) (b.kids.getD (placeM b (a.names.getD i [])).toNat default)
theorem goM_take (b : Nd) : ∀ (ns : List Bs) (xs : List Nd) (i : Nat), i < ns.length → i < xs.length → dszM.goM b (ns.take (i + 1)) (xs.take (i + 1)) = dszM.goM b (ns.take i) (xs.take i) +
    (if placeM b (ns.getD i []) < 0 then 1 else dszM (xs.getD i default) (b.kids.getD (placeM b (ns.getD i [])).toNat default))
  | nm :: ns, x :: xs, 0, _, _ => by simp [dszM.goM]
  | nm :: ns, x :: xs, i + 1, h1, h2 => by
    have := goM_take b ns xs i (by simpa using h1) (by simpa using h2)
    simp only [List.take_succ_cons, dszM.goM, this, List.getD_cons_succ]
    omega
  | [], _, _, h1, _ => by simp at h1
  | _ :: _, [], _, _, h2 => by simp at h2
theorem goL_take : ∀ (xs ys : List Nd) (i : Nat), i < xs.length → i < ys.length → dszM.goL (xs.take (i + 1)) (ys.take (i + 1)) = dszM.goL (xs.take i) (ys.take i) + dszM (xs.getD i default) (ys.getD i default)
  | x :: xs, y :: ys, 0, _, _ => by simp [dszM.goL]
  | x :: xs, y :: ys, i + 1, h1, h2 => by
    have := goL_take xs ys i (by simpa using h1) (by simpa using h2)
    simp only [List.take_succ_cons, dszM.goL, this, List.getD_cons_succ]
    omega
  | [], _, _, h1, _ => by simp at h1
  | _ :: _, [], _, _, h2 => by simp at h2
theorem goM_mono (b : Nd) {a : Nd} (h : a.names.length = a.kids.length) : ∀ {i : Nat}, i ≤ a.kids.length → dszM.goM b (a.names.take i) (a.kids.take i) ≤ dszM.goM b a.names a.kids := by
  have step : ∀ j, j + 1 ≤ a.kids.length → dszM.goM b (a.names.take j) (a.kids.take j) ≤ dszM.goM b (a.names.take (j + 1)) (a.kids.take (j + 1)) := by
    intro j hj; rw [goM_take b _ _ j (by omega) (by omega)]; omega
  have all : ∀ k i, i + k = a.kids.length → dszM.goM b (a.names.take i) (a.kids.take i) ≤ dszM.goM b a.names a.kids := by
    intro k
    induction k with
    | zero => intro i hi; rw [List.take_of_length_le (by omega), List.take_of_length_le (by omega)]; exact Nat.le_refl _
    | succ k ih => intro i hi; exact Nat.le_trans (step i (by omega)) (ih (i + 1) (by omega))
  intro i hi
  exact all (a.kids.length - i) i (by omega)
theorem goL_le : ∀ (xs ys : List Nd) (i : Nat), dszM.goL (xs.take i) (ys.take i) ≤ dszM.goL xs ys
  | x :: xs, y :: ys, 0 => by simp [dszM.goL]
  | x :: xs, y :: ys, i + 1 => by
    have := goL_le xs ys i
    simp only [List.take_succ_cons, dszM.goL]
    omega
  | [], ys, i => by simp [dszM.goL]
  | x :: xs, [], i => by cases i <;> simp [dszM.goL]
theorem goL_min (xs ys : List Nd) : dszM.goL (xs.take (Nat.min xs.length ys.length)) (ys.take (Nat.min xs.length ys.length)) = dszM.goL xs ys := by
  induction xs generalizing ys with
  | nil => simp [dszM.goL]
  | cons x xs ih =>
    cases ys with
    | nil => simp [dszM.goL]
    | cons y ys =>
      have := ih ys
      have e : Nat.min (x :: xs).length (y :: ys).length = Nat.min xs.length ys.length + 1 := by simp only [List.length_cons]; exact Nat.succ_min_succ _ _
      rw [e]
      simp only [List.take_succ_cons, dszM.goL, this]
theorem missM_take {a b : Nd} {i : Nat} (h : i < b.names.length) : ((b.names.take (i + 1)).filter fun nm => decide (placeM a nm < 0)).length = ((b.names.take i).filter fun nm => decide (placeM a nm < 0)).length + (if placeM a (b.names.getD i []) < 0 then 1 else 0) := by
  rw [← take_snoc [] h, List.filter_append, List.length_append]
  congr 1
  rw [List.filter_cons]
  split <;> simp_all
theorem missM_le (a b : Nd) (i : Nat) : ((b.names.take i).filter fun nm => decide (placeM a nm < 0)).length ≤ missM a b := by
  unfold missM
  conv => rhs; rw [← List.take_append_drop i b.names, List.filter_append, List.length_append]
  omega
def bndD : Nat → Nat
  | 0 => 1
  | d + 1 => 6 * bndD d + 6
theorem bndD_pos (d : Nat) : 1 ≤ bndD d := by cases d <;> simp [bndD]
theorem goM_bound {c : Nat} (hc : 1 ≤ c) (b : Nd) : ∀ (ns : List Bs) (xs : List Nd), (∀ x ∈ xs, ∀ nm, 0 ≤ placeM b nm → dszM x (b.kids.getD (placeM b nm).toNat default) ≤ c) → dszM.goM b ns xs ≤ c * xs.length
  | nm :: ns, x :: xs, h => by
    have ih := goM_bound hc b ns xs fun y hy => h y (by simp [hy])
    have h1 := h x (by simp) nm
    simp only [dszM.goM, List.length_cons, Nat.mul_add, Nat.mul_one]
    split <;> omega
  | [], _, _ => by simp [dszM.goM]
  | _ :: _, [], _ => by simp [dszM.goM]
theorem goL_bound {c : Nat} : ∀ (xs ys : List Nd), (∀ x ∈ xs, ∀ y ∈ ys, dszM x y ≤ c) → dszM.goL xs ys ≤ c * xs.length
  | x :: xs, y :: ys, h => by
    have ih := goL_bound xs ys fun z hz u hu => h z (by simp [hz]) u (by simp [hu])
    have h1 := h x (by simp) y (by simp)
    simp only [dszM.goL, List.length_cons, Nat.mul_add, Nat.mul_one]
    omega
  | [], _, _ => by simp [dszM.goL]
  | _ :: _, [], _ => by simp [dszM.goL]
theorem dsz_bound : ∀ (d : Nat) (a b : Nd), shapeM d a = true → okN b → dszM a b ≤ bndD d
  | 0, a, b, h, _ => by cases h
  | d + 1, a, b, h, hb => by
    have hk := partsM_kids (shape_parts h).1
    have hbk := okN_kids hb
    have hbn := okN_names hb
    have hc := bndD_pos d
    rw [dszM_eq]
    simp only [bndD]
    split
    · omega
    split
    · have h1 := goM_bound hc b a.names a.kids fun x hx nm hp => dsz_bound d x _ (shape_kid h hx) (okN_kid hb (by have := (placeM_ge b nm).2.1; omega))
      have h2 : missM a b ≤ b.names.length := List.length_filter_le _ _
      have h3 : bndD d * a.kids.length ≤ bndD d * 6 := Nat.mul_le_mul_left _ hk
      omega
    split
    · have h1 := goL_bound (c := bndD d) a.kids b.kids fun x hx y hy => dsz_bound d x y (shape_kid h hx) (okN_mem hb hy)
      have h3 : bndD d * a.kids.length ≤ bndD d * 6 := Nat.mul_le_mul_left _ hk
      omega
    · omega
theorem bndD_mono : ∀ {d e : Nat}, d ≤ e → bndD d ≤ bndD e
  | 0, e, _ => bndD_pos e
  | d + 1, 0, h => by omega
  | d + 1, e + 1, h => by simp only [bndD]; have := bndD_mono (Nat.le_of_succ_le_succ h); omega
theorem dsz_le {a b : Nd} (ha : okN a) (hb : okN b) : dszM a b ≤ 20000 := by
  obtain ⟨d, hd, h⟩ := ha
  have := dsz_bound d a b h hb
  have h2 := bndD_mono hd
  have : bndD 5 = 17106 := by decide
  omega
theorem go_zero {k : Int} : ∀ (l : List Nd) (n n' : List Bs) (r : List Nd), (∀ x ∈ l, ∀ y ∈ r, cmpN x y = 0 → x = y) → cmpN.go k l n n' r = 0 → l = r ∧ (k = 4 → n.length = l.length → n'.length = r.length → n = n')
  | x :: l, n, n', y :: r, h, hg => by
    rw [cmpN.go] at hg
    split at hg
    · rename_i h1
      exact absurd (cmpI_zero.1 hg) h1.2
    rename_i h1
    split at hg
    · rename_i h2
      obtain ⟨e1, e2⟩ := go_zero l n.tail n'.tail r (fun z hz u hu => h z (by simp [hz]) u (by simp [hu])) hg
      have e3 := h x (by simp) y (by simp) h2
      refine ⟨by rw [e1, e3], fun hk hl hr => ?_⟩
      cases n with
      | nil => simp at hl
      | cons a n =>
        cases n' with
        | nil => simp at hr
        | cons b n' =>
          have h3 : a = b := by
            refine Classical.not_not.1 fun e => h1 ⟨hk, ?_⟩
            simpa using e
          rw [h3, show n = n' from e2 hk (by simpa using hl) (by simpa using hr)]
    · rename_i h2; exact absurd hg h2
  | [], n, n', r, h, hg => by
    rw [cmpN.go] at hg
    · have := ordI_zero.1 hg
      have hr : r = [] := List.length_eq_zero_iff.1 (by simp at this; omega)
      subst hr
      exact ⟨rfl, fun _ h1 h2 => by rw [List.length_eq_zero_iff.1 h1, List.length_eq_zero_iff.1 h2]⟩
    · intro _ _ _ _ e; cases e
  | x :: l, n, n', [], h, hg => by
    rw [cmpN.go] at hg
    · have := ordI_zero.1 hg
      simp at this
      omega
    · intro _ _ _ _ _ e; cases e
theorem cmpN_same : ∀ {a b : Nd}, okN a → okN b → cmpN a b = 0 → a = b
  | ⟨k, m, t, ns, l⟩, ⟨k', m', t', ns', l'⟩, ha, hb, h => by
    rw [cmpN_eq] at h
    simp only at h
    split at h
    case isFalse => exact absurd (ordI_zero.1 h) (by assumption)
    rename_i e1
    split at h
    case isFalse => exact absurd (ordI_zero.1 h) (by assumption)
    rename_i e2
    split at h
    case isFalse => exact absurd (cmpI_zero.1 h) (by assumption)
    rename_i e3
    subst e1; subst e2; subst e3
    have na := okN_names ha
    have nb := okN_names hb
    simp only at na nb
    obtain ⟨e4, e5⟩ := go_zero l ns ns' l' (fun x hx y hy hz => by
      have : SizeOf.sizeOf x < 1 + SizeOf.sizeOf k + SizeOf.sizeOf m + SizeOf.sizeOf t + SizeOf.sizeOf ns + SizeOf.sizeOf l := by have := List.sizeOf_lt_of_mem hx; omega
      exact cmpN_same (okN_mem ha hx) (okN_mem hb hy) hz) h
    subst e4
    by_cases hk : k = 4
    · rw [e5 hk (na.2.1 hk) (nb.2.1 hk)]
    · rw [na.2.2 hk, nb.2.2 hk]
termination_by a => SizeOf.sizeOf a
end Go.Rs
end
section
/-! Plain laws: no operation leads from a node to an equal one; differences of maps are at least those of their names. -/
namespace Go.Rs
theorem place_mem {n : Nd} (hn : okN n) (hk : n.kind = 4) {b : Bs} : 0 ≤ placeM n b ↔ b ∈ n.names := by
  have hl := (okN_names hn).2.1 hk
  constructor
  · intro h
    have h2 := (placeM_ge n b).2
    have h3 := hitM_iff.1 (h2.2 h)
    rcases h3 with ⟨-, h3⟩ | ⟨h3, -⟩
    · rw [← h3]; exact getD_mem (by omega)
    · omega
  · intro h
    obtain ⟨i, hi, e⟩ := List.mem_iff_getElem.1 h
    unfold placeM
    cases hf : (List.range n.kids.length).find? (hitM n b) with
    | some j => exact Int.natCast_nonneg _
    | none =>
      have := List.find?_eq_none.1 hf i (List.mem_range.2 (by omega))
      exact absurd (hitM_iff.2 (.inl ⟨hk, by rw [getD_get hi]; exact e⟩)) this
theorem names_asc {n : Nd} (hn : okN n) (hk : n.kind = 4) : n.names.Pairwise fun a b => ltS a b = true := by
  have := ascI_sorted.2 (okN_sorted hn hk)
  unfold ascI nmI at this
  rw [List.pairwise_map] at this
  exact this
theorem asc_ext : ∀ {l m : List Bs}, (l.Pairwise fun a b => ltS a b = true) → (m.Pairwise fun a b => ltS a b = true) → (∀ x, x ∈ l ↔ x ∈ m) → l = m
  | [], [], _, _, _ => rfl
  | [], y :: m, _, _, h => by have := (h y).2 (by simp); simp at this
  | x :: l, [], _, _, h => by have := (h x).1 (by simp); simp at this
  | x :: l, y :: m, hl, hm, h => by
    rw [List.pairwise_cons] at hl hm
    have e : x = y := by
      have h1 := (h x).1 (by simp)
      have h2 := (h y).2 (by simp)
      simp at h1 h2
      rcases h1 with h1 | h1
      · exact h1
      · rcases h2 with h2 | h2
        · exact h2.symm
        · have := ltS_trans (hm.1 _ h1) (hl.1 _ h2)
          rw [ltS_irrefl] at this; cases this
    subst e
    rw [asc_ext hl.2 hm.2 fun z => ?_]
    constructor
    · intro hz
      have := (h z).1 (by simp [hz])
      simp at this
      rcases this with rfl | this
      · have := hl.1 _ hz
        rw [ltS_irrefl] at this; cases this
      · exact this
    · intro hz
      have := (h z).2 (by simp [hz])
      simp at this
      rcases this with rfl | this
      · have := hm.1 _ hz
        rw [ltS_irrefl] at this; cases this
      · exact this
theorem asc_inj {l : List Bs} (h : l.Pairwise fun a b => ltS a b = true) {i j : Nat} (hi : i < l.length) (hj : j < l.length) (e : l.getD i [] = l.getD j []) : i = j := by
  rw [List.pairwise_iff_getElem] at h
  rw [getD_get hi, getD_get hj] at e
  rcases Nat.lt_trichotomy i j with hij | hij | hij
  · have := h i j hi hj hij; rw [e, ltS_irrefl] at this; cases this
  · exact hij
  · have := h j i hj hi hij; rw [e, ltS_irrefl] at this; cases this
theorem goM_zero (b : Nd) : ∀ (ns : List Bs) (xs : List Nd), ns.length = xs.length → dszM.goM b ns xs = 0 → ∀ i, i < xs.length → 0 ≤ placeM b (ns.getD i []) ∧ dszM (xs.getD i default) (b.kids.getD (placeM b (ns.getD i [])).toNat default) = 0
  | nm :: ns, x :: xs, hl, h, i, hi => by
    simp only [dszM.goM] at h
    cases i with
    | zero =>
      simp only [List.getD_cons_zero]
      split at h
      · omega
      · exact ⟨by omega, by omega⟩
    | succ i =>
      simp only [List.getD_cons_succ]
      exact goM_zero b ns xs (by simpa using hl) (by omega) i (by simpa using hi)
  | [], [], _, _, i, hi => by simp at hi
theorem goL_zero : ∀ (xs ys : List Nd), xs.length = ys.length → dszM.goL xs ys = 0 → ∀ i, i < xs.length → dszM (xs.getD i default) (ys.getD i default) = 0
  | x :: xs, y :: ys, hl, h, i, hi => by
    simp only [dszM.goL] at h
    cases i with
    | zero => simp only [List.getD_cons_zero]; omega
    | succ i =>
      simp only [List.getD_cons_succ]
      exact goL_zero xs ys (by simpa using hl) (by omega) i (by simpa using hi)
  | [], [], _, _, i, hi => by simp at hi
theorem list_ext {l m : List Nd} (hl : l.length = m.length) (h : ∀ i, i < l.length → l.getD i default = m.getD i default) : l = m := by
  apply List.ext_getElem hl
  intro i h1 h2
  have := h i h1
  rwa [getD_get h1, getD_get h2] at this
theorem okN_bare {n : Nd} (h : okN n) : (n.kind ≠ 1 → n.num = 0) ∧ (n.kind ≠ 2 → n.text = []) := by
  have := okN_parts h
  unfold partsM at this
  split at this
  · cases this
  · rename_i h1
    exact ⟨fun h => Classical.not_not.1 fun e => h1 (.inl ⟨h, e⟩), fun h => Classical.not_not.1 fun e => h1 (.inr (.inl ⟨h, e⟩))⟩
theorem nd_same {a b : Nd} (h1 : a.kind = b.kind) (h2 : a.num = b.num) (h3 : a.text = b.text) (h4 : a.names = b.names) (h5 : a.kids = b.kids) : a = b := by
  cases a; cases b; simp only at h1 h2 h3 h4 h5; subst h1; subst h2; subst h3; subst h4; subst h5; rfl
theorem dsz_zero : ∀ (a b : Nd), okN a → okN b → dszM a b = 0 → a = b := by
  have key : ∀ (s : Nat) (a b : Nd), SizeOf.sizeOf a ≤ s → okN a → okN b → dszM a b = 0 → a = b := by
    intro s
    induction s with
    | zero => intro a b hs; cases a; simp at hs
    | succ s ih =>
      intro a b hs ha hb h
      rw [dszM_eq] at h
      split at h
      · rename_i h1; exact cmpN_same ha hb h1
      split at h
      · rename_i hk
        have la := (okN_names ha).2.1 hk.1
        have lb := (okN_names hb).2.1 hk.2
        have h1 := goM_zero b a.names a.kids la (by omega)
        have h2 : missM a b = 0 := by omega
        have hn : a.names = b.names := by
          refine asc_ext (names_asc ha hk.1) (names_asc hb hk.2) fun x => ⟨fun hx => ?_, fun hx => ?_⟩
          · obtain ⟨i, hi, e⟩ := List.mem_iff_getElem.1 hx
            have := (h1 i (by omega)).1
            rw [getD_get hi, e] at this
            exact (place_mem hb hk.2).1 this
          · refine (place_mem ha hk.1).1 (Int.not_lt.1 fun hp => ?_)
            unfold missM at h2
            have := List.length_eq_zero_iff.1 h2
            rw [List.filter_eq_nil_iff] at this
            exact this x hx (by simpa using hp)
        refine nd_same (by omega) ?_ ?_ hn ?_
        · rw [(okN_bare ha).1 (by omega), (okN_bare hb).1 (by omega)]
        · rw [(okN_bare ha).2 (by omega), (okN_bare hb).2 (by omega)]
        · refine list_ext (by rw [← la, ← lb, hn]) fun i hi => ?_
          obtain ⟨h3, h4⟩ := h1 i hi
          have h5 := (placeM_ge b (a.names.getD i [])).2
          have h6 := hitM_iff.1 (h5.2 h3)
          have h7 : (placeM b (a.names.getD i [])).toNat = i := by
            rcases h6 with ⟨-, h6⟩ | ⟨h6, -⟩
            · refine asc_inj (names_asc hb hk.2) (by omega) (by rw [← hn]; omega) ?_
              rw [h6, hn]
            · omega
          rw [h7] at h4
          exact ih _ _ (by have := kid_size hi; omega) (okN_kid ha hi) (okN_kid hb (by omega)) h4
      split at h
      · rename_i hk3 hk
        have hl : a.kids.length = b.kids.length := by omega
        have h1 := goL_zero a.kids b.kids hl (by omega)
        refine nd_same (by omega) ?_ ?_ ?_ ?_
        · rw [(okN_bare ha).1 (by omega), (okN_bare hb).1 (by omega)]
        · rw [(okN_bare ha).2 (by omega), (okN_bare hb).2 (by omega)]
        · rw [(okN_names ha).2.2 (by omega), (okN_names hb).2.2 (by omega)]
        · exact list_ext hl fun i hi => ih _ _ (by have := kid_size hi; omega) (okN_kid ha hi) (okN_kid hb (by omega)) (h1 i hi)
      · cases h
  exact fun a b => key _ a b (Nat.le_refl _)
theorem okN_depth {n : Nd} (h : okN n) : depthM n ≤ 5 := by obtain ⟨d, hd, h⟩ := h; exact Nat.le_trans (depth_le h) hd
theorem dsz_refl (a : Nd) : dszM a a = 0 := by rw [dszM_eq, if_pos (cmpN_refl a)]
theorem dsz_back {a b : Nd} (ha : okN a) (hb : okN b) : dszM b a = 0 ↔ dszM a b = 0 := by
  constructor
  · intro h; rw [dsz_zero b a hb ha h]; exact dsz_refl _
  · intro h; rw [dsz_zero a b ha hb h]; exact dsz_refl _
theorem dsz_leaf {a b : Nd} (h : a.kind < 3) : dszM a b ≤ 1 := by
  rw [dszM_eq]
  split
  · omega
  split
  · omega
  split <;> omega
theorem goM_ge (b : Nd) : ∀ (ns : List Bs) (xs : List Nd), ns.length = xs.length → (ns.filter fun nm => decide (placeM b nm < 0)).length ≤ dszM.goM b ns xs
  | nm :: ns, x :: xs, hl => by
    have ih := goM_ge b ns xs (by simpa using hl)
    simp only [dszM.goM, List.filter_cons]
    by_cases hp : placeM b nm < 0
    · simp only [hp, decide_true, if_true, List.length_cons]; omega
    · simp only [hp, decide_false, if_false]; simp; omega
  | [], [], _ => by simp
def lackM (l m : List Bs) : Nat := (l.filter fun x => !decide (x ∈ m)).length
theorem lackM_take {l m : List Bs} {i : Nat} (h : i < l.length) : lackM (l.take (i + 1)) m = lackM (l.take i) m + if l.getD i [] ∈ m then 0 else 1 := by
  unfold lackM
  rw [← take_snoc [] h, List.filter_append, List.length_append]
  congr 1
  rw [List.filter_cons]
  split <;> simp_all
theorem lackM_self (l : List Bs) : lackM l l = 0 := by
  unfold lackM
  rw [List.length_eq_zero_iff, List.filter_eq_nil_iff]
  intro x hx; simp [hx]
theorem dsz_names {a b : Nd} (ha : okN a) (hb : okN b) (h1 : a.kind = 4) (h2 : b.kind = 4) : lackM a.names b.names + lackM b.names a.names ≤ dszM a b := by
  rw [dszM_eq]
  split
  · rename_i h; rw [cmpN_same ha hb h, lackM_self]; omega
  · rw [if_pos ⟨h1, h2⟩]
    have e1 : lackM a.names b.names = (a.names.filter fun nm => decide (placeM b nm < 0)).length := by
      unfold lackM; congr 1; apply List.filter_congr; intro x _
      have := place_mem hb h2 (b := x)
      by_cases hx : x ∈ b.names
      · have := this.2 hx; simp [hx]; omega
      · have : ¬ 0 ≤ placeM b x := fun h => hx (this.1 h)
        simp [hx]; omega
    have e2 : lackM b.names a.names = missM a b := by
      unfold lackM missM; congr 1; apply List.filter_congr; intro x _
      have := place_mem ha h1 (b := x)
      by_cases hx : x ∈ a.names
      · have := this.2 hx; simp [hx]; omega
      · have : ¬ 0 ≤ placeM a x := fun h => hx (this.1 h)
        simp [hx]; omega
    have := goM_ge b a.names a.kids ((okN_names ha).2.1 h1)
    omega
end Go.Rs
end
section
/-! Plain models: shapes. -/
namespace Go.Rs
def topS (x : Sh) : Bool := decide (0 ≤ x.kind) && decide (x.kind ≤ 4) && areNamesM x.names && (decide (x.names.length = 0) || decide (x.kind = 4)) && decide (x.needs.length = x.names.length) && decide (x.kids.length = x.names.length)
def shpM : Nat → Sh → Bool
  | 0, _ => false
  | d + 1, x => topS x && x.kids.all (shpM d)
theorem allS_iff (l : List Sh) (p : Sh → Bool) : l.all p = true ↔ ∀ j, j < l.length → p (l.getD j default) = true := by
  rw [List.all_eq_true]
  exact ⟨fun h j hj => h _ (getD_mem hj), fun h x hx => by obtain ⟨j, hj, rfl⟩ := List.mem_iff_getElem.1 hx; rw [← getD_get hj default]; exact h j hj⟩
theorem allS_no {s : List Sh} {p : Sh → Bool} {j : Nat} (hj : j < s.length) (h : p (s.getD j default) = false) : s.all p = false := by
  rw [Bool.eq_false_iff]; intro e; rw [(allS_iff s p).1 e j hj] at h; cases h
theorem shp_top {d : Nat} {x : Sh} (h : shpM d x = true) : topS x = true ∧ ∃ e, d = e + 1 := by
  cases d with
  | zero => cases h
  | succ d => simp only [shpM, Bool.and_eq_true] at h; exact ⟨h.1, d, rfl⟩
theorem shp_kid {d : Nat} {x : Sh} (h : shpM (d + 1) x = true) {j : Nat} (hj : j < x.kids.length) : shpM d (x.kids.getD j default) = true := by
  simp only [shpM, Bool.and_eq_true] at h
  exact (allS_iff _ _).1 h.2 j hj
theorem top_facts {x : Sh} (h : topS x = true) : (0 ≤ x.kind ∧ x.kind ≤ 4) ∧ areNamesM x.names = true ∧ x.names.length ≤ 6 ∧ (x.names.length = 0 ∨ x.kind = 4) ∧ x.needs.length = x.names.length ∧ x.kids.length = x.names.length := by
  simp only [topS, Bool.and_eq_true, Bool.or_eq_true, decide_eq_true_eq] at h
  refine ⟨⟨h.1.1.1.1.1, h.1.1.1.1.2⟩, h.1.1.1.2, ?_, h.1.1.2, h.1.2, h.2⟩
  have := h.1.1.1.2
  simp only [areNamesM, Bool.and_eq_true, decide_eq_true_eq] at this
  exact this.1
theorem shp_mono : ∀ {d : Nat} {x : Sh}, shpM d x = true → shpM (d + 1) x = true
  | 0, x, h => by cases h
  | d + 1, x, h => by
    have h1 := (shp_top h).1
    simp only [shpM, Bool.and_eq_true]
    refine ⟨h1, ?_⟩
    rw [allS_iff]
    intro j hj
    have := shp_mono (shp_kid h hj)
    simpa only [shpM, Bool.and_eq_true] using this
def okS (x : Sh) : Prop := ∃ d, d ≤ 5 ∧ shpM d x = true
theorem okS_kid {x : Sh} (h : okS x) {j : Nat} (hj : j < x.kids.length) : okS (x.kids.getD j default) := by
  obtain ⟨d, hd, h⟩ := h
  obtain ⟨-, e, rfl⟩ := shp_top h
  exact ⟨e, by omega, shp_kid h hj⟩
theorem okS_top {x : Sh} (h : okS x) : topS x = true := by obtain ⟨d, hd, h⟩ := h; exact (shp_top h).1
theorem kidS_size {x : Sh} {j : Nat} (h : j < x.kids.length) : SizeOf.sizeOf (x.kids.getD j default) < SizeOf.sizeOf x := by
  have h1 : x.kids[j] ∈ x.kids := List.getElem_mem h
  have h2 := List.sizeOf_lt_of_mem h1
  rw [getD_get h]
  cases x
  simp only [Sh.mk.sizeOf_spec] at *
  omega
/-- Where a node does not fit a shape. -/
def misM : Sh → Nd → Option (List Bs)
  | ⟨k, names, needs, kids⟩, n => if k = 0 then none else if k = n.kind then go n names needs kids else some []
where go (n : Nd) : List Bs → List Bool → List Sh → Option (List Bs)
  | nm :: ns, b :: bs, x :: xs =>
    if placeM n nm < 0 then (if b then some [nm] else go n ns bs xs)
    else match misM x (n.kids.getD (placeM n nm).toNat default) with
      | some p => some (nm :: p)
      | none => go n ns bs xs
  | _, _, _ => none
theorem misM_eq (x : Sh) (n : Nd) : misM x n = if x.kind = 0 then none else if x.kind = n.kind then misM.go n x.names x.needs x.kids else some [] := by
  cases x; rw [misM]
def misK (x : Sh) (n : Nd) (i : Nat) : Option (List Bs) := misM.go n (x.names.drop i) (x.needs.drop i) (x.kids.drop i)
theorem misK_step {x : Sh} {n : Nd} {i : Nat} (h1 : i < x.names.length) (h2 : x.needs.length = x.names.length) (h3 : x.kids.length = x.names.length) :
    misK x n i = if placeM n (x.names.getD i []) < 0 then (if x.needs.getD i false then some [x.names.getD i []] else misK x n (i + 1))
      else match misM (x.kids.getD i default) (n.kids.getD (placeM n (x.names.getD i [])).toNat default) with
        | some p => some (x.names.getD i [] :: p)
        | none => misK x n (i + 1) := by
  unfold misK
  rw [List.drop_eq_getElem_cons h1, List.drop_eq_getElem_cons (by omega : i < x.needs.length), List.drop_eq_getElem_cons (by omega : i < x.kids.length), misM.go]
  rw [getD_get h1, getD_get (by omega : i < x.needs.length), getD_get (by omega : i < x.kids.length)]
theorem misK_end {x : Sh} {n : Nd} {i : Nat} (h : x.names.length ≤ i) : misK x n i = none := by
  unfold misK
  rw [List.drop_of_length_le h, misM.go]
  intro _ _ _ _ _ _ e; cases e
theorem misK_zero (x : Sh) (n : Nd) : misK x n 0 = misM.go n x.names x.needs x.kids := rfl
/-- Paths are no longer than shapes are deep. -/
theorem mis_len : ∀ (d : Nat) {x : Sh} {n : Nd} {p : List Bs}, shpM d x = true → misM x n = some p → p.length ≤ d
  | 0, x, n, p, h, _ => by cases h
  | d + 1, x, n, p, h, hp => by
    rw [misM_eq] at hp
    split at hp
    · cases hp
    split at hp
    · have ht := top_facts (shp_top h).1
      have key : ∀ i p, misK x n i = some p → p.length ≤ d + 1 := by
        have : ∀ k i p, i + k = x.names.length → misK x n i = some p → p.length ≤ d + 1 := by
          intro k
          induction k with
          | zero => intro i p hi hp; rw [misK_end (by omega)] at hp; cases hp
          | succ k ih =>
            intro i p hi hp
            rw [misK_step (by omega) ht.2.2.2.2.1 ht.2.2.2.2.2] at hp
            split at hp
            · split at hp
              · cases hp; simp
              · exact ih (i + 1) p (by omega) hp
            · split at hp
              · rename_i q hq
                cases hp
                have := mis_len d (shp_kid h (by omega)) hq
                simp; omega
              · exact ih (i + 1) p (by omega) hp
        intro i p hp
        rcases Nat.lt_or_ge i x.names.length with hi | hi
        · exact this (x.names.length - i) i p (by omega) hp
        · rw [misK_end hi] at hp; cases hp
      exact key 0 p hp
    · cases hp; simp
theorem mis_five {x : Sh} {n : Nd} (h : okS x) : ((misM x n).getD []).length ≤ 5 := by
  obtain ⟨d, hd, h⟩ := h
  cases hm : misM x n with
  | none => simp
  | some p => have := mis_len d h hm; simp; omega
def validS (x : Sh) : Bool := shpM 5 x
theorem validS_ok {x : Sh} (h : validS x = true) : okS x := ⟨5, Nat.le_refl _, h⟩
def firstM (x : Sh) (n : Nd) : Option (List Bs) := if validS x && validM n then misM x n else none
/-- What a misfit says. -/
theorem mis_nil {x : Sh} {n : Nd} (h : misM x n = some []) : x.kind ≠ 0 ∧ x.kind ≠ n.kind := by
  rw [misM_eq] at h
  split at h
  · cases h
  rename_i h1
  split at h
  · exfalso
    have key : ∀ (ns : List Bs) (bs : List Bool) (xs : List Sh), misM.go n ns bs xs = some [] → False := by
      intro ns
      induction ns with
      | nil => intro bs xs h; rw [misM.go] at h; cases h; intro _ _ _ _ _ _ e; cases e
      | cons nm ns ih =>
        intro bs xs h
        cases bs with
        | nil => rw [misM.go] at h; cases h; intro _ _ _ _ _ _ _ e; cases e
        | cons b bs =>
          cases xs with
          | nil => rw [misM.go] at h; cases h; intro _ _ _ _ _ _ _ _ e; cases e
          | cons x xs =>
            rw [misM.go] at h
            split at h
            · split at h
              · cases h
              · exact ih _ _ h
            · split at h
              · cases h
              · exact ih _ _ h
    exact key _ _ _ h
  · rename_i h2; exact ⟨h1, h2⟩
theorem mis_cons {x : Sh} {n : Nd} {nm : Bs} {q : List Bs} (hx : topS x = true) (h : misM x n = some (nm :: q)) : ∃ i, i < x.names.length ∧ x.names.getD i [] = nm ∧
    ((placeM n nm < 0 ∧ q = []) ∨ (¬ placeM n nm < 0 ∧ misM (x.kids.getD i default) (n.kids.getD (placeM n nm).toNat default) = some q)) := by
  have ht := top_facts hx
  rw [misM_eq] at h
  split at h
  · cases h
  split at h
  · have : ∀ k i, i + k = x.names.length → misK x n i = some (nm :: q) → ∃ i, i < x.names.length ∧ x.names.getD i [] = nm ∧
      ((placeM n nm < 0 ∧ q = []) ∨ (¬ placeM n nm < 0 ∧ misM (x.kids.getD i default) (n.kids.getD (placeM n nm).toNat default) = some q)) := by
      intro k
      induction k with
      | zero => intro i hi hp; rw [misK_end (by omega)] at hp; cases hp
      | succ k ih =>
        intro i hi hp
        rw [misK_step (by omega) ht.2.2.2.2.1 ht.2.2.2.2.2] at hp
        split at hp
        · rename_i hpl
          split at hp
          · simp only [Option.some.injEq, List.cons.injEq] at hp
            exact ⟨i, by omega, hp.1, .inl ⟨by rw [← hp.1]; exact hpl, hp.2.symm⟩⟩
          · exact ih (i + 1) (by omega) hp
        · rename_i hpl
          split at hp
          · rename_i p hm
            simp only [Option.some.injEq, List.cons.injEq] at hp
            exact ⟨i, by omega, hp.1, .inr ⟨by rw [← hp.1]; exact hpl, by rw [← hp.1, hm, hp.2]⟩⟩
          · exact ih (i + 1) (by omega) hp
    exact this x.names.length 0 (by omega) h
  · cases h
end Go.Rs
end
section
/-! Plain models: maps as rows of documents; a name put in, a name taken out. -/
namespace Go.Rs
def zipI : List Bs → List Nd → List It
  | b :: ns, x :: xs => ⟨b, 0, x⟩ :: zipI ns xs
  | _, _ => []
theorem zip_names : ∀ {ns : List Bs} {ks : List Nd}, ns.length = ks.length → (zipI ns ks).map (·.name) = ns
  | [], [], _ => rfl
  | b :: ns, x :: ks, h => by simp only [zipI, List.map_cons]; rw [zip_names (by simpa using h)]
  | [], _ :: _, h => by simp at h
  | _ :: _, [], h => by simp at h
theorem zip_nodes : ∀ {ns : List Bs} {ks : List Nd}, ns.length = ks.length → (zipI ns ks).map (·.node) = ks
  | [], [], _ => rfl
  | b :: ns, x :: ks, h => by simp only [zipI, List.map_cons]; rw [zip_nodes (by simpa using h)]
  | [], _ :: _, h => by simp at h
  | _ :: _, [], h => by simp at h
theorem zip_len {ns : List Bs} {ks : List Nd} (h : ns.length = ks.length) : (zipI ns ks).length = ns.length := by
  have := congrArg List.length (zip_names h); simpa using this
theorem zip_v0 : ∀ (ns : List Bs) (ks : List Nd), ∀ x ∈ zipI ns ks, x.version = 0
  | b :: ns, y :: ks, x, h => by
    simp only [zipI, List.mem_cons] at h
    rcases h with rfl | h
    · rfl
    · exact zip_v0 ns ks x h
  | [], _, x, h => by simp [zipI] at h
  | _ :: _, [], x, h => by simp [zipI] at h
theorem zip_back : ∀ {l : List It}, (∀ x ∈ l, x.version = 0) → zipI (l.map (·.name)) (l.map (·.node)) = l
  | [], _ => rfl
  | x :: l, h => by
    simp only [List.map_cons, zipI]
    rw [zip_back fun y hy => h y (by simp [hy])]
    have := h x (by simp)
    cases x; simp only at this; subst this; rfl
theorem lb_names : ∀ (l : List It) (b : Bs), lbI (nmI (l.map (·.name))) b = lbI l b
  | [], b => rfl
  | x :: l, b => by
    have := lb_names l b
    simp only [List.map_cons, nmI] at this ⊢
    rw [lbI_cons, lbI_cons, this]
theorem nm_get (l : List It) (j : Nat) : ((nmI (l.map (·.name))).getD j default).name = (l.getD j default).name := by
  rw [nmI_get]
  simp only [List.getD_eq_getElem?_getD, List.getElem?_map]
  cases l[j]? <;> rfl
theorem found_names (l : List It) (b : Bs) : foundI (nmI (l.map (·.name))) b = foundI l b := by
  unfold foundI
  rw [lb_names, nmI_len, List.length_map, nm_get]
theorem asc_nm (l : List It) : ascI (nmI (l.map (·.name))) ↔ ascI l := by
  unfold ascI nmI
  rw [List.map_map, List.pairwise_map]
  exact Iff.rfl
theorem sorted_nm {l : List It} : sortedI (nmI (l.map (·.name))) ↔ ascI l := by rw [← ascI_sorted]; exact asc_nm l
theorem put_v0 {l : List It} {it : It} (hl : ascI l) (h : ∀ x ∈ l, x.version = 0) (hi : it.version = 0) : ∀ x ∈ putL l it, x.version = 0 := by
  intro x hx
  cases hf : foundI l it.name with
  | true =>
    rw [putL_found hl hf] at hx
    rcases List.mem_or_eq_of_mem_set hx with h1 | rfl
    · exact h x h1
    · exact hi
  | false =>
    rw [putL_new hl hf] at hx
    simp only [List.mem_append, List.mem_cons] at hx
    rcases hx with h1 | rfl | h1
    · exact h x (List.mem_of_mem_take h1)
    · exact hi
    · exact h x (List.mem_of_mem_drop h1)
theorem drop_v0 {l : List It} {b : Bs} (h : ∀ x ∈ l, x.version = 0) : ∀ x ∈ dropL l b, x.version = 0 := fun x hx => h x (List.mem_filter.1 hx).1
theorem put_len (l : List It) (it : It) (hl : ascI l) : (putL l it).length ≤ l.length + 1 := by
  cases hf : foundI l it.name with
  | true => rw [putL_found hl hf]; simp
  | false => rw [putL_new hl hf]; simp; omega
theorem drop_len (l : List It) (b : Bs) : (dropL l b).length ≤ l.length := List.length_filter_le _ _
/-- What putting does to the two rows. -/
theorem put_rows {ns : List Bs} {ks : List Nd} {b : Bs} {x : Nd} (h : ns.length = ks.length) (hs : sortedI (nmI ns)) :
    (foundI (nmI ns) b = true → (putL (zipI ns ks) ⟨b, 0, x⟩).map (·.name) = ns ∧ (putL (zipI ns ks) ⟨b, 0, x⟩).map (·.node) = ks.set (lbI (nmI ns) b) x) ∧
    (foundI (nmI ns) b = false → (putL (zipI ns ks) ⟨b, 0, x⟩).map (·.name) = ns.take (lbI (nmI ns) b) ++ [b] ++ ns.drop (lbI (nmI ns) b) ∧ (putL (zipI ns ks) ⟨b, 0, x⟩).map (·.node) = ks.take (lbI (nmI ns) b) ++ [x] ++ ks.drop (lbI (nmI ns) b)) := by
  obtain ⟨l, hl⟩ : ∃ l, l = zipI ns ks := ⟨_, rfl⟩
  have e1 : l.map (·.name) = ns := by rw [hl]; exact zip_names h
  have e2 : l.map (·.node) = ks := by rw [hl]; exact zip_nodes h
  rw [← hl]
  rw [← e1] at hs ⊢
  rw [← e2]
  have ha := sorted_nm.1 hs
  rw [found_names, lb_names]
  constructor
  · intro hf
    rw [putL_found ha hf]
    refine ⟨?_, by rw [List.map_set]⟩
    rw [List.map_set]
    simp only [foundI, Bool.and_eq_true, decide_eq_true_eq] at hf
    apply List.ext_getElem (by simp)
    intro i h1 h2
    rw [List.getElem_set]
    split
    · rename_i e
      subst e
      have := hf.2
      rw [getD_get (by simpa using h2)] at this
      simp only [List.getElem_map]
      exact this.symm
    · rfl
  · intro hf
    rw [putL_new ha hf]
    simp
theorem drop_rows {ns : List Bs} {ks : List Nd} {b : Bs} (h : ns.length = ks.length) (hs : sortedI (nmI ns)) :
    (foundI (nmI ns) b = true → (dropL (zipI ns ks) b).map (·.name) = ns.eraseIdx (lbI (nmI ns) b) ∧ (dropL (zipI ns ks) b).map (·.node) = ks.eraseIdx (lbI (nmI ns) b)) ∧
    (foundI (nmI ns) b = false → (dropL (zipI ns ks) b).map (·.name) = ns ∧ (dropL (zipI ns ks) b).map (·.node) = ks) := by
  obtain ⟨l, hl⟩ : ∃ l, l = zipI ns ks := ⟨_, rfl⟩
  have e1 : l.map (·.name) = ns := by rw [hl]; exact zip_names h
  have e2 : l.map (·.node) = ks := by rw [hl]; exact zip_nodes h
  rw [← hl]
  rw [← e1] at hs ⊢
  rw [← e2]
  have ha := sorted_nm.1 hs
  rw [found_names, lb_names]
  have me : ∀ {β : Type} (f : It → β) (l : List It) (i : Nat), (l.eraseIdx i).map f = (l.map f).eraseIdx i := by
    intro β f l
    induction l with
    | nil => intro i; rfl
    | cons x l ih => intro i; cases i with
      | zero => rfl
      | succ i => simp only [List.eraseIdx_cons_succ, List.map_cons, ih]
  constructor
  · intro hf
    rw [dropL_found ha hf]
    exact ⟨me _ _ _, me _ _ _⟩
  · intro hf
    rw [dropL_new ha hf]
    exact ⟨rfl, rfl⟩
theorem found_lt {ns : List Bs} {b : Bs} (h : foundI (nmI ns) b = true) : lbI (nmI ns) b < ns.length := by
  simp only [foundI, Bool.and_eq_true, decide_eq_true_eq] at h
  rw [← nmI_len]; exact h.1
theorem lb_le (ns : List Bs) (b : Bs) : lbI (nmI ns) b ≤ ns.length := by have := lbI_le (nmI ns) b; rwa [nmI_len] at this
end Go.Rs
end
section
/-! Plain models: a node merged with a patch. -/
namespace Go.Rs
def zeroN : Nd := ⟨0, 0, [], [], []⟩
def kidOf (l : List It) (b : Bs) : Nd := match lookI l b with
  | some it => it.node
  | none => zeroN
def ndOf (l : List It) : Nd := ⟨4, 0, [], l.map (·.name), l.map (·.node)⟩
def baseI (n : Nd) : List It := if n.kind = 4 then zipI n.names n.kids else []
def mrgM : Nd → Nd → Nd
  | ⟨k, m, t, names, kids⟩, n => if k = 4 then ndOf (go (baseI n) names kids (baseI n)) else ⟨k, m, t, names, kids⟩
where go (b0 : List It) : List Bs → List Nd → List It → List It
  | nm :: ns, x :: xs, acc => go b0 ns xs (if x.kind = 0 then dropL acc nm else putL acc ⟨nm, 0, mrgM x (kidOf b0 nm)⟩)
  | _, _, acc => acc
theorem mrgM_eq (p n : Nd) : mrgM p n = if p.kind = 4 then ndOf (mrgM.go (baseI n) p.names p.kids (baseI n)) else p := by
  cases p; rw [mrgM]
def stepG (b0 acc : List It) (nm : Bs) (x : Nd) : List It := if x.kind = 0 then dropL acc nm else putL acc ⟨nm, 0, mrgM x (kidOf b0 nm)⟩
theorem go_snoc (b0 : List It) : ∀ (ns : List Bs) (xs : List Nd) (acc : List It) (i : Nat), i < ns.length → i < xs.length →
    mrgM.go b0 (ns.take (i + 1)) (xs.take (i + 1)) acc = stepG b0 (mrgM.go b0 (ns.take i) (xs.take i) acc) (ns.getD i []) (xs.getD i default)
  | nm :: ns, x :: xs, acc, 0, _, _ => by simp [mrgM.go, stepG]
  | nm :: ns, x :: xs, acc, i + 1, h1, h2 => by
    have := go_snoc b0 ns xs (stepG b0 acc nm x) i (by simpa using h1) (by simpa using h2)
    simp only [List.take_succ_cons, mrgM.go, List.getD_cons_succ]
    exact this
  | [], _, _, _, h1, _ => by simp at h1
  | _ :: _, [], _, _, _, h2 => by simp at h2
theorem go_nil (b0 acc : List It) : mrgM.go b0 [] [] acc = acc := by rw [mrgM.go]; intro _ _ _ _ e; cases e
def accM (p n : Nd) (i : Nat) : List It := mrgM.go (baseI n) (p.names.take i) (p.kids.take i) (baseI n)
theorem accM_zero (p n : Nd) : accM p n 0 = baseI n := go_nil _ _
theorem accM_succ {p n : Nd} {i : Nat} (h1 : i < p.names.length) (h2 : i < p.kids.length) : accM p n (i + 1) = stepG (baseI n) (accM p n i) (p.names.getD i []) (p.kids.getD i default) := go_snoc _ _ _ _ _ h1 h2
theorem accM_all {p : Nd} (n : Nd) (h : p.names.length = p.kids.length) : accM p n p.names.length = mrgM.go (baseI n) p.names p.kids (baseI n) := by
  unfold accM; rw [List.take_length, h, List.take_length]
theorem base_facts {n : Nd} (h : okN n) : ascI (baseI n) ∧ (∀ x ∈ baseI n, x.version = 0) ∧ (baseI n).length ≤ 6 ∧ (n.kind = 4 → (baseI n).map (·.name) = n.names ∧ (baseI n).map (·.node) = n.kids) := by
  unfold baseI
  by_cases hk : n.kind = 4
  · have hl := (okN_names h).2.1 hk
    rw [if_pos hk]
    refine ⟨?_, zip_v0 _ _, by rw [zip_len hl]; exact (okN_names h).1, fun _ => ⟨zip_names hl, zip_nodes hl⟩⟩
    have := okN_sorted h hk
    rw [← zip_names hl, sorted_nm] at this
    exact this
  · rw [if_neg hk]
    exact ⟨List.Pairwise.nil, by simp, by simp, fun h => absurd h hk⟩
theorem put_asc {l : List It} {it : It} (h : ascI l) : ascI (putL l it) := putL_asc h
theorem accM_facts {p n : Nd} (hn : okN n) : ∀ {i : Nat}, i ≤ p.names.length → i ≤ p.kids.length → ascI (accM p n i) ∧ (∀ x ∈ accM p n i, x.version = 0) ∧ (accM p n i).length ≤ 6 + i ∧ ∀ b, (∀ j, j < i → p.names.getD j [] ≠ b) → lookI (accM p n i) b = lookI (baseI n) b
  | 0, _, _ => by
    have := base_facts hn
    rw [accM_zero]
    exact ⟨this.1, this.2.1, by omega, fun _ _ => rfl⟩
  | i + 1, h1, h2 => by
    obtain ⟨a1, a2, a3, a4⟩ := accM_facts (p := p) (n := n) (i := i) hn (by omega) (by omega)
    rw [accM_succ (by omega) (by omega)]
    unfold stepG
    split
    · exact ⟨ascI_drop a1, drop_v0 a2, by have := drop_len (accM p n i) (p.names.getD i []); omega, fun b hb => by
        rw [lookI_drop, if_neg (hb i (by omega))]; exact a4 b fun j hj => hb j (by omega)⟩
    · exact ⟨put_asc a1, put_v0 a1 a2 rfl, by have := put_len (accM p n i) ⟨p.names.getD i [], 0, mrgM (p.kids.getD i default) (kidOf (baseI n) (p.names.getD i []))⟩ a1; omega, fun b hb => by
        rw [lookI_put _ _ _ a1, if_neg (hb i (by omega))]; exact a4 b fun j hj => hb j (by omega)⟩
theorem accM_kid {p n : Nd} (hp : okN p) (hk : p.kind = 4) (hn : okN n) {i : Nat} (hi : i < p.names.length) : kidOf (accM p n i) (p.names.getD i []) = kidOf (baseI n) (p.names.getD i []) := by
  have hl := (okN_names hp).2.1 hk
  unfold kidOf
  rw [(accM_facts hn (i := i) (by omega) (by omega)).2.2.2 _ fun j hj e => ?_]
  have := asc_inj (names_asc hp hk) (by omega) hi e
  omega
theorem kid_found {l : List It} {b : Bs} (h : ascI l) : (foundI (nmI (l.map (·.name))) b = true → (l.map (·.node)).getD (lbI (nmI (l.map (·.name))) b) default = kidOf l b) ∧ (foundI (nmI (l.map (·.name))) b = false → kidOf l b = zeroN) := by
  rw [found_names, lb_names]
  unfold kidOf
  rw [lookI_found h]
  constructor
  · intro hf
    rw [if_pos hf]
    have : lbI l b < l.length := by simp only [foundI, Bool.and_eq_true, decide_eq_true_eq] at hf; exact hf.1
    simp [List.getD_eq_getElem?_getD, this]
  · intro hf
    rw [hf]; rfl
theorem okN_zero : okN zeroN := ⟨1, by omega, by decide⟩
theorem kidOf_ok {n : Nd} (h : okN n) (b : Bs) : okN (kidOf (baseI n) b) := by
  have hb := base_facts h
  have hk := kid_found (b := b) hb.1
  cases hf : foundI (nmI ((baseI n).map (·.name))) b with
  | false => rw [hk.2 hf]; exact okN_zero
  | true =>
    rw [← hk.1 hf]
    by_cases h4 : n.kind = 4
    · rw [(hb.2.2.2 h4).2]
      have := found_lt hf
      rw [(hb.2.2.2 h4).1] at this ⊢
      exact okN_kid h (by rw [← (okN_names h).2.1 h4]; exact this)
    · unfold baseI at hf; rw [if_neg h4] at hf; cases hf
theorem put_mem {l : List It} {it x : It} (h : ascI l) (hx : x ∈ putL l it) : x ∈ l ∨ x = it := by
  cases hf : foundI l it.name with
  | true =>
    rw [putL_found h hf] at hx
    exact List.mem_or_eq_of_mem_set hx
  | false =>
    rw [putL_new h hf] at hx
    simp only [List.mem_append, List.mem_cons] at hx
    rcases hx with h1 | h1 | h1
    · exact .inl (List.mem_of_mem_take h1)
    · exact .inr h1
    · exact .inl (List.mem_of_mem_drop h1)
/-- What is merged stays of a size that can be copied. -/
theorem mrg_sm : ∀ (s : Nat) (p n : Nd), SizeOf.sizeOf p ≤ s → okN p → okN n → smN (mrgM p n) := by
  intro s
  induction s with
  | zero => intro p n hs; cases p; simp at hs
  | succ s ih =>
    intro p n hs hp hn
    rw [mrgM_eq]
    split
    · rename_i hk
      have hl := (okN_names hp).2.1 hk
      have h6 := (okN_names hp).1
      rw [← accM_all n hl]
      have key : ∀ i, i ≤ p.names.length → ∀ x ∈ accM p n i, smN x.node := by
        intro i
        induction i with
        | zero =>
          intro _ x hx
          rw [accM_zero] at hx
          by_cases h4 : n.kind = 4
          · have := (base_facts hn).2.2.2 h4
            exact (okN_mem hn (by rw [← this.2]; exact List.mem_map_of_mem hx)).sm
          · unfold baseI at hx; rw [if_neg h4] at hx; simp at hx
        | succ i ihi =>
          intro hi x hx
          rw [accM_succ (by omega) (by omega)] at hx
          unfold stepG at hx
          have hf := (accM_facts hn (p := p) (i := i) (by omega) (by omega)).1
          split at hx
          · exact ihi (by omega) x (List.mem_filter.1 hx).1
          · rcases put_mem hf hx with h1 | rfl
            · exact ihi (by omega) x h1
            · exact ih _ _ (by have := kid_size (n := p) (j := i) (by omega); omega) (okN_kid hp (by omega)) (kidOf_ok hn _)
      have hf := accM_facts hn (p := p) (i := p.names.length) (Nat.le_refl _) (by omega)
      unfold ndOf
      refine smN_mk (by simp) (by simp; omega) (by simp; omega) fun x hx => ?_
      simp only [List.mem_map] at hx
      obtain ⟨y, hy, rfl⟩ := hx
      exact key _ (Nat.le_refl _) y hy
    · exact hp.sm
end Go.Rs
end
