import Derived.Test.YtoailaifflbomaaMA
set_option linter.all false
section
/-! Plain models: sorted items, places. -/
namespace Go.Rs
def sortedI (l : List It) : Prop := ∀ i j, i < j → j < l.length → ltS (l.getD i default).name (l.getD j default).name = true
def lbI (l : List It) (b : Bs) : Nat := l.findIdx fun x => !ltS x.name b
theorem lbI_le (l : List It) (b : Bs) : lbI l b ≤ l.length := List.findIdx_le_length
theorem lbI_at {l : List It} {b : Bs} (h : lbI l b < l.length) : ltS (l.getD (lbI l b) default).name b = false := by
  have h2 := List.findIdx_getElem (w := h)
  rw [getD_get h]
  simp only [Bool.not_eq_true'] at h2
  exact h2
theorem lbI_lt {l : List It} {b : Bs} {k : Nat} (h : k < lbI l b) : ltS (l.getD k default).name b = true := by
  have := List.not_of_lt_findIdx h
  rw [getD_get (by have := lbI_le l b; omega)]; simpa using this
theorem lbI_gt {l : List It} {b : Bs} {h : Nat} (hs : sortedI l) (hl : h < l.length) (hlt : ltS (l.getD h default).name b = true) : h < lbI l b := by
  rcases Nat.lt_or_ge h (lbI l b) with h1 | h1
  · exact h1
  · have h2 := lbI_at (l := l) (b := b) (by omega)
    rcases Nat.lt_or_ge (lbI l b) h with h3 | h3
    · rw [ltS_trans (hs _ _ h3 hl) hlt] at h2; cases h2
    · have : lbI l b = h := by omega
      rw [this, hlt] at h2; cases h2
theorem lbI_ge {l : List It} {b : Bs} {h : Nat} (hlt : ltS (l.getD h default).name b = false) : lbI l b ≤ h := by
  rcases Nat.lt_or_ge h (lbI l b) with h1 | h1
  · rw [lbI_lt h1] at hlt; cases hlt
  · exact h1
def foundI (l : List It) (b : Bs) : Bool := decide (lbI l b < l.length) && decide ((l.getD (lbI l b) default).name = b)
end Go.Rs
end
section
/-! Plain models: sorted stores, by pairs. -/
namespace Go.Rs
def ascI (l : List It) : Prop := l.Pairwise fun a b => ltS a.name b.name = true
theorem ascI_sorted {l : List It} : ascI l ↔ sortedI l := by
  unfold ascI sortedI
  rw [List.pairwise_iff_getElem]
  constructor
  · intro h i j hij hj
    rw [getD_get (by omega), getD_get hj]; exact h i j _ _ hij
  · intro h i j hi hj hij
    have := h i j hij hj
    rwa [getD_get (by omega), getD_get hj] at this
theorem lbI_cons (x : It) (r : List It) (b : Bs) : lbI (x :: r) b = if ltS x.name b then lbI r b + 1 else 0 := by
  unfold lbI
  rw [List.findIdx_cons]
  cases ltS x.name b <;> simp
theorem dropL_none {l : List It} {b : Bs} (h : ∀ x ∈ l, x.name ≠ b) : dropL l b = l := by
  unfold dropL
  rw [List.filter_eq_self]
  intro x hx
  simpa using h x hx
theorem asc_head {x : It} {r : List It} (h : ascI (x :: r)) {b : Bs} (hb : ltS x.name b = false) : ∀ y ∈ r, y.name ≠ b := by
  intro y hy e
  subst e
  have := (List.pairwise_cons.1 h).1 y hy
  rw [hb] at this; cases this
theorem putL_found : ∀ {l : List It} {it : It}, ascI l → foundI l it.name = true → putL l it = l.set (lbI l it.name) it
  | [], it, _, hf => by simp [foundI] at hf
  | x :: r, it, h, hf => by
    rw [lbI_cons]
    simp only [foundI, lbI_cons] at hf
    unfold putL
    cases hl : ltS x.name it.name with
    | true =>
      simp only [hl, if_true] at hf ⊢
      rw [putL_found (List.pairwise_cons.1 h).2 (by simpa [foundI] using hf)]
      rfl
    | false =>
      simp [hl] at hf
      have hn : dropL (x :: r) it.name = r := by
        have := dropL_none (asc_head h hl)
        simp only [dropL, List.filter_cons, hf, decide_true, Bool.not_true, Bool.false_eq_true, if_false]
        exact this
      simp [hn]
theorem putL_new : ∀ {l : List It} {it : It}, ascI l → foundI l it.name = false → putL l it = l.take (lbI l it.name) ++ it :: l.drop (lbI l it.name)
  | [], it, _, _ => by simp [putL, lbI]
  | x :: r, it, h, hf => by
    rw [lbI_cons]
    simp only [foundI, lbI_cons] at hf
    unfold putL
    cases hl : ltS x.name it.name with
    | true =>
      simp only [hl, if_true] at hf ⊢
      rw [putL_new (List.pairwise_cons.1 h).2 (by simpa [foundI] using hf)]
      rfl
    | false =>
      simp [hl] at hf
      have hn : dropL (x :: r) it.name = x :: r := dropL_none (by
        intro y hy
        simp at hy
        rcases hy with rfl | hy
        · exact hf
        · exact asc_head h hl y hy)
      simp [hn]
theorem findI_new {l : List It} {b : Bs} (h : ascI l) (hf : foundI l b = false) : findI l b = -1 := by
  refine findI_none fun i hi e => ?_
  rcases Nat.lt_trichotomy i (lbI l b) with h1 | h1 | h1
  · exact ltS_ne (lbI_lt h1) e
  · subst h1; simp [foundI, hi] at hf; rw [getD_get hi] at e; exact hf e
  · have h2 := ascI_sorted.1 h (lbI l b) i h1 hi
    have h3 := lbI_at (l := l) (b := b) (by omega)
    rw [e, h3] at h2; cases h2
theorem ascI_drop {l : List It} {b : Bs} (h : ascI l) : ascI (dropL l b) := List.Pairwise.filter _ h
end Go.Rs
end
section
/-! Plain models: decimals, places, slots; nodes with a kid more. -/
namespace Go.Rs
def decM (n : Nat) : Bs := if h : n < 10 then [UInt8.ofNat (48 + n)] else decM (n / 10) ++ [UInt8.ofNat (48 + n % 10)]
termination_by n
theorem decM_lt {n : Nat} (h : n < 10) : decM n = [UInt8.ofNat (48 + n)] := by rw [decM, dif_pos h]
theorem decM_ge {n : Nat} (h : ¬ n < 10) : decM n = decM (n / 10) ++ [UInt8.ofNat (48 + n % 10)] := by rw [decM, dif_neg h]
theorem decM_len (n : Nat) : (decM n).length ≤ n + 1 := by
  induction n using Nat.strongRecOn with
  | _ n ih =>
    by_cases h : n < 10
    · rw [decM_lt h]; simp
    · rw [decM_ge h]
      have := ih (n / 10) (by omega)
      simp; omega
def hitM (n : Nd) (b : Bs) (i : Nat) : Bool := (decide (n.kind = 4) && decide (n.names.getD i [] = b)) || (decide (n.kind = 3) && decide (decM i = b))
theorem hitM_iff {n : Nd} {b : Bs} {i : Nat} : hitM n b i = true ↔ (n.kind = 4 ∧ n.names.getD i [] = b) ∨ (n.kind = 3 ∧ decM i = b) := by
  simp only [hitM, Bool.or_eq_true, Bool.and_eq_true, decide_eq_true_eq]
theorem hitM_no {n : Nd} {b : Bs} {i : Nat} (h : (n.kind = 4 → n.names.getD i [] ≠ b) ∧ (n.kind = 3 → decM i ≠ b)) : hitM n b i = false := by
  rw [Bool.eq_false_iff]; intro hh
  rcases hitM_iff.1 hh with ⟨h1, h2⟩ | ⟨h1, h2⟩
  · exact h.1 h1 h2
  · exact h.2 h1 h2
def placeM (n : Nd) (b : Bs) : Int := match (List.range n.kids.length).find? (hitM n b) with
  | some i => i
  | none => -1
theorem placeM_at {n : Nd} {b : Bs} {i : Nat} (hi : i < n.kids.length) (h : hitM n b i = true) (hn : ∀ j, j < i → hitM n b j = false) : placeM n b = i := by
  unfold placeM
  have e : (List.range n.kids.length).find? (hitM n b) = some i := by
    rw [List.find?_range_eq_some]
    refine ⟨h, by simpa using hi, fun j hj => by simp [hn j hj]⟩
  rw [e]
theorem placeM_none {n : Nd} {b : Bs} (hn : ∀ j, j < n.kids.length → hitM n b j = false) : placeM n b = -1 := by
  unfold placeM
  have e : (List.range n.kids.length).find? (hitM n b) = none := by
    rw [List.find?_eq_none]
    intro j hj
    simp at hj
    simp [hn j hj]
  rw [e]
theorem placeM_ge (n : Nd) (b : Bs) : -1 ≤ placeM n b ∧ placeM n b < n.kids.length ∧ (0 ≤ placeM n b → hitM n b (placeM n b).toNat = true) := by
  unfold placeM
  split
  · rename_i i h
    rw [List.find?_range_eq_some] at h
    obtain ⟨h1, h2, -⟩ := h
    simp at h2
    exact ⟨by omega, by omega, fun _ => by simpa using h1⟩
  · exact ⟨by omega, by omega, fun h => by omega⟩
def slotI (n : Nd) (b : Bs) : Nat := (List.range n.kids.length).findIdx fun i => ltS b (n.names.getD i [])
theorem slotI_le (n : Nd) (b : Bs) : slotI n b ≤ n.kids.length := by
  have := List.findIdx_le_length (p := fun i => ltS b (n.names.getD i [])) (xs := List.range n.kids.length)
  simpa [slotI] using this
theorem slotI_at {n : Nd} {b : Bs} {i : Nat} (hi : i ≤ n.kids.length) (h : i < n.kids.length → ltS b (n.names.getD i []) = true)
    (hn : ∀ j, j < i → ltS b (n.names.getD j []) = false) : slotI n b = i := by
  have hle := slotI_le n b
  unfold slotI at *
  by_cases hk : i < n.kids.length
  · rw [List.findIdx_eq (by simpa using hk)]
    refine ⟨by simpa using h hk, fun j hj => by simpa using hn j hj⟩
  · have e : i = n.kids.length := by omega
    subst e
    have := List.findIdx_eq_length (p := fun i => ltS b (n.names.getD i [])) (xs := List.range n.kids.length)
    simp only [List.length_range] at this
    rw [this]
    intro x hx
    simp at hx
    exact hn x hx
def slotM (n : Nd) (b : Bs) : Int × Bool :=
  if 0 ≤ placeM n b then (placeM n b, decide (n.kind = 4))
  else if n.kind = 3 ∧ (b = [45] ∨ b = decM n.kids.length) then (n.kids.length, false)
  else if n.kind = 4 then (slotI n b, false)
  else (-1, false)
theorem slotM_ge (n : Nd) (b : Bs) : -1 ≤ (slotM n b).1 ∧ (slotM n b).1 ≤ n.kids.length ∧ ((slotM n b).2 = true → (slotM n b).1 < n.kids.length) ∧ (0 ≤ (slotM n b).1 → n.kind = 3 ∨ n.kind = 4) := by
  have h1 := placeM_ge n b
  have h2 := slotI_le n b
  unfold slotM
  split
  · refine ⟨by omega, by simp only; omega, fun _ => h1.2.1, fun h => ?_⟩
    have := h1.2.2 (by assumption)
    simp only [hitM, Bool.or_eq_true, Bool.and_eq_true, decide_eq_true_eq] at this
    omega
  · split
    · exact ⟨by omega, by simp, fun h => (by cases h), fun _ => .inl (by rename_i h _; exact h.1)⟩
    · split
      · exact ⟨by omega, by simp only; omega, fun h => (by cases h), fun _ => .inr (by assumption)⟩
      · exact ⟨by omega, by simp only; omega, fun h => (by cases h), fun h => by simp at h⟩
theorem slotM_not {n : Nd} {b : Bs} (h : placeM n b < 0) : (slotM n b).2 = false := by
  unfold slotM; rw [if_neg (by omega)]; (repeat' split) <;> rfl
def withKidM (n : Nd) (i : Nat) (x : Nd) : Nd := ⟨n.kind, n.num, n.text, n.names, n.kids.set i x⟩
def insM {α : Type} (l : List α) (i : Nat) (x : α) : List α := l.take i ++ [x] ++ l.drop i
theorem insM_len {α : Type} (l : List α) (i : Nat) (x : α) : (insM l i x).length = l.length + 1 := by
  simp [insM]; omega
def addHereM (n : Nd) (b : Bs) (x : Nd) : Option Nd :=
  if (slotM n b).1 < 0 then none
  else if (slotM n b).2 then some (withKidM n (slotM n b).1.toNat x)
  else some ⟨n.kind, 0, [], if n.kind = 3 then [] else insM n.names (slotM n b).1.toNat b, insM n.kids (slotM n b).1.toNat x⟩
def optN (r : Option Nd) : AV := .tup [.st (ndC (r.getD default)), .bool r.isSome]
def evenN (n : Nd) : Prop := n.kind = 4 → n.names.length = n.kids.length
theorem addHereM_even {n m : Nd} {b : Bs} {x : Nd} (hn : evenN n) (h : addHereM n b x = some m) : evenN m ∧ m.kind = n.kind ∧ m.kids.length ≤ n.kids.length + 1 ∧ m.names.length ≤ n.names.length + 1 ∧ m.text.length ≤ n.text.length := by
  unfold addHereM at h
  split at h
  · cases h
  · split at h
    · cases h
      exact ⟨fun hk => by simpa [withKidM] using hn hk, rfl, by simp [withKidM], by simp [withKidM], by simp [withKidM]⟩
    · cases h
      refine ⟨fun hk => ?_, rfl, by simp only; rw [insM_len]; omega, ?_, by simp⟩
      · have e3 : ¬ n.kind = 3 := by simp only at hk; omega
        simp only [e3, if_false, insM_len, hn hk]
      · simp only; split
        · simp
        · rw [insM_len]; omega
theorem addHereM_mem {n m : Nd} {b : Bs} {x : Nd} (h : addHereM n b x = some m) : ∀ y ∈ m.kids, y ∈ n.kids ∨ y = x := by
  unfold addHereM at h
  intro y hy
  split at h
  · cases h
  · split at h
    · cases h
      exact (List.mem_or_eq_of_mem_set hy)
    · cases h
      simp only [insM, List.mem_append, List.mem_singleton] at hy
      rcases hy with (hy | hy) | hy
      · exact .inl (List.mem_of_mem_take hy)
      · exact .inr hy
      · exact .inl (List.mem_of_mem_drop hy)
theorem addHereM_sm {n m : Nd} {b : Bs} {x : Nd} (hn : evenN n) (h : addHereM n b x = some m) (h1 : smN n) (h2 : smN x) (h3 : n.kids.length ≤ 1000) (h4 : n.names.length ≤ 1000) : smN m := by
  obtain ⟨-, -, k1, k2, k3⟩ := addHereM_even hn h
  exact .mk (by have := h1.text; omega) (by omega) (by omega) fun y hy => by
    rcases addHereM_mem h y hy with hy | rfl
    · exact h1.mem hy
    · exact h2
def byOk (l : List Int) : Prop := ∀ x ∈ l, 0 ≤ x ∧ x ≤ 255
theorem byOk.get {l : List Int} (h : byOk l) (j : Nat) : 0 ≤ l.getD j 0 ∧ l.getD j 0 ≤ 255 := by
  by_cases hj : j < l.length
  · rw [getD_get hj]; exact h _ (List.getElem_mem hj)
  · simp [List.getD_eq_getElem?_getD, List.getElem?_eq_none (Nat.le_of_not_lt hj)]
theorem byOk.take {l : List Int} (h : byOk l) (n : Nat) : byOk (l.take n) := fun x hx => h x (List.mem_of_mem_take hx)
theorem getD_mem {α : Type} {l : List α} {d : α} {j : Nat} (h : j < l.length) : l.getD j d ∈ l := by rw [getD_get h]; exact List.getElem_mem h
theorem smN_mk {k m : Int} {t : Bs} {ns : List Bs} {l : List Nd} (h1 : t.length ≤ 2097152) (h2 : ns.length ≤ 2097152) (h3 : l.length ≤ 2097152) (h : ∀ x ∈ l, smN x) : smN ⟨k, m, t, ns, l⟩ := .mk h1 h2 h3 h
def mapOk (m : Nd) (c : Int) : Prop := m.kind = 4 ∧ evenN m ∧ smN m ∧ m.kids.length + c ≤ 4 ∧ 0 ≤ c
theorem addHereM_some {m : Nd} {b : Bs} {x : Nd} (hk : m.kind = 4) (hp : placeM m b < 0) : ∃ r, addHereM m b x = some r := by
  have h1 : 0 ≤ (slotM m b).1 := by
    unfold slotM; rw [if_neg (by omega), if_neg (by omega), if_pos hk]; simp only; omega
  unfold addHereM
  rw [if_neg (by omega), slotM_not hp]
  exact ⟨_, rfl⟩
theorem mapOk.add {m : Nd} {c : Int} (h : mapOk m c) (hc : 0 < c) {b : Bs} {x : Nd} (hx : smN x) (hp : placeM m b < 0) : mapOk ((addHereM m b x).getD default) (c - 1) := by
  obtain ⟨hk, he, hs, hl, -⟩ := h
  obtain ⟨r, hr⟩ := addHereM_some (x := x) hk hp
  obtain ⟨k1, k2, k3, -, -⟩ := addHereM_even he hr
  have := addHereM_sm he hr hs hx (by omega) (by have := he hk; omega)
  rw [hr, Option.getD_some]
  exact ⟨k2.trans hk, k1, this, by omega, by omega⟩
theorem mapOk.stay {m : Nd} {c : Int} (h : mapOk m c) (hc : 0 < c) : mapOk m (c - 1) := by
  obtain ⟨hk, he, hs, hl, -⟩ := h
  exact ⟨hk, he, hs, by omega, by omega⟩
end Go.Rs
end
section
/-! Plain models: finding documents, histories of names, lags. -/
namespace Go.Rs
def lookI (l : List It) (b : Bs) : Option It := l.find? fun x => decide (x.name = b)
theorem lookI_cons (x : It) (r : List It) (b : Bs) : lookI (x :: r) b = if x.name = b then some x else lookI r b := by
  unfold lookI; rw [List.find?_cons]; by_cases h : x.name = b <;> simp [h]
theorem lookI_found {l : List It} {b : Bs} (h : ascI l) : lookI l b = if foundI l b then some (l.getD (lbI l b) default) else none := by
  cases hf : foundI l b with
  | true =>
    have hlt : lbI l b < l.length ∧ (l.getD (lbI l b) default).name = b := by simp only [foundI, Bool.and_eq_true, decide_eq_true_eq] at hf; exact hf
    generalize lbI l b = k at hlt
    simp only [if_true]
    clear hf
    induction l generalizing k with
    | nil => simp at hlt
    | cons x r ih =>
      rw [lookI_cons]
      cases k with
      | zero => have h2 : x.name = b := by simpa using hlt.2
                rw [if_pos h2]; rfl
      | succ k =>
        have h3 : (r.getD k default).name = b := by simpa using hlt.2
        have h4 : k < r.length := by simpa using hlt.1
        have h5 : ltS x.name b = true := by rw [← h3]; exact (List.pairwise_cons.1 h).1 _ (getD_mem h4)
        rw [if_neg (ltS_ne h5), ih (List.pairwise_cons.1 h).2 k (by simpa using hlt)]
        simp
  | false =>
    have h1 := findI_new h hf
    unfold findI at h1
    split at h1
    · omega
    · rename_i h3
      simp only [Bool.false_eq_true, if_false]
      unfold lookI
      rw [List.find?_eq_none]
      intro x hx e
      exact h3 (List.findIdx_lt_length_of_exists ⟨x, hx, e⟩)
end Go.Rs
end
section
/-! Stores handed over. -/
namespace Go.Rs
end Go.Rs
end
