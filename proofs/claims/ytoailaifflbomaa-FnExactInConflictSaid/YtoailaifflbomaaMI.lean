import Derived.Test.YtoailaifflbomaaMH
import Derived.Lib.AtoiAllCases
set_option linter.all false
section
/-! The texts of nodes, read: texts and numbers. -/
namespace Go.Rs
-- numbers
end Go.Rs
end
section
/-! The texts of nodes, read: nodes. -/
namespace Go.Rs
-- the other way
-- by places
section
variable {f : Bs → Option (Nd × Bs)} {k : Int} {c : UInt8} {ns n : List Bs} {ks : List Nd} {x : Nd} {s s1 s2 s3 : Bs}
end
end Go.Rs
end
section
/-! The texts of nodes, read as the reference reads them. -/
namespace Go.Rs
-- numbers
def digC (c : UInt8) : Prop := 48 ≤ c.toNat ∧ c.toNat ≤ 57
instance (c : UInt8) : Decidable (digC c) := inferInstanceAs (Decidable (_ ∧ _))
-- nodes
-- both
-- by places
section
variable {f : Bs → Option (Nd × Bs)} {k : Int} {c : UInt8} {ns n : List Bs} {ks : List Nd} {x : Nd} {s s1 s2 s3 : Bs}
end
end Go.Rs
end
section
/-! Three nodes merged. -/
namespace Go.Rs
theorem zip_node {ns : List Bs} {ks : List Nd} {x : It} (h : x ∈ zipI ns ks) : x.node ∈ ks := by
  induction ns generalizing ks with
  | nil => simp [zipI] at h
  | cons b ns ih =>
    cases ks with
    | nil => simp [zipI] at h
    | cons k ks =>
      simp only [zipI, List.mem_cons] at h
      rcases h with rfl | h
      · simp
      · simp [ih h]
theorem look_size {n : Nd} {b : Bs} {x : It} (h : lookI (baseI n) b = some x) : SizeOf.sizeOf x.node < SizeOf.sizeOf n := by
  have h1 := (look_name h).2
  unfold baseI at h1
  split at h1
  · have := List.sizeOf_lt_of_mem (zip_node h1)
    have := kids_size n
    omega
  · simp at h1
def stepT (g : Bs → Option (Option Nd)) (acc : Option (List It)) (nm : Bs) : Option (List It) := match acc with
  | none => none
  | some l => match g nm with
    | none => none
    | some none => some l
    | some (some x) => some (putL l ⟨nm, 0, x⟩)
noncomputable def threeM (base a b : Nd) : Option Nd :=
  if eqD a b || eqD b base then some a else if eqD a base then some b else
  if base.kind ≠ 4 ∨ a.kind ≠ 4 ∨ b.kind ≠ 4 then none else
  ((unionM a.names b.names).foldl (stepT fun nm =>
    match hx : lookI (baseI a) nm, lookI (baseI b) nm, lookI (baseI base) nm with
    | some x, some y, some o => (threeM o.node x.node y.node).map some
    | some x, some y, none => if eqD x.node y.node then some (some x.node) else none
    | some x, none, some o => if eqD x.node o.node then some none else none
    | none, some y, some o => if eqD y.node o.node then some none else none
    | some x, none, none => some (some x.node)
    | none, some y, none => some (some y.node)
    | none, none, _ => some none) (some [])).map ndOf
termination_by SizeOf.sizeOf a
decreasing_by exact look_size hx
noncomputable def gM (base a b : Nd) (nm : Bs) : Option (Option Nd) :=
  match lookI (baseI a) nm, lookI (baseI b) nm, lookI (baseI base) nm with
  | some x, some y, some o => (threeM o.node x.node y.node).map some
  | some x, some y, none => if eqD x.node y.node then some (some x.node) else none
  | some x, none, some o => if eqD x.node o.node then some none else none
  | none, some y, some o => if eqD y.node o.node then some none else none
  | some x, none, none => some (some x.node)
  | none, some y, none => some (some y.node)
  | none, none, _ => some none
theorem threeM_eq (base a b : Nd) : threeM base a b = if eqD a b || eqD b base then some a else if eqD a base then some b else
    if base.kind ≠ 4 ∨ a.kind ≠ 4 ∨ b.kind ≠ 4 then none else ((unionM a.names b.names).foldl (stepT (gM base a b)) (some [])).map ndOf := by
  rw [threeM]
  congr
  funext nm
  unfold gM
  cases lookI (baseI a) nm <;> cases lookI (baseI b) nm <;> cases lookI (baseI base) nm <;> rfl
theorem stepT_none (g : Bs → Option (Option Nd)) (l : List Bs) : l.foldl (stepT g) none = none := by
  induction l with
  | nil => rfl
  | cons _ _ ih => exact ih
noncomputable def accT (base a b : Nd) (l : List Bs) (i : Nat) : Option (List It) := (l.take i).foldl (stepT (gM base a b)) (some [])
theorem accT_zero (base a b : Nd) (l : List Bs) : accT base a b l 0 = some [] := by unfold accT; rw [List.take_zero]; rfl
theorem accT_succ {base a b : Nd} {l : List Bs} {i : Nat} (h : i < l.length) : accT base a b l (i + 1) = stepT (gM base a b) (accT base a b l i) (l.getD i []) := by
  unfold accT
  rw [← take_snoc [] h, List.foldl_append]; rfl
theorem accT_none {base a b : Nd} {l : List Bs} {i : Nat} (h : accT base a b l i = none) : accT base a b l l.length = none := by
  unfold accT at h ⊢
  rw [List.take_length, ← List.take_append_drop i l, List.foldl_append, h, stepT_none]
theorem accT_all (base a b : Nd) (l : List Bs) : accT base a b l l.length = l.foldl (stepT (gM base a b)) (some []) := by unfold accT; rw [List.take_length]
theorem stepT_skip {g : Bs → Option (Option Nd)} (p : Bs → Bool) (h : ∀ nm, p nm = false → g nm = some none) : ∀ (l : List Bs) (acc : Option (List It)), l.foldl (stepT g) acc = (l.filter p).foldl (stepT g) acc
  | [], acc => rfl
  | nm :: l, acc => by
    rw [List.foldl_cons, stepT_skip p h l]
    cases hp : p nm with
    | true => rw [List.filter_cons_of_pos hp]; rfl
    | false =>
      rw [List.filter_cons_of_neg (by rw [hp]; simp)]
      have : stepT g acc nm = acc := by
        unfold stepT
        cases acc with
        | none => rfl
        | some l => simp only; rw [h nm hp]
      rw [this]
-- ascending lists of names
def ascS (l : List Bs) : Prop := l.Pairwise fun x y => ltS x y = true
theorem ascS_ext : ∀ {l m : List Bs}, ascS l → ascS m → (∀ x, x ∈ l ↔ x ∈ m) → l = m
  | [], [], _, _, _ => rfl
  | [], y :: m, _, _, h => by have := (h y).2 (by simp); simp at this
  | x :: l, [], _, _, h => by have := (h x).1 (by simp); simp at this
  | x :: l, y :: m, hl, hm, h => by
    obtain ⟨hl1, hl2⟩ := List.pairwise_cons.1 hl
    obtain ⟨hm1, hm2⟩ := List.pairwise_cons.1 hm
    have e : x = y := by
      rcases List.mem_cons.1 ((h x).1 (by simp)) with e | hx
      · exact e
      · rcases List.mem_cons.1 ((h y).2 (by simp)) with e | hy
        · exact e.symm
        · have h1 := hm1 x hx
          have h2 := hl1 y hy
          rw [ltS_asymm h1] at h2; cases h2
    subst e
    rw [ascS_ext hl2 hm2 fun z => ?_]
    have hz := h z
    simp only [List.mem_cons] at hz
    constructor
    · intro hzl
      rcases hz.1 (.inr hzl) with e | h2
      · subst e; have := hl1 z hzl; rw [ltS_irrefl] at this; cases this
      · exact h2
    · intro hzl
      rcases hz.2 (.inr hzl) with e | h2
      · subst e; have := hm1 z hzl; rw [ltS_irrefl] at this; cases this
      · exact h2
theorem union_mem : ∀ {a b : List Bs} {x : Bs}, x ∈ unionM a b ↔ x ∈ a ∨ x ∈ b := by
  intro a b x
  fun_induction unionM a b with
  | case1 b => simp
  | case2 y r => simp
  | case3 y r z s h ih => simp only [List.mem_cons, ih]; grind
  | case4 y r z s h h2 ih => simp only [List.mem_cons, ih]; grind
  | case5 y r z s h h2 ih =>
    have e : y = z := ltS_tri (by simpa using h) (by simpa using h2)
    simp only [List.mem_cons, ih]; grind
theorem union_asc : ∀ {a b : List Bs}, ascS a → ascS b → ascS (unionM a b) := by
  intro a b
  fun_induction unionM a b with
  | case1 b => exact fun _ h => h
  | case2 y r => exact fun h _ => h
  | case3 y r z s h ih =>
    intro ha hb
    obtain ⟨ha1, ha2⟩ := List.pairwise_cons.1 ha
    obtain ⟨hb1, hb2⟩ := List.pairwise_cons.1 hb
    refine List.pairwise_cons.2 ⟨fun w hw => ?_, ih ha2 hb⟩
    rcases union_mem.1 hw with hw | hw
    · exact ha1 w hw
    · rcases List.mem_cons.1 hw with rfl | hw
      · exact h
      · exact ltS_trans h (hb1 w hw)
  | case4 y r z s h h2 ih =>
    intro ha hb
    obtain ⟨ha1, ha2⟩ := List.pairwise_cons.1 ha
    obtain ⟨hb1, hb2⟩ := List.pairwise_cons.1 hb
    refine List.pairwise_cons.2 ⟨fun w hw => ?_, ih ha hb2⟩
    rcases union_mem.1 hw with hw | hw
    · rcases List.mem_cons.1 hw with rfl | hw
      · exact h2
      · exact ltS_trans h2 (ha1 w hw)
    · exact hb1 w hw
  | case5 y r z s h h2 ih =>
    intro ha hb
    obtain ⟨ha1, ha2⟩ := List.pairwise_cons.1 ha
    obtain ⟨hb1, hb2⟩ := List.pairwise_cons.1 hb
    have e : y = z := ltS_tri (by simpa using h) (by simpa using h2)
    refine List.pairwise_cons.2 ⟨fun w hw => ?_, ih ha2 hb2⟩
    rcases union_mem.1 hw with hw | hw
    · exact ha1 w hw
    · rw [e]; exact hb1 w hw
end Go.Rs
end
section
/-! Three nodes merged: facts. -/
namespace Go.Rs
theorem ascS_names {n : Nd} (h : okN n) (hk : n.kind = 4) : ascS n.names := by
  have h1 := ascI_sorted.2 (okN_sorted h hk)
  unfold ascI nmI at h1
  rw [List.pairwise_map] at h1
  exact h1
theorem gM_out {base a b : Nd} (ha : okN a) (hb : okN b) (hk : a.kind = 4) (hk2 : b.kind = 4) {nm : Bs} (h1 : nm ∉ a.names) (h2 : nm ∉ b.names) : gM base a b nm = some none := by
  unfold gM
  rw [(base_none ha hk).2 h1, (base_none hb hk2).2 h2]
theorem union3 {base a b : Nd} (ho : okN base) (ha : okN a) (hb : okN b) (hk0 : base.kind = 4) (hk : a.kind = 4) (hk2 : b.kind = 4) :
    (unionM (unionM base.names a.names) b.names).foldl (stepT (gM base a b)) (some []) = (unionM a.names b.names).foldl (stepT (gM base a b)) (some []) := by
  have hA := ascS_names ha hk
  have hB := ascS_names hb hk2
  have hO := ascS_names ho hk0
  rw [stepT_skip (fun nm => decide (nm ∈ a.names ∨ nm ∈ b.names)) (fun nm h => by
    simp only [decide_eq_false_iff_not, not_or] at h
    exact gM_out ha hb hk hk2 h.1 h.2)]
  rw [ascS_ext ((union_asc (union_asc hO hA) hB).filter _) (union_asc hA hB) fun x => by
    simp only [List.mem_filter, union_mem, decide_eq_true_eq]
    constructor
    · exact fun h => h.2
    · exact fun h => ⟨h.elim (fun h => .inl (.inr h)) .inr, h⟩]
theorem look_ok {n : Nd} (h : okN n) {nm : Bs} {x : It} (hx : lookI (baseI n) nm = some x) : okN x.node := by
  have h1 := (look_name hx).2
  unfold baseI at h1
  split at h1
  · exact okN_mem h (zip_node h1)
  · simp at h1
def goodT (l : List It) (i : Nat) : Prop := ascI l ∧ (∀ x ∈ l, x.version = 0) ∧ l.length ≤ i ∧ ∀ x ∈ l, smN x.node
theorem goodT_put {l : List It} {i : Nat} {nm : Bs} {x : Nd} (h : goodT l i) (hx : smN x) : goodT (putL l ⟨nm, 0, x⟩) (i + 1) := by
  obtain ⟨h1, h2, h3, h4⟩ := h
  have hm := fun y (hy : y ∈ putL l ⟨nm, 0, x⟩) => put_mem h1 hy
  refine ⟨put_asc h1, fun y hy => ?_, by have := putL_len ⟨nm, 0, x⟩ l; omega, fun y hy => ?_⟩
  · rcases hm y hy with hy | rfl
    · exact h2 y hy
    · rfl
  · rcases hm y hy with hy | rfl
    · exact h4 y hy
    · exact hx
theorem goodT_more {l : List It} {i j : Nat} (h : goodT l i) (hj : i ≤ j) : goodT l j := ⟨h.1, h.2.1, by have := h.2.2.1; omega, h.2.2.2⟩
theorem accT_good {base a b : Nd} {ns : List Bs} (hg : ∀ nm x, gM base a b nm = some (some x) → smN x) : ∀ {i : Nat} {l : List It}, i ≤ ns.length → accT base a b ns i = some l → goodT l i
  | 0, l, _, h => by
    rw [accT_zero] at h; cases h
    exact ⟨List.Pairwise.nil, by simp, by simp, by simp⟩
  | i + 1, l, hi, h => by
    rw [accT_succ (by omega)] at h
    unfold stepT at h
    cases e : accT base a b ns i with
    | none => rw [e] at h; cases h
    | some m =>
      have ih := accT_good hg (by omega) e
      rw [e] at h
      simp only at h
      split at h
      · cases h
      · cases h; exact goodT_more ih (by omega)
      · rename_i x hx
        cases h; exact goodT_put ih (hg _ _ hx)
theorem union_len6 {a b : Nd} (ha : okN a) (hb : okN b) : (unionM a.names b.names).length ≤ 12 := by
  have := unionM_len a.names b.names
  have h1 := (okN_names ha).1
  have h2 := (okN_names hb).1
  omega
theorem three_sm : ∀ (s : Nat) {base a b r : Nd}, SizeOf.sizeOf a ≤ s → okN base → okN a → okN b → threeM base a b = some r → smN r := by
  intro s
  induction s with
  | zero => intro base a b r hs; exfalso; have := kids_size a; omega
  | succ s ih =>
    intro base a b r hs ho ha hb h
    rw [threeM_eq] at h
    split at h
    · cases h; exact ha.sm
    · split at h
      · cases h; exact hb.sm
      · split at h
        · cases h
        · have hg : ∀ nm x, gM base a b nm = some (some x) → smN x := by
            intro nm x hx
            unfold gM at hx
            split at hx
            · rename_i x1 y1 o1 e1 e2 e3
              cases e4 : threeM o1.node x1.node y1.node with
              | none => rw [e4] at hx; cases hx
              | some z =>
                rw [e4] at hx; cases hx
                exact ih (by have := look_size e1; omega) (look_ok ho e3) (look_ok ha e1) (look_ok hb e2) e4
            · rename_i x1 y1 e1 e2 e3
              split at hx
              · cases hx; exact (look_ok ha e1).sm
              · cases hx
            · split at hx <;> cases hx
            · split at hx <;> cases hx
            · rename_i x1 e1 e2 e3; cases hx; exact (look_ok ha e1).sm
            · rename_i y1 e1 e2 e3; cases hx; exact (look_ok hb e2).sm
            · cases hx
          rw [← accT_all] at h
          cases e : accT base a b (unionM a.names b.names) (unionM a.names b.names).length with
          | none => rw [e] at h; cases h
          | some l =>
            rw [e] at h
            cases h
            have hl := accT_good hg (Nat.le_refl _) e
            have := union_len6 ha hb
            exact sm_ndOf (by have := hl.2.2.1; omega) hl.2.2.2
theorem gM_sm {base a b : Nd} (ho : okN base) (ha : okN a) (hb : okN b) {nm : Bs} {x : Nd} (hx : gM base a b nm = some (some x)) : smN x := by
  unfold gM at hx
  split at hx
  · rename_i x1 y1 o1 e1 e2 e3
    cases e4 : threeM o1.node x1.node y1.node with
    | none => rw [e4] at hx; cases hx
    | some z =>
      rw [e4] at hx; cases hx
      exact three_sm _ (Nat.le_refl _) (look_ok ho e3) (look_ok ha e1) (look_ok hb e2) e4
  · rename_i x1 y1 e1 e2 e3
    split at hx
    · cases hx; exact (look_ok ha e1).sm
    · cases hx
  · split at hx <;> cases hx
  · split at hx <;> cases hx
  · rename_i x1 e1 e2 e3; cases hx; exact (look_ok ha e1).sm
  · rename_i y1 e1 e2 e3; cases hx; exact (look_ok hb e2).sm
  · cases hx
noncomputable def mergeThreeM (base a b : Nd) : Option Nd := if validM base && (validM a && validM b) then checkedM (threeM base a b) else none
theorem mergeThree_ok {base a b t : Nd} (h : mergeThreeM base a b = some t) : validM t = true := by
  unfold mergeThreeM at h
  split at h
  · exact checkedM_ok h
  · cases h
theorem same_iff {a b : Nd} (ha : okN a) (hb : okN b) : cmpN a b = 0 ↔ a = b := ⟨cmpN_same ha hb, fun h => by rw [h]; exact cmpN_refl b⟩
theorem same_eqD {a b : Nd} (ha : okN a) (hb : okN b) : decide (cmpN a b = 0) = eqD a b := by
  rw [Bool.eq_iff_iff, decide_eq_true_eq, eqD_iff]; exact same_iff ha hb
end Go.Rs
end
