import Derived.Test.YtoailaifflbomaaMD
set_option linter.all false
section
/-! Plain models: maps as nodes; a name put in or taken out by the reference's steps; merged nodes' rows. -/
namespace Go.Rs
theorem ndOf_len (l : List It) : (ndOf l).names.length = l.length ∧ (ndOf l).kids.length = l.length := by simp [ndOf]
theorem place_ndOf {l : List It} (h : ascI l) (b : Bs) : (foundI l b = true → placeM (ndOf l) b = lbI l b) ∧ (foundI l b = false → placeM (ndOf l) b = -1) := by
  have hs := ascI_sorted.2 (sorted_nm.2 h)
  constructor
  · intro hf
    have h1 : lbI l b < l.length ∧ (l.getD (lbI l b) default).name = b := by simp only [foundI, Bool.and_eq_true, decide_eq_true_eq] at hf; exact hf
    have hg : ∀ j, (ndOf l).names.getD j [] = (l.getD j default).name := fun j => by
      have := nm_get l j
      rw [nmI_get] at this
      exact this
    refine placeM_at (by simpa [ndOf] using h1.1) (hitM_iff.2 (.inl ⟨rfl, by rw [hg]; exact h1.2⟩)) fun j hj => ?_
    refine hitM_no ⟨fun _ e => ?_, fun h3 => by simp [ndOf] at h3⟩
    have h2 := lbI_lt hj
    rw [← hg, e, ltS_irrefl] at h2; cases h2
  · intro hf
    refine placeM_none fun j hj => hitM_no ⟨fun _ e => ?_, fun h3 => by simp [ndOf] at h3⟩
    have h1 := lookI_found (b := b) h
    rw [hf, if_neg (by simp)] at h1
    unfold lookI at h1
    rw [List.find?_eq_none] at h1
    have hjn : j < l.length := by simpa [ndOf] using hj
    have := h1 (l.getD j default) (getD_mem hjn)
    have hg : (ndOf l).names.getD j [] = (l.getD j default).name := by
      have := nm_get l j
      rw [nmI_get] at this
      exact this
    rw [← hg, e] at this
    simp at this
theorem place_ndOf_lt {l : List It} (h : ascI l) (b : Bs) : placeM (ndOf l) b < 0 ↔ foundI l b = false := by
  have := place_ndOf h b
  cases hf : foundI l b with
  | true => rw [this.1 hf]; simp
  | false => rw [this.2 hf]; simp
theorem kid_ndOf {l : List It} (h : ascI l) {b : Bs} (hp : 0 ≤ placeM (ndOf l) b) : (ndOf l).kids.getD (placeM (ndOf l) b).toNat default = kidOf l b := by
  have h1 := place_ndOf h b
  cases hf : foundI l b with
  | false => rw [h1.2 hf] at hp; omega
  | true =>
    have hf2 := hf
    rw [← found_names] at hf2
    have h2 := (kid_found (b := b) h).1 hf2
    rw [lb_names] at h2
    rw [h1.1 hf, Int.toNat_natCast]
    exact h2
theorem with_ndOf {l : List It} (h : ascI l) (hv : ∀ x ∈ l, x.version = 0) {b : Bs} {x : Nd} (hp : 0 ≤ placeM (ndOf l) b) : withKidM (ndOf l) (placeM (ndOf l) b).toNat x = ndOf (putL l ⟨b, 0, x⟩) := by
  have h1 := place_ndOf h b
  cases hf : foundI l b with
  | false => rw [h1.2 hf] at hp; omega
  | true =>
    rw [h1.1 hf, Int.toNat_natCast]
    have h2 := put_rows (ns := l.map (·.name)) (ks := l.map (·.node)) (b := b) (x := x) (by simp) (sorted_nm.2 h)
    rw [zip_back hv, found_names, lb_names] at h2
    obtain ⟨h3, h4⟩ := h2.1 hf
    unfold ndOf
    rw [h3, h4]
    rfl
theorem slotI_ndOf {l : List It} (h : ascI l) {b : Bs} (hf : foundI l b = false) : slotI (ndOf l) b = lbI l b := by
  have hg : ∀ j, (ndOf l).names.getD j [] = (l.getD j default).name := fun j => by
    have := nm_get l j
    rw [nmI_get] at this
    exact this
  have hl := (ndOf_len l).2
  refine slotI_at (by rw [hl]; exact lbI_le l b) (fun hi => ?_) fun j hj => ?_
  · rw [hl] at hi
    rw [hg]
    have h1 := lbI_at hi
    refine ltS_total h1 fun e => ?_
    simp only [foundI, Bool.and_eq_false_iff, decide_eq_false_iff_not] at hf
    rcases hf with h2 | h2
    · exact h2 hi
    · exact h2 e
  · have h2 := lbI_lt hj
    rw [hg]
    cases h3 : ltS b (l.getD j default).name with
    | false => rfl
    | true => have := ltS_trans h2 h3; rw [ltS_irrefl] at this; cases this
theorem add_ndOf {l : List It} (h : ascI l) (hv : ∀ x ∈ l, x.version = 0) (b : Bs) (x : Nd) : addHereM (ndOf l) b x = some (ndOf (putL l ⟨b, 0, x⟩)) := by
  have h1 := place_ndOf h b
  cases hf : foundI l b with
  | true =>
    have hp : 0 ≤ placeM (ndOf l) b := by rw [h1.1 hf]; omega
    have e : slotM (ndOf l) b = (placeM (ndOf l) b, true) := by unfold slotM; rw [if_pos hp]; rfl
    unfold addHereM
    rw [e, if_neg (by simp only; omega), if_pos rfl]
    simp only
    rw [with_ndOf h hv hp]
  | false =>
    have hp := h1.2 hf
    have e : slotM (ndOf l) b = ((lbI l b : Int), false) := by
      unfold slotM; rw [if_neg (by omega), if_neg (by simp [ndOf]), if_pos (show (ndOf l).kind = 4 from rfl), slotI_ndOf h hf]
    have h2 := put_rows (ns := l.map (·.name)) (ks := l.map (·.node)) (b := b) (x := x) (by simp) (sorted_nm.2 h)
    rw [zip_back hv, found_names, lb_names] at h2
    obtain ⟨h3, h4⟩ := h2.2 hf
    unfold addHereM
    rw [e, if_neg (by simp only; omega), if_neg (by simp)]
    simp only [Int.toNat_natCast]
    unfold ndOf
    rw [h3, h4]
    rfl
theorem base_nd {n : Nd} (h : okN n) (hk : n.kind = 4) : ndOf (baseI n) = n := by
  have hb := (base_facts h).2.2.2 hk
  have h2 := okN_bare h
  refine nd_same hk.symm (h2.1 (by omega)).symm (h2.2 (by omega)).symm hb.1 hb.2
theorem sm_ndOf {l : List It} (hl : l.length ≤ 1000000) (h : ∀ x ∈ l, smN x.node) : smN (ndOf l) := by
  unfold ndOf
  refine smN_mk (by simp) (by simp; omega) (by simp; omega) fun x hx => ?_
  simp only [List.mem_map] at hx
  obtain ⟨y, hy, rfl⟩ := hx
  exact h y hy
end Go.Rs
end
section
/-! Plain laws: merged nodes' names. -/
namespace Go.Rs
end Go.Rs
end
section
/-! Plain models: the patch that leads from a node to a plain one. -/
namespace Go.Rs
end Go.Rs
end
section
/-! Plain laws: patches lead from node to node. -/
namespace Go.Rs
theorem look_name {l : List It} {b : Bs} {x : It} (h : lookI l b = some x) : x.name = b ∧ x ∈ l := by
  unfold lookI at h
  have h1 := List.find?_some h
  have h2 := List.mem_of_find?_eq_some h
  exact ⟨of_decide_eq_true h1, h2⟩
theorem look_mem {l : List It} (h : ascI l) {x : It} (hx : x ∈ l) : lookI l x.name = some x := by
  induction l with
  | nil => simp at hx
  | cons y l ih =>
    have h' := List.pairwise_cons.1 h
    rw [lookI_cons]
    rcases List.mem_cons.1 hx with rfl | hx
    · rw [if_pos rfl]
    · rw [if_neg (ltS_ne (h'.1 x hx)), ih h'.2 hx]
theorem base_len {n : Nd} (h : okN n) (hk : n.kind = 4) : (baseI n).length = n.names.length := by
  rw [← ((base_facts h).2.2.2 hk).1, List.length_map]
theorem base_get {n : Nd} (h : okN n) (hk : n.kind = 4) {i : Nat} (hi : i < n.names.length) : (baseI n).getD i default = ⟨n.names.getD i [], 0, n.kids.getD i default⟩ := by
  have hb := base_facts h
  have hl := base_len h hk
  have h1 : n.names.getD i [] = ((baseI n).getD i default).name := by
    rw [← (hb.2.2.2 hk).1]
    simp only [List.getD_eq_getElem?_getD, List.getElem?_map]
    rw [List.getElem?_eq_getElem (by omega)]; rfl
  have h2 : n.kids.getD i default = ((baseI n).getD i default).node := by
    rw [← (hb.2.2.2 hk).2]
    simp only [List.getD_eq_getElem?_getD, List.getElem?_map]
    rw [List.getElem?_eq_getElem (by omega)]; rfl
  have h3 := hb.2.1 _ (getD_mem (d := default) (show i < (baseI n).length by omega))
  rw [h1, h2]
  generalize (baseI n).getD i default = x at h3 ⊢
  cases x; simp only at h3; subst h3; rfl
theorem base_look {n : Nd} (h : okN n) (hk : n.kind = 4) {i : Nat} (hi : i < n.names.length) : lookI (baseI n) (n.names.getD i []) = some ⟨n.names.getD i [], 0, n.kids.getD i default⟩ := by
  have hb := base_facts h
  have hl := base_len h hk
  have h1 := look_mem hb.1 (getD_mem (d := default) (show i < (baseI n).length by omega))
  rw [base_get h hk hi] at h1
  exact h1
theorem base_none {n : Nd} (h : okN n) (hk : n.kind = 4) {b : Bs} : lookI (baseI n) b = none ↔ b ∉ n.names := by
  have hb := base_facts h
  constructor
  · intro h1 h2
    obtain ⟨i, hi, e⟩ := List.mem_iff_getElem.1 h2
    have := base_look h hk hi
    rw [getD_get hi, e, h1] at this; cases this
  · intro h1
    cases h2 : lookI (baseI n) b with
    | none => rfl
    | some x =>
      obtain ⟨h3, h4⟩ := look_name h2
      exfalso
      apply h1
      rw [← (hb.2.2.2 hk).1, ← h3]
      exact List.mem_map_of_mem h4
theorem place_base {n : Nd} (h : okN n) (hk : n.kind = 4) (b : Bs) : (placeM n b < 0 ↔ lookI (baseI n) b = none) ∧ (0 ≤ placeM n b → lookI (baseI n) b = some ⟨b, 0, n.kids.getD (placeM n b).toNat default⟩) := by
  have hb := base_facts h
  have he := base_nd h hk
  have h1 := place_ndOf_lt hb.1 b
  have h2 := fun hp => kid_ndOf (b := b) hb.1 hp
  rw [he] at h1 h2
  have h3 := lookI_found (b := b) hb.1
  constructor
  · rw [h1, h3]; cases foundI (baseI n) b <;> simp
  · intro hp
    have h4 := h2 hp
    cases h5 : lookI (baseI n) b with
    | none =>
      exfalso
      have : foundI (baseI n) b = false := by rw [h3] at h5; cases hf : foundI (baseI n) b with
        | false => rfl
        | true => rw [hf] at h5; simp at h5
      rw [← h1] at this; omega
    | some x =>
      obtain ⟨h6, h7⟩ := look_name h5
      have h8 := hb.2.1 x h7
      unfold kidOf at h4
      rw [h5] at h4
      simp only at h4
      rw [h4]
      cases x; simp only at h6 h8; subst h6; subst h8; rfl
end Go.Rs
end
section
/-! Plain models: the reference's steps towards the patch. -/
namespace Go.Rs
end Go.Rs
end
