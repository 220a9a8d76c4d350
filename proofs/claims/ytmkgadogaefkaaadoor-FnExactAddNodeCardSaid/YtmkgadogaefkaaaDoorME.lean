import Derived.Test.YtmkgadogaefkaaaDoorMD
set_option linter.all false
section
/-! Plain models: maps as nodes; a name put in or taken out by the reference's steps; merged nodes' rows. -/
namespace Go.Rs
theorem ndOf_len (l : List It) : (ndOf l).names.length = l.length ∧ (ndOf l).kids.length = l.length := by simp [ndOf]
theorem place_ndOf {l : List It} (h : ascI l) (b : Bs) : (foundI l b = true → placeM (ndOf l) b = lbI l b) ∧ (foundI l b = false → placeM (ndOf l) b = -1) := by
  have hs := ascI_sorted.2 (sorted_nm.2 h)
  constructor
  · intro hf
    have h1 : lbI l b < l.length ∧ (l.getD (lbI l b) default).name = b := by simp only [foundI, Bool.and_eq_true, decide_eq_true_eq] at hf; exact hf
    have hg : ∀ j, (ndOf l).names.getD j [] = (l.getD j default).name := fun j => by
      have := nm_get l j
      rw [nmI_get] at this
      exact this
    refine placeM_at (by simpa [ndOf] using h1.1) (hitM_iff.2 (.inl ⟨rfl, by rw [hg]; exact h1.2⟩)) fun j hj => ?_
    refine hitM_no ⟨fun _ e => ?_, fun h3 => by simp [ndOf] at h3⟩
    have h2 := lbI_lt hj
    rw [← hg, e, ltS_irrefl] at h2; cases h2
  · intro hf
    refine placeM_none fun j hj => hitM_no ⟨fun _ e => ?_, fun h3 => by simp [ndOf] at h3⟩
    have h1 := lookI_found (b := b) h
    rw [hf, if_neg (by simp)] at h1
    unfold lookI at h1
    rw [List.find?_eq_none] at h1
    have hjn : j < l.length := by simpa [ndOf] using hj
    have := h1 (l.getD j default) (getD_mem hjn)
    have hg : (ndOf l).names.getD j [] = (l.getD j default).name := by
      have := nm_get l j
      rw [nmI_get] at this
      exact this
    rw [← hg, e] at this
    simp at this
theorem with_ndOf {l : List It} (h : ascI l) (hv : ∀ x ∈ l, x.version = 0) {b : Bs} {x : Nd} (hp : 0 ≤ placeM (ndOf l) b) : withKidM (ndOf l) (placeM (ndOf l) b).toNat x = ndOf (putL l ⟨b, 0, x⟩) := by
  have h1 := place_ndOf h b
  cases hf : foundI l b with
  | false => rw [h1.2 hf] at hp; omega
  | true =>
    rw [h1.1 hf, Int.toNat_natCast]
    have h2 := put_rows (ns := l.map (·.name)) (ks := l.map (·.node)) (b := b) (x := x) (by simp) (sorted_nm.2 h)
    rw [zip_back hv, found_names, lb_names] at h2
    obtain ⟨h3, h4⟩ := h2.1 hf
    unfold ndOf
    rw [h3, h4]
    rfl
theorem slotI_ndOf {l : List It} (h : ascI l) {b : Bs} (hf : foundI l b = false) : slotI (ndOf l) b = lbI l b := by
  have hg : ∀ j, (ndOf l).names.getD j [] = (l.getD j default).name := fun j => by
    have := nm_get l j
    rw [nmI_get] at this
    exact this
  have hl := (ndOf_len l).2
  refine slotI_at (by rw [hl]; exact lbI_le l b) (fun hi => ?_) fun j hj => ?_
  · rw [hl] at hi
    rw [hg]
    have h1 := lbI_at hi
    refine ltS_total h1 fun e => ?_
    simp only [foundI, Bool.and_eq_false_iff, decide_eq_false_iff_not] at hf
    rcases hf with h2 | h2
    · exact h2 hi
    · exact h2 e
  · have h2 := lbI_lt hj
    rw [hg]
    cases h3 : ltS b (l.getD j default).name with
    | false => rfl
    | true => have := ltS_trans h2 h3; rw [ltS_irrefl] at this; cases this
theorem add_ndOf {l : List It} (h : ascI l) (hv : ∀ x ∈ l, x.version = 0) (b : Bs) (x : Nd) : addHereM (ndOf l) b x = some (ndOf (putL l ⟨b, 0, x⟩)) := by
  have h1 := place_ndOf h b
  cases hf : foundI l b with
  | true =>
    have hp : 0 ≤ placeM (ndOf l) b := by rw [h1.1 hf]; omega
    have e : slotM (ndOf l) b = (placeM (ndOf l) b, true) := by unfold slotM; rw [if_pos hp]; rfl
    unfold addHereM
    rw [e, if_neg (by simp only; omega), if_pos rfl]
    simp only
    rw [with_ndOf h hv hp]
  | false =>
    have hp := h1.2 hf
    have e : slotM (ndOf l) b = ((lbI l b : Int), false) := by
      unfold slotM; rw [if_neg (by omega), if_neg (by simp [ndOf]), if_pos (show (ndOf l).kind = 4 from rfl), slotI_ndOf h hf]
    have h2 := put_rows (ns := l.map (·.name)) (ks := l.map (·.node)) (b := b) (x := x) (by simp) (sorted_nm.2 h)
    rw [zip_back hv, found_names, lb_names] at h2
    obtain ⟨h3, h4⟩ := h2.2 hf
    unfold addHereM
    rw [e, if_neg (by simp only; omega), if_neg (by simp)]
    simp only [Int.toNat_natCast]
    unfold ndOf
    rw [h3, h4]
    rfl
theorem base_nd {n : Nd} (h : okN n) (hk : n.kind = 4) : ndOf (baseI n) = n := by
  have hb := (base_facts h).2.2.2 hk
  have h2 := okN_bare h
  refine nd_same hk.symm (h2.1 (by omega)).symm (h2.2 (by omega)).symm hb.1 hb.2
end Go.Rs
end
section
/-! Plain laws: merged nodes' names. -/
namespace Go.Rs
end Go.Rs
end
section
/-! Plain models: the patch that leads from a node to a plain one. -/
namespace Go.Rs
end Go.Rs
end
section
/-! Plain laws: patches lead from node to node. -/
namespace Go.Rs
end Go.Rs
end
section
/-! Plain models: the reference's steps towards the patch. -/
namespace Go.Rs
end Go.Rs
end
