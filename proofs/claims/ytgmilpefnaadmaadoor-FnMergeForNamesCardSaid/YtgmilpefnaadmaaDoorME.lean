import Derived.Test.YtgmilpefnaadmaaDoorMD
set_option linter.all false
section
/-! Plain models: maps as nodes; a name put in or taken out by the reference's steps; merged nodes' rows. -/
namespace Go.Rs
theorem ndOf_len (l : List It) : (ndOf l).names.length = l.length ∧ (ndOf l).kids.length = l.length := by simp [ndOf]
theorem place_ndOf {l : List It} (h : ascI l) (b : Bs) : (foundI l b = true → placeM (ndOf l) b = lbI l b) ∧ (foundI l b = false → placeM (ndOf l) b = -1) := by
  have hs := ascI_sorted.2 (sorted_nm.2 h)
  constructor
  · intro hf
    have h1 : lbI l b < l.length ∧ (l.getD (lbI l b) default).name = b := by simp only [foundI, Bool.and_eq_true, decide_eq_true_eq] at hf; exact hf
    have hg : ∀ j, (ndOf l).names.getD j [] = (l.getD j default).name := fun j => by
      have := nm_get l j
      rw [nmI_get] at this
      exact this
    refine placeM_at (by simpa [ndOf] using h1.1) (hitM_iff.2 (.inl ⟨rfl, by rw [hg]; exact h1.2⟩)) fun j hj => ?_
    refine hitM_no ⟨fun _ e => ?_, fun h3 => by simp [ndOf] at h3⟩
    have h2 := lbI_lt hj
    rw [← hg, e, ltS_irrefl] at h2; cases h2
  · intro hf
    refine placeM_none fun j hj => hitM_no ⟨fun _ e => ?_, fun h3 => by simp [ndOf] at h3⟩
    have h1 := lookI_found (b := b) h
    rw [hf, if_neg (by simp)] at h1
    unfold lookI at h1
    rw [List.find?_eq_none] at h1
    have hjn : j < l.length := by simpa [ndOf] using hj
    have := h1 (l.getD j default) (getD_mem hjn)
    have hg : (ndOf l).names.getD j [] = (l.getD j default).name := by
      have := nm_get l j
      rw [nmI_get] at this
      exact this
    rw [← hg, e] at this
    simp at this
theorem place_ndOf_lt {l : List It} (h : ascI l) (b : Bs) : placeM (ndOf l) b < 0 ↔ foundI l b = false := by
  have := place_ndOf h b
  cases hf : foundI l b with
  | true => rw [this.1 hf]; simp
  | false => rw [this.2 hf]; simp
theorem kid_ndOf {l : List It} (h : ascI l) {b : Bs} (hp : 0 ≤ placeM (ndOf l) b) : (ndOf l).kids.getD (placeM (ndOf l) b).toNat default = kidOf l b := by
  have h1 := place_ndOf h b
  cases hf : foundI l b with
  | false => rw [h1.2 hf] at hp; omega
  | true =>
    have hf2 := hf
    rw [← found_names] at hf2
    have h2 := (kid_found (b := b) h).1 hf2
    rw [lb_names] at h2
    rw [h1.1 hf, Int.toNat_natCast]
    exact h2
theorem with_ndOf {l : List It} (h : ascI l) (hv : ∀ x ∈ l, x.version = 0) {b : Bs} {x : Nd} (hp : 0 ≤ placeM (ndOf l) b) : withKidM (ndOf l) (placeM (ndOf l) b).toNat x = ndOf (putL l ⟨b, 0, x⟩) := by
  have h1 := place_ndOf h b
  cases hf : foundI l b with
  | false => rw [h1.2 hf] at hp; omega
  | true =>
    rw [h1.1 hf, Int.toNat_natCast]
    have h2 := put_rows (ns := l.map (·.name)) (ks := l.map (·.node)) (b := b) (x := x) (by simp) (sorted_nm.2 h)
    rw [zip_back hv, found_names, lb_names] at h2
    obtain ⟨h3, h4⟩ := h2.1 hf
    unfold ndOf
    rw [h3, h4]
    rfl
theorem without_ndOf {l : List It} (h : ascI l) (hv : ∀ x ∈ l, x.version = 0) {b : Bs} (hp : 0 ≤ placeM (ndOf l) b) : withoutM (ndOf l) (placeM (ndOf l) b).toNat = ndOf (dropL l b) := by
  have h1 := place_ndOf h b
  cases hf : foundI l b with
  | false => rw [h1.2 hf] at hp; omega
  | true =>
    rw [h1.1 hf, Int.toNat_natCast]
    have h2 := drop_rows (ns := l.map (·.name)) (ks := l.map (·.node)) (b := b) (by simp) (sorted_nm.2 h)
    rw [zip_back hv, found_names, lb_names] at h2
    obtain ⟨h3, h4⟩ := h2.1 hf
    unfold ndOf
    rw [h3, h4]
    unfold withoutM outM
    simp only [if_true, List.eraseIdx_eq_take_drop_succ]
theorem drop_ndOf {l : List It} (h : ascI l) {b : Bs} (hp : placeM (ndOf l) b < 0) : dropL l b = l := dropL_new h ((place_ndOf_lt h b).1 hp)
theorem slotI_ndOf {l : List It} (h : ascI l) {b : Bs} (hf : foundI l b = false) : slotI (ndOf l) b = lbI l b := by
  have hg : ∀ j, (ndOf l).names.getD j [] = (l.getD j default).name := fun j => by
    have := nm_get l j
    rw [nmI_get] at this
    exact this
  have hl := (ndOf_len l).2
  refine slotI_at (by rw [hl]; exact lbI_le l b) (fun hi => ?_) fun j hj => ?_
  · rw [hl] at hi
    rw [hg]
    have h1 := lbI_at hi
    refine ltS_total h1 fun e => ?_
    simp only [foundI, Bool.and_eq_false_iff, decide_eq_false_iff_not] at hf
    rcases hf with h2 | h2
    · exact h2 hi
    · exact h2 e
  · have h2 := lbI_lt hj
    rw [hg]
    cases h3 : ltS b (l.getD j default).name with
    | false => rfl
    | true => have := ltS_trans h2 h3; rw [ltS_irrefl] at this; cases this
theorem add_ndOf {l : List It} (h : ascI l) (hv : ∀ x ∈ l, x.version = 0) (b : Bs) (x : Nd) : addHereM (ndOf l) b x = some (ndOf (putL l ⟨b, 0, x⟩)) := by
  have h1 := place_ndOf h b
  cases hf : foundI l b with
  | true =>
    have hp : 0 ≤ placeM (ndOf l) b := by rw [h1.1 hf]; omega
    have e : slotM (ndOf l) b = (placeM (ndOf l) b, true) := by unfold slotM; rw [if_pos hp]; rfl
    unfold addHereM
    rw [e, if_neg (by simp only; omega), if_pos rfl]
    simp only
    rw [with_ndOf h hv hp]
  | false =>
    have hp := h1.2 hf
    have e : slotM (ndOf l) b = ((lbI l b : Int), false) := by
      unfold slotM; rw [if_neg (by omega), if_neg (by simp [ndOf]), if_pos (show (ndOf l).kind = 4 from rfl), slotI_ndOf h hf]
    have h2 := put_rows (ns := l.map (·.name)) (ks := l.map (·.node)) (b := b) (x := x) (by simp) (sorted_nm.2 h)
    rw [zip_back hv, found_names, lb_names] at h2
    obtain ⟨h3, h4⟩ := h2.2 hf
    unfold addHereM
    rw [e, if_neg (by simp only; omega), if_neg (by simp)]
    simp only [Int.toNat_natCast]
    unfold ndOf
    rw [h3, h4]
    rfl
theorem base_nd {n : Nd} (h : okN n) (hk : n.kind = 4) : ndOf (baseI n) = n := by
  have hb := (base_facts h).2.2.2 hk
  have h2 := okN_bare h
  refine nd_same hk.symm (h2.1 (by omega)).symm (h2.2 (by omega)).symm hb.1 hb.2
theorem sm_ndOf {l : List It} (hl : l.length ≤ 1000000) (h : ∀ x ∈ l, smN x.node) : smN (ndOf l) := by
  unfold ndOf
  refine smN_mk (by simp) (by simp; omega) (by simp; omega) fun x hx => ?_
  simp only [List.mem_map] at hx
  obtain ⟨y, hy, rfl⟩ := hx
  exact h y hy
theorem base_sm {n : Nd} (h : okN n) : ∀ x ∈ baseI n, smN x.node := by
  intro x hx
  by_cases h4 : n.kind = 4
  · have := (base_facts h).2.2.2 h4
    exact (okN_mem h (by rw [← this.2]; exact List.mem_map_of_mem hx)).sm
  · unfold baseI at hx; rw [if_neg h4] at hx; simp at hx
theorem acc_sm {p n : Nd} (hp : okN p) (hn : okN n) : ∀ {i : Nat}, i ≤ p.names.length → i ≤ p.kids.length → ∀ x ∈ accM p n i, smN x.node
  | 0, _, _ => by rw [accM_zero]; exact base_sm hn
  | i + 1, h1, h2 => by
    intro x hx
    rw [accM_succ (by omega) (by omega)] at hx
    unfold stepG at hx
    have hf := (accM_facts hn (p := p) (i := i) (by omega) (by omega)).1
    split at hx
    · exact acc_sm hp hn (i := i) (by omega) (by omega) x (List.mem_filter.1 hx).1
    · rcases put_mem hf hx with h1 | rfl
      · exact acc_sm hp hn (i := i) (by omega) (by omega) x h1
      · exact mrg_sm _ _ _ (Nat.le_refl _) (okN_kid hp (by omega)) (kidOf_ok hn _)
theorem acc_nd {p n : Nd} (hp : okN p) (hn : okN n) {i : Nat} (h1 : i ≤ p.names.length) (h2 : i ≤ p.kids.length) : smN (ndOf (accM p n i)) := by
  have h3 := (accM_facts hn (p := p) h1 h2).2.2.1
  have h4 := (okN_names hp).1
  exact sm_ndOf (by omega) (acc_sm hp hn h1 h2)
theorem merge_now {p n m : Nd} {i : Nat} (hp : okN p) (hn : okN n) (h1 : i ≤ p.names.length) (h2 : i ≤ p.kids.length) (hm : m = ndOf (accM p n i)) :
    m.kind = 4 ∧ m.names.length = m.kids.length ∧ m.kids.length ≤ 12 ∧ smN m ∧ evenN m := by
  have hl := ndOf_len (accM p n i)
  have h3 := (accM_facts hn (p := p) h1 h2).2.2.1
  have h4 := (okN_names hp).1
  subst hm
  exact ⟨rfl, by omega, by omega, acc_nd hp hn h1 h2, fun _ => by omega⟩
theorem merge_step {p n m : Nd} {i : Nat} {b : Bs} {x : Nd} (hp : okN p) (hk : p.kind = 4) (hn : okN n) (hi : i < p.kids.length) (hm : m = ndOf (accM p n i)) (hb : p.names.getD i [] = b) (hx : p.kids.getD i default = x) :
    (x.kind = 0 → 0 ≤ placeM m b → withoutM m (placeM m b).toNat = ndOf (accM p n (i + 1))) ∧
    (x.kind = 0 → placeM m b < 0 → m = ndOf (accM p n (i + 1))) ∧
    (0 ≤ placeM m b → okN (m.kids.getD (placeM m b).toNat default) ∧ smN (mrgM x (m.kids.getD (placeM m b).toNat default))) ∧
    (x.kind ≠ 0 → 0 ≤ placeM m b → withKidM m (placeM m b).toNat (mrgM x (m.kids.getD (placeM m b).toNat default)) = ndOf (accM p n (i + 1))) ∧
    smN (mrgM x zeroN) ∧
    (x.kind ≠ 0 → placeM m b < 0 → addHereM m b (mrgM x zeroN) = some (ndOf (accM p n (i + 1)))) := by
  have hl := (okN_names hp).2.1 hk
  have hf := accM_facts hn (p := p) (i := i) (by omega) (by omega)
  have hox : okN x := by rw [← hx]; exact okN_kid hp hi
  have hs : accM p n (i + 1) = stepG (baseI n) (accM p n i) b x := by rw [accM_succ (by omega) hi, hb, hx]
  have hak := accM_kid hp hk hn (i := i) (by omega)
  rw [hb] at hak
  subst hm
  have hkd : 0 ≤ placeM (ndOf (accM p n i)) b → (ndOf (accM p n i)).kids.getD (placeM (ndOf (accM p n i)) b).toNat default = kidOf (baseI n) b := fun h => by rw [kid_ndOf hf.1 h, hak]
  refine ⟨fun h0 hp0 => ?_, fun h0 hp0 => ?_, fun hp0 => ?_, fun h0 hp0 => ?_, mrg_sm _ _ _ (Nat.le_refl _) hox okN_zero, fun h0 hp0 => ?_⟩
  · rw [hs]; unfold stepG; rw [if_pos h0]; exact without_ndOf hf.1 hf.2.1 hp0
  · rw [hs]; unfold stepG; rw [if_pos h0, drop_ndOf hf.1 hp0]
  · rw [hkd hp0]; exact ⟨kidOf_ok hn b, mrg_sm _ _ _ (Nat.le_refl _) hox (kidOf_ok hn b)⟩
  · rw [hkd hp0, with_ndOf hf.1 hf.2.1 hp0, hs]; unfold stepG; rw [if_neg h0]
  · rw [add_ndOf hf.1 hf.2.1, hs]; unfold stepG; rw [if_neg h0]
    have hfn := (place_ndOf_lt hf.1 b).1 hp0
    have e : kidOf (baseI n) b = zeroN := by
      rw [← hak]
      refine (kid_found hf.1).2 ?_
      rw [found_names]; exact hfn
    rw [e]
end Go.Rs
end
section
/-! Plain laws: merged nodes' names. -/
namespace Go.Rs
def mergeNodeM (n p : Nd) : Option Nd := if validM n && validM p then (if validM (mrgM p n) then some (mrgM p n) else none) else none
theorem some_getD {o : Option Nd} (h : o.isSome = true) : o = some (o.getD default) := by cases o with
  | none => cases h
  | some m => rfl
theorem mergeNode_some {n p m : Nd} (h : mergeNodeM n p = some m) : (validM n = true ∧ validM p = true) ∧ m = mrgM p n ∧ validM m = true := by
  unfold mergeNodeM at h
  split at h
  · rename_i h1
    rw [Bool.and_eq_true] at h1
    split at h
    · rename_i h2; cases h; exact ⟨h1, rfl, h2⟩
    · cases h
  · cases h
theorem find_ndOf {l : List It} (h : ascI l) (b : Bs) : findM (ndOf l) [b] = (lookI l b).map (·.node) := by
  have h1 := place_ndOf_lt h b
  have h2 := kid_ndOf (b := b) h
  rw [lookI_found h]
  rw [findM]
  cases hf : foundI l b with
  | false => rw [if_pos (h1.2 hf), if_neg (by simp)]; rfl
  | true =>
    have hp : ¬ placeM (ndOf l) b < 0 := fun e => by rw [h1.1 e] at hf; cases hf
    rw [if_neg hp, h2 (by omega), findM, if_pos rfl]
    unfold kidOf
    rw [lookI_found h, hf]; rfl
theorem okN_areNames {n : Nd} (h : okN n) (hk : n.kind = 4) : areNamesM n.names = true := by
  have := okN_parts h
  simp only [partsM] at this
  grind
theorem okN_txt {n : Nd} (h : okN n) (hk : n.kind = 4) {i : Nat} (hi : i < n.names.length) : txtM (n.names.getD i []) = true := by
  have h2 := okN_areNames h hk
  simp only [areNamesM, Bool.and_eq_true, decide_eq_true_eq] at h2
  have := (namesM_iff _).1 h2.2 i hi
  unfold nameOk at this
  simp only [Bool.and_eq_true] at this
  exact this.1
theorem one_slice {l : List Bs} {i : Nat} (h : i < l.length) : (l.take (i + 1)).drop i = [l.getD i []] := by
  rw [← take_snoc [] h, List.drop_append, List.drop_of_length_le (by simp; omega)]
  simp [Nat.min_eq_left (Nat.le_of_lt h)]
theorem path_one {b : Bs} (h : txtM b = true) : pathM [b] = true := by simp [pathM, h]
theorem nodeAt_one {l : List It} (h : ascI l) (hv : validM (ndOf l) = true) {b : Bs} (hb : txtM b = true) : nodeAtM (ndOf l) [b] = (lookI l b).map (·.node) := by
  unfold nodeAtM
  rw [hv, path_one hb, ← find_ndOf h]; rfl
theorem mrgM_leaf {p n : Nd} (h : p.kind ≠ 4) : mrgM p n = p := by rw [mrgM_eq, if_neg h]
theorem mrgM_map {p n : Nd} (hp : okN p) (h : p.kind = 4) : mrgM p n = ndOf (accM p n p.names.length) := by
  rw [mrgM_eq, if_pos h, accM_all n ((okN_names hp).2.1 h)]
def valI (p n : Nd) (i : Nat) : Option It := if (p.kids.getD i default).kind = 0 then none else some ⟨p.names.getD i [], 0, mrgM (p.kids.getD i default) (kidOf (baseI n) (p.names.getD i []))⟩
theorem look_final {p n : Nd} (hp : okN p) (hk : p.kind = 4) (hn : okN n) {i : Nat} (hi : i < p.names.length) : ∀ {k : Nat}, i < k → k ≤ p.names.length → lookI (accM p n k) (p.names.getD i []) = valI p n i
  | 0, h, _ => by omega
  | k + 1, h, hk2 => by
    have hl := (okN_names hp).2.1 hk
    have ha := (accM_facts hn (p := p) (i := k) (by omega) (by omega)).1
    have hin := asc_inj (names_asc hp hk) hi (show k < p.names.length by omega)
    rw [accM_succ (by omega) (by omega)]
    unfold stepG
    by_cases e : k = i
    · subst e
      unfold valI
      split
      · rw [lookI_drop, if_pos rfl]
      · rw [lookI_put _ _ _ ha, if_pos rfl]
    · have hne : p.names.getD k [] ≠ p.names.getD i [] := fun h => e (hin h.symm).symm
      have ih := look_final hp hk hn hi (k := k) (by omega) (by omega)
      split
      · rw [lookI_drop, if_neg hne, ih]
      · rw [lookI_put _ _ _ ha, if_neg hne, ih]
theorem look_base {n : Nd} (h : okN n) (hk : n.kind = 4) {i : Nat} (hi : i < n.names.length) : (lookI (baseI n) (n.names.getD i [])).map (·.node) = some (n.kids.getD i default) := by
  have hb := base_facts h
  have hl := (okN_names h).2.1 hk
  rw [← find_ndOf hb.1, base_nd h hk, findM]
  have hp := (place_mem h hk).2 (getD_mem (d := []) hi)
  have h1 := placeM_ge n (n.names.getD i [])
  rw [if_neg (by omega), findM]
  have h6 := hitM_iff.1 (h1.2.2 hp)
  have h7 : (placeM n (n.names.getD i [])).toNat = i := by
    rcases h6 with ⟨-, h6⟩ | ⟨h6, -⟩
    · exact asc_inj (names_asc h hk) (by omega) hi h6
    · omega
  rw [h7]
theorem value_law {n p m : Nd} (h : mergeNodeM n p = some m) (hk : p.kind = 4) {i : Nat} (hi : i < p.names.length) (hv : (p.kids.getD i default).kind = 1 ∨ (p.kids.getD i default).kind = 2) :
    nodeAtM m ((p.names.take (i + 1)).drop i) = some (p.kids.getD i default) := by
  obtain ⟨⟨hn, hp⟩, rfl, hm⟩ := mergeNode_some h
  have on := validM_ok hn
  have op := validM_ok hp
  have hl := (okN_names op).2.1 hk
  rw [mrgM_map op hk] at hm ⊢
  rw [one_slice hi, nodeAt_one (accM_facts on (Nat.le_refl _) (by omega)).1 hm (okN_txt op hk hi), look_final op hk on hi hi (Nat.le_refl _)]
  unfold valI
  rw [if_neg (by omega), Option.map_some, mrgM_leaf (by omega)]
theorem others_law {n p m : Nd} (h : mergeNodeM n p = some m) (hk : p.kind = 4) (hk2 : n.kind = 4) {i : Nat} (hi : i < n.names.length) (hv : n.names.getD i [] ∉ p.names) :
    nodeAtM m ((n.names.take (i + 1)).drop i) = some (n.kids.getD i default) := by
  obtain ⟨⟨hn, hp⟩, rfl, hm⟩ := mergeNode_some h
  have on := validM_ok hn
  have op := validM_ok hp
  have hl := (okN_names op).2.1 hk
  rw [mrgM_map op hk] at hm ⊢
  have hf := accM_facts on (p := p) (i := p.names.length) (Nat.le_refl _) (by omega)
  rw [one_slice hi, nodeAt_one hf.1 hm (okN_txt on hk2 hi), hf.2.2.2 _ fun j hj e => hv (by rw [← e]; exact getD_mem hj), look_base on hk2 hi]
end Go.Rs
end
section
/-! Plain models: the patch that leads from a node to a plain one. -/
namespace Go.Rs
def plainM : Nd → Bool
  | ⟨k, _, _, _, l⟩ => !decide (k = 4) || go l
where go : List Nd → Bool
  | [] => true
  | x :: l => (!decide (x.kind = 0) && plainM x) && go l
def plainK (x : Nd) : Bool := !decide (x.kind = 0) && plainM x
theorem plainK_iff {x : Nd} : plainK x = true ↔ x.kind ≠ 0 ∧ plainM x = true := by unfold plainK; simp
theorem plainK_no {x : Nd} (h : x.kind = 0 ∨ plainM x = false) : plainK x = false := by
  unfold plainK; rcases h with h | h <;> simp [h]
theorem plainM_eq (n : Nd) : plainM n = (!decide (n.kind = 4) || n.kids.all plainK) := by
  obtain ⟨k, m, t, ns, l⟩ := n
  rw [plainM]
  congr 1
  show plainM.go l = l.all plainK
  induction l with
  | nil => rw [plainM.go]; rfl
  | cons x l ih => rw [plainM.go, ih, List.all_cons]; rfl
theorem plain_get {n : Nd} (hk : n.kind = 4) : plainM n = true ↔ ∀ j, j < n.kids.length → plainK (n.kids.getD j default) = true := by
  rw [plainM_eq, hk]
  simp only [decide_true, Bool.not_true, Bool.false_or, List.all_eq_true]
  exact ⟨fun h j hj => h _ (getD_mem hj), fun h x hx => by obtain ⟨j, hj, rfl⟩ := List.mem_iff_getElem.1 hx; rw [← getD_get hj default]; exact h j hj⟩
theorem plain_no {n : Nd} (hk : n.kind = 4) {j : Nat} (hj : j < n.kids.length) (h : plainK (n.kids.getD j default) = false) : plainM n = false := by
  rw [Bool.eq_false_iff]; intro e; rw [(plain_get hk).1 e j hj] at h; cases h
theorem plain_leaf {n : Nd} (h : n.kind ≠ 4) : plainM n = true := by rw [plainM_eq]; simp [h]
/-- The names of the second one that the first one does not have. -/
def restI (a b : Nd) (acc : List It) : Nat → List It
  | 0 => acc
  | j + 1 => if placeM a (b.names.getD j []) < 0 then putL (restI a b acc j) ⟨b.names.getD j [], 0, b.kids.getD j default⟩ else restI a b acc j
def patM : Nd → Nd → Nd
  | ⟨k, m, t, ns, ks⟩, b => if k = 4 ∧ b.kind = 4 then ndOf (restI ⟨k, m, t, ns, ks⟩ b (go b ns ks []) b.names.length) else b
where go (b : Nd) : List Bs → List Nd → List It → List It
  | nm :: ns, x :: xs, acc => go b ns xs (if placeM b nm < 0 then putL acc ⟨nm, 0, zeroN⟩ else if cmpN x (b.kids.getD (placeM b nm).toNat default) = 0 then acc else putL acc ⟨nm, 0, patM x (b.kids.getD (placeM b nm).toNat default)⟩)
  | _, _, acc => acc
theorem patM_eq (a b : Nd) : patM a b = if a.kind = 4 ∧ b.kind = 4 then ndOf (restI a b (patM.go b a.names a.kids []) b.names.length) else b := by
  cases a; rw [patM]
def stepP (b : Nd) (acc : List It) (nm : Bs) (x : Nd) : List It := if placeM b nm < 0 then putL acc ⟨nm, 0, zeroN⟩ else if cmpN x (b.kids.getD (placeM b nm).toNat default) = 0 then acc else putL acc ⟨nm, 0, patM x (b.kids.getD (placeM b nm).toNat default)⟩
theorem goP_snoc (b : Nd) : ∀ (ns : List Bs) (xs : List Nd) (acc : List It) (i : Nat), i < ns.length → i < xs.length →
    patM.go b (ns.take (i + 1)) (xs.take (i + 1)) acc = stepP b (patM.go b (ns.take i) (xs.take i) acc) (ns.getD i []) (xs.getD i default)
  | nm :: ns, x :: xs, acc, 0, _, _ => by simp [patM.go, stepP]
  | nm :: ns, x :: xs, acc, i + 1, h1, h2 => by
    have := goP_snoc b ns xs (stepP b acc nm x) i (by simpa using h1) (by simpa using h2)
    simp only [List.take_succ_cons, patM.go, List.getD_cons_succ]
    exact this
  | [], _, _, _, h1, _ => by simp at h1
  | _ :: _, [], _, _, _, h2 => by simp at h2
def accA (a b : Nd) (i : Nat) : List It := patM.go b (a.names.take i) (a.kids.take i) []
theorem accA_zero (a b : Nd) : accA a b 0 = [] := by unfold accA; rw [List.take_zero, List.take_zero, patM.go]; intro _ _ _ _ e; cases e
theorem accA_succ {a b : Nd} {i : Nat} (h1 : i < a.names.length) (h2 : i < a.kids.length) : accA a b (i + 1) = stepP b (accA a b i) (a.names.getD i []) (a.kids.getD i default) := goP_snoc _ _ _ _ _ h1 h2
theorem accA_all {a : Nd} (b : Nd) (h : a.names.length = a.kids.length) : accA a b a.names.length = patM.go b a.names a.kids [] := by
  unfold accA; rw [List.take_length, h, List.take_length]
def accB (a b : Nd) (j : Nat) : List It := restI a b (accA a b a.names.length) j
theorem patM_map {a b : Nd} (ha : okN a) (h1 : a.kind = 4) (h2 : b.kind = 4) : patM a b = ndOf (accB a b b.names.length) := by
  rw [patM_eq, if_pos ⟨h1, h2⟩, ← accA_all b ((okN_names ha).2.1 h1)]; rfl
theorem accB_zero (a b : Nd) : accB a b 0 = accA a b a.names.length := rfl
theorem accB_succ (a b : Nd) (j : Nat) : accB a b (j + 1) = if placeM a (b.names.getD j []) < 0 then putL (accB a b j) ⟨b.names.getD j [], 0, b.kids.getD j default⟩ else accB a b j := rfl
theorem accA_facts {a b : Nd} : ∀ {i : Nat}, i ≤ a.names.length → i ≤ a.kids.length → ascI (accA a b i) ∧ (∀ x ∈ accA a b i, x.version = 0) ∧ (accA a b i).length ≤ i
  | 0, _, _ => by rw [accA_zero]; exact ⟨List.Pairwise.nil, by simp, by simp⟩
  | i + 1, h1, h2 => by
    obtain ⟨a1, a2, a3⟩ := accA_facts (a := a) (b := b) (i := i) (by omega) (by omega)
    rw [accA_succ (by omega) (by omega)]
    unfold stepP
    have key : ∀ it : It, it.version = 0 → ascI (putL (accA a b i) it) ∧ (∀ x ∈ putL (accA a b i) it, x.version = 0) ∧ (putL (accA a b i) it).length ≤ i + 1 := fun it h => ⟨put_asc a1, put_v0 a1 a2 h, by have := put_len (accA a b i) it a1; omega⟩
    split
    · exact key _ rfl
    · split
      · exact ⟨a1, a2, by omega⟩
      · exact key _ rfl
theorem accB_facts {a b : Nd} (ha : a.names.length = a.kids.length) : ∀ j : Nat, ascI (accB a b j) ∧ (∀ x ∈ accB a b j, x.version = 0) ∧ (accB a b j).length ≤ a.names.length + j
  | 0 => by rw [accB_zero]; exact accA_facts (Nat.le_refl _) (by omega)
  | j + 1 => by
    obtain ⟨a1, a2, a3⟩ := accB_facts (b := b) ha j
    rw [accB_succ]
    split
    · exact ⟨put_asc a1, put_v0 a1 a2 rfl, by have := put_len (accB a b j) ⟨b.names.getD j [], 0, b.kids.getD j default⟩ a1; omega⟩
    · exact ⟨a1, a2, by omega⟩
theorem pat_sm : ∀ (s : Nat) (a b : Nd), SizeOf.sizeOf a ≤ s → okN a → okN b → smN (patM a b) ∧ (a.kind = 4 → b.kind = 4 → (∀ i, i ≤ a.names.length → ∀ x ∈ accA a b i, smN x.node) ∧ ∀ j, j ≤ b.names.length → ∀ x ∈ accB a b j, smN x.node) := by
  intro s
  induction s with
  | zero => intro a b hs; cases a; simp at hs
  | succ s ih =>
    intro a b hs ha hb
    have hmaps : a.kind = 4 → b.kind = 4 → (∀ i, i ≤ a.names.length → ∀ x ∈ accA a b i, smN x.node) ∧ ∀ j, j ≤ b.names.length → ∀ x ∈ accB a b j, smN x.node := by
      intro hk1 hk2
      have hla := (okN_names ha).2.1 hk1
      have hlb := (okN_names hb).2.1 hk2
      have kA : ∀ i, i ≤ a.names.length → ∀ x ∈ accA a b i, smN x.node := by
        intro i
        induction i with
        | zero => intro _ x hx; rw [accA_zero] at hx; simp at hx
        | succ i ihi =>
          intro hi x hx
          have ih2 := ihi (by omega)
          have hf := (accA_facts (a := a) (b := b) (i := i) (by omega) (by omega)).1
          rw [accA_succ (by omega) (by omega)] at hx
          unfold stepP at hx
          split at hx
          · rcases put_mem hf hx with h1 | rfl
            · exact ih2 x h1
            · exact okN_zero.sm
          · split at hx
            · exact ih2 x hx
            · rcases put_mem hf hx with h1 | rfl
              · exact ih2 x h1
              · have hp := (placeM_ge b (a.names.getD i [])).2.1
                exact (ih _ _ (by have := kid_size (n := a) (j := i) (by omega); omega) (okN_kid ha (by omega)) (okN_kid hb (by omega))).1
      refine ⟨kA, fun j => ?_⟩
      induction j with
      | zero => intro _; exact kA _ (Nat.le_refl _)
      | succ j ihj =>
        intro hj x hx
        have hf := (accB_facts (b := b) hla j).1
        rw [accB_succ] at hx
        split at hx
        · rcases put_mem hf hx with h1 | rfl
          · exact ihj (by omega) x h1
          · exact (okN_kid hb (by omega)).sm
        · exact ihj (by omega) x hx
    refine ⟨?_, hmaps⟩
    by_cases h : a.kind = 4 ∧ b.kind = 4
    · rw [patM_map ha h.1 h.2]
      have h6 := (okN_names ha).1
      have h7 := (okN_names hb).1
      have hf := (accB_facts (b := b) ((okN_names ha).2.1 h.1) b.names.length).2.2
      exact sm_ndOf (by omega) ((hmaps h.1 h.2).2 _ (Nat.le_refl _))
    · rw [patM_eq, if_neg h]; exact hb.sm
end Go.Rs
end
section
/-! Plain laws: patches lead from node to node. -/
namespace Go.Rs
theorem look_name {l : List It} {b : Bs} {x : It} (h : lookI l b = some x) : x.name = b ∧ x ∈ l := by
  unfold lookI at h
  have h1 := List.find?_some h
  have h2 := List.mem_of_find?_eq_some h
  exact ⟨of_decide_eq_true h1, h2⟩
theorem look_mem {l : List It} (h : ascI l) {x : It} (hx : x ∈ l) : lookI l x.name = some x := by
  induction l with
  | nil => simp at hx
  | cons y l ih =>
    have h' := List.pairwise_cons.1 h
    rw [lookI_cons]
    rcases List.mem_cons.1 hx with rfl | hx
    · rw [if_pos rfl]
    · rw [if_neg (ltS_ne (h'.1 x hx)), ih h'.2 hx]
theorem look_ext : ∀ {l m : List It}, ascI l → ascI m → (∀ b, lookI l b = lookI m b) → l = m := by
  have key : ∀ {l m : List It}, ascI l → ascI m → (∀ x, x ∈ l ↔ x ∈ m) → l = m := by
    intro l
    induction l with
    | nil =>
      intro m _ _ h
      cases m with
      | nil => rfl
      | cons y m => have := (h y).2 (by simp); simp at this
    | cons x l ih =>
      intro m hl hm h
      cases m with
      | nil => have := (h x).1 (by simp); simp at this
      | cons y m =>
        have hl' := List.pairwise_cons.1 hl
        have hm' := List.pairwise_cons.1 hm
        have e : x = y := by
          rcases List.mem_cons.1 ((h x).1 (by simp)) with h1 | h1
          · exact h1
          · rcases List.mem_cons.1 ((h y).2 (by simp)) with h2 | h2
            · exact h2.symm
            · have := ltS_trans (hm'.1 _ h1) (hl'.1 _ h2)
              rw [ltS_irrefl] at this; cases this
        subst e
        rw [ih hl'.2 hm'.2 fun z => ?_]
        constructor
        · intro hz
          rcases List.mem_cons.1 ((h z).1 (by simp [hz])) with rfl | h1
          · have := hl'.1 _ hz; rw [ltS_irrefl] at this; cases this
          · exact h1
        · intro hz
          rcases List.mem_cons.1 ((h z).2 (by simp [hz])) with rfl | h1
          · have := hm'.1 _ hz; rw [ltS_irrefl] at this; cases this
          · exact h1
  intro l m hl hm h
  refine key hl hm fun x => ⟨fun hx => ?_, fun hx => ?_⟩
  · have := look_mem hl hx; rw [h] at this; exact (look_name this).2
  · have := look_mem hm hx; rw [← h] at this; exact (look_name this).2
theorem base_ndOf {l : List It} (hv : ∀ x ∈ l, x.version = 0) : baseI (ndOf l) = l := by
  unfold baseI; rw [if_pos (show (ndOf l).kind = 4 from rfl)]; exact zip_back hv
theorem base_len {n : Nd} (h : okN n) (hk : n.kind = 4) : (baseI n).length = n.names.length := by
  rw [← ((base_facts h).2.2.2 hk).1, List.length_map]
theorem base_get {n : Nd} (h : okN n) (hk : n.kind = 4) {i : Nat} (hi : i < n.names.length) : (baseI n).getD i default = ⟨n.names.getD i [], 0, n.kids.getD i default⟩ := by
  have hb := base_facts h
  have hl := base_len h hk
  have h1 : n.names.getD i [] = ((baseI n).getD i default).name := by
    rw [← (hb.2.2.2 hk).1]
    simp only [List.getD_eq_getElem?_getD, List.getElem?_map]
    rw [List.getElem?_eq_getElem (by omega)]; rfl
  have h2 : n.kids.getD i default = ((baseI n).getD i default).node := by
    rw [← (hb.2.2.2 hk).2]
    simp only [List.getD_eq_getElem?_getD, List.getElem?_map]
    rw [List.getElem?_eq_getElem (by omega)]; rfl
  have h3 := hb.2.1 _ (getD_mem (d := default) (show i < (baseI n).length by omega))
  rw [h1, h2]
  generalize (baseI n).getD i default = x at h3 ⊢
  cases x; simp only at h3; subst h3; rfl
theorem base_look {n : Nd} (h : okN n) (hk : n.kind = 4) {i : Nat} (hi : i < n.names.length) : lookI (baseI n) (n.names.getD i []) = some ⟨n.names.getD i [], 0, n.kids.getD i default⟩ := by
  have hb := base_facts h
  have hl := base_len h hk
  have h1 := look_mem hb.1 (getD_mem (d := default) (show i < (baseI n).length by omega))
  rw [base_get h hk hi] at h1
  exact h1
theorem base_none {n : Nd} (h : okN n) (hk : n.kind = 4) {b : Bs} : lookI (baseI n) b = none ↔ b ∉ n.names := by
  have hb := base_facts h
  constructor
  · intro h1 h2
    obtain ⟨i, hi, e⟩ := List.mem_iff_getElem.1 h2
    have := base_look h hk hi
    rw [getD_get hi, e, h1] at this; cases this
  · intro h1
    cases h2 : lookI (baseI n) b with
    | none => rfl
    | some x =>
      obtain ⟨h3, h4⟩ := look_name h2
      exfalso
      apply h1
      rw [← (hb.2.2.2 hk).1, ← h3]
      exact List.mem_map_of_mem h4
theorem base_some {n : Nd} (h : okN n) (hk : n.kind = 4) {b : Bs} {x : It} (hx : lookI (baseI n) b = some x) : ∃ i, i < n.names.length ∧ n.names.getD i [] = b ∧ x = ⟨b, 0, n.kids.getD i default⟩ := by
  have h1 : b ∈ n.names := Classical.not_not.1 fun e => by rw [(base_none h hk).2 e] at hx; cases hx
  obtain ⟨i, hi, e⟩ := List.mem_iff_getElem.1 h1
  have h2 := base_look h hk hi
  rw [getD_get hi, e, hx] at h2
  exact ⟨i, hi, by rw [getD_get hi, e], by cases h2; rfl⟩
theorem place_base {n : Nd} (h : okN n) (hk : n.kind = 4) (b : Bs) : (placeM n b < 0 ↔ lookI (baseI n) b = none) ∧ (0 ≤ placeM n b → lookI (baseI n) b = some ⟨b, 0, n.kids.getD (placeM n b).toNat default⟩) := by
  have hb := base_facts h
  have he := base_nd h hk
  have h1 := place_ndOf_lt hb.1 b
  have h2 := fun hp => kid_ndOf (b := b) hb.1 hp
  rw [he] at h1 h2
  have h3 := lookI_found (b := b) hb.1
  constructor
  · rw [h1, h3]; cases foundI (baseI n) b <;> simp
  · intro hp
    have h4 := h2 hp
    cases h5 : lookI (baseI n) b with
    | none =>
      exfalso
      have : foundI (baseI n) b = false := by rw [h3] at h5; cases hf : foundI (baseI n) b with
        | false => rfl
        | true => rw [hf] at h5; simp at h5
      rw [← h1] at this; omega
    | some x =>
      obtain ⟨h6, h7⟩ := look_name h5
      have h8 := hb.2.1 x h7
      unfold kidOf at h4
      rw [h5] at h4
      simp only at h4
      rw [h4]
      cases x; simp only at h6 h8; subst h6; subst h8; rfl
/-- What is merged, name by name. -/
theorem look_mrg {p n : Nd} (hp : okN p) (hk : p.kind = 4) (hn : okN n) (b : Bs) : lookI (accM p n p.names.length) b = match lookI (baseI p) b with
    | none => lookI (baseI n) b
    | some it => if it.node.kind = 0 then none else some ⟨b, 0, mrgM it.node (kidOf (baseI n) b)⟩ := by
  have hl := (okN_names hp).2.1 hk
  cases h : lookI (baseI p) b with
  | none =>
    have h1 := (base_none hp hk).1 h
    exact (accM_facts hn (p := p) (i := p.names.length) (Nat.le_refl _) (by omega)).2.2.2 b fun j hj e => h1 (by rw [← e]; exact getD_mem hj)
  | some x =>
    obtain ⟨i, hi, e, rfl⟩ := base_some hp hk h
    subst e
    exact look_final hp hk hn hi hi (Nat.le_refl _)
def valP (a b : Nd) (nm : Bs) (x : Nd) : Option It := if placeM b nm < 0 then some ⟨nm, 0, zeroN⟩ else if cmpN x (b.kids.getD (placeM b nm).toNat default) = 0 then none else some ⟨nm, 0, patM x (b.kids.getD (placeM b nm).toNat default)⟩
theorem look_accA {a b : Nd} (ha : okN a) (hk : a.kind = 4) : ∀ {k : Nat}, k ≤ a.names.length → (∀ i, i < k → lookI (accA a b k) (a.names.getD i []) = valP a b (a.names.getD i []) (a.kids.getD i default)) ∧ ∀ nm, (∀ i, i < k → a.names.getD i [] ≠ nm) → lookI (accA a b k) nm = none
  | 0, _ => ⟨fun i h => by omega, fun nm _ => by rw [accA_zero]; rfl⟩
  | k + 1, h => by
    have hl := (okN_names ha).2.1 hk
    obtain ⟨i1, i2⟩ := look_accA (b := b) ha hk (k := k) (by omega)
    have hf := (accA_facts (a := a) (b := b) (i := k) (by omega) (by omega)).1
    have hin := fun {i} (hi : i < a.names.length) => asc_inj (names_asc ha hk) hi (show k < a.names.length by omega)
    have hk0 : lookI (accA a b k) (a.names.getD k []) = none := i2 _ fun i hi e => by have := hin (by omega) e; omega
    have hput : ∀ it : It, it.name = a.names.getD k [] → ∀ nm, lookI (putL (accA a b k) it) nm = if a.names.getD k [] = nm then some it else lookI (accA a b k) nm := fun it e nm => by rw [lookI_put _ _ _ hf, e]
    have main : ∀ nm, lookI (accA a b (k + 1)) nm = if a.names.getD k [] = nm then valP a b (a.names.getD k []) (a.kids.getD k default) else lookI (accA a b k) nm := by
      intro nm
      rw [accA_succ (by omega) (by omega)]
      unfold stepP valP
      split
      · rw [hput _ rfl]
      · split
        · by_cases e : a.names.getD k [] = nm
          · rw [if_pos e, ← e, hk0]
          · rw [if_neg e]
        · rw [hput _ rfl]
    constructor
    · intro i hi
      rw [main]
      by_cases e : i = k
      · subst e; rw [if_pos rfl]
      · rw [if_neg fun h => e (hin (by omega) h.symm), i1 i (by omega)]
    · intro nm hnm
      rw [main, if_neg (hnm k (by omega)), i2 nm fun i hi => hnm i (by omega)]
theorem look_accB {a b : Nd} (ha : okN a) (hk : a.kind = 4) (hb : okN b) (hk2 : b.kind = 4) : ∀ {j : Nat}, j ≤ b.names.length → (∀ i, i < j → placeM a (b.names.getD i []) < 0 → lookI (accB a b j) (b.names.getD i []) = some ⟨b.names.getD i [], 0, b.kids.getD i default⟩) ∧ ∀ nm, (0 ≤ placeM a nm ∨ ∀ i, i < j → b.names.getD i [] ≠ nm) → lookI (accB a b j) nm = lookI (accB a b 0) nm
  | 0, _ => ⟨fun i h => by omega, fun nm _ => rfl⟩
  | j + 1, h => by
    have hl := (okN_names ha).2.1 hk
    obtain ⟨i1, i2⟩ := look_accB ha hk hb hk2 (j := j) (by omega)
    have hf := (accB_facts (b := b) hl j).1
    have hin := fun {i} (hi : i < b.names.length) => asc_inj (names_asc hb hk2) hi (show j < b.names.length by omega)
    have main : ∀ nm, lookI (accB a b (j + 1)) nm = if placeM a (b.names.getD j []) < 0 ∧ b.names.getD j [] = nm then some ⟨b.names.getD j [], 0, b.kids.getD j default⟩ else lookI (accB a b j) nm := by
      intro nm
      rw [accB_succ]
      by_cases hp : placeM a (b.names.getD j []) < 0
      · rw [if_pos hp, lookI_put _ _ _ hf]
        by_cases e : b.names.getD j [] = nm
        · rw [if_pos e, if_pos ⟨hp, e⟩]
        · rw [if_neg e, if_neg fun h => e h.2]
      · rw [if_neg hp, if_neg fun h => hp h.1]
    constructor
    · intro i hi hp
      rw [main]
      by_cases e : i = j
      · subst e; rw [if_pos ⟨hp, rfl⟩]
      · rw [if_neg fun h => e (hin (by omega) h.2.symm), i1 i (by omega) hp]
    · intro nm hnm
      rw [main, if_neg ?_, i2 nm (hnm.imp id fun h i hi => h i (by omega))]
      rintro ⟨h1, h2⟩
      rcases hnm with h3 | h3
      · rw [h2] at h1; omega
      · exact h3 j (by omega) h2
/-- The patch, name by name. -/
theorem look_pat {a b : Nd} (ha : okN a) (hk : a.kind = 4) (hb : okN b) (hk2 : b.kind = 4) (nm : Bs) : lookI (accB a b b.names.length) nm = match lookI (baseI a) nm, lookI (baseI b) nm with
    | none, r => r
    | some _, none => some ⟨nm, 0, zeroN⟩
    | some x, some y => if cmpN x.node y.node = 0 then none else some ⟨nm, 0, patM x.node y.node⟩ := by
  have hla := (okN_names ha).2.1 hk
  have hlb := (okN_names hb).2.1 hk2
  have h1 := place_base ha hk nm
  have h2 := place_base hb hk2 nm
  have hA := look_accA (b := b) ha hk (Nat.le_refl a.names.length)
  have hB := look_accB ha hk hb hk2 (Nat.le_refl b.names.length)
  have h0 : accB a b 0 = accA a b a.names.length := rfl
  cases e1 : lookI (baseI a) nm with
  | none =>
    have hp := h1.1.2 e1
    have hna := (base_none ha hk).1 e1
    have hA2 := hA.2 nm fun i hi e => hna (by rw [← e]; exact getD_mem hi)
    cases e2 : lookI (baseI b) nm with
    | none =>
      have hnb := (base_none hb hk2).1 e2
      simp only
      rw [hB.2 nm (.inr fun i hi e => hnb (by rw [← e]; exact getD_mem hi)), h0, hA2]
    | some y =>
      obtain ⟨i, hi, e, rfl⟩ := base_some hb hk2 e2
      subst e
      exact hB.1 i hi hp
  | some x =>
    have hp : 0 ≤ placeM a nm := Int.not_lt.1 fun e => by rw [h1.1.1 e] at e1; cases e1
    obtain ⟨i, hi, e, rfl⟩ := base_some ha hk e1
    rw [hB.2 nm (.inl hp), h0, ← e, hA.1 i hi, e]
    unfold valP
    cases e2 : lookI (baseI b) nm with
    | none => rw [if_pos (h2.1.2 e2)]
    | some y =>
      have hpb : 0 ≤ placeM b nm := Int.not_lt.1 fun e => by rw [h2.1.1 e] at e2; cases e2
      have e3 := h2.2 hpb
      rw [e2] at e3
      cases e3
      rw [if_neg (by omega)]
theorem plain_look {b : Nd} (hb : okN b) (hk : b.kind = 4) (hp : plainM b = true) {nm : Bs} {y : It} (h : lookI (baseI b) nm = some y) : okN y.node ∧ y.node.kind ≠ 0 ∧ plainM y.node = true ∧ y = ⟨nm, 0, y.node⟩ ∧ SizeOf.sizeOf y.node < SizeOf.sizeOf b := by
  obtain ⟨i, hi, -, rfl⟩ := base_some hb hk h
  have hl := (okN_names hb).2.1 hk
  have h1 := (plain_get hk).1 hp i (by omega)
  unfold plainK at h1
  rw [Bool.and_eq_true, Bool.not_eq_true', decide_eq_false_iff_not] at h1
  exact ⟨okN_kid hb (by omega), h1.1, h1.2, rfl, kid_size (by omega)⟩
theorem kidOf_none {l : List It} {b : Bs} (h : lookI l b = none) : kidOf l b = zeroN := by unfold kidOf; rw [h]
theorem kidOf_some {l : List It} {b : Bs} {x : It} (h : lookI l b = some x) : kidOf l b = x.node := by unfold kidOf; rw [h]
theorem mrg_plain : ∀ (s : Nat) (b n : Nd), SizeOf.sizeOf b ≤ s → okN b → okN n → n.kind ≠ 4 → plainM b = true → mrgM b n = b := by
  intro s
  induction s with
  | zero => intro b n hs; cases b; simp at hs
  | succ s ih =>
    intro b n hs hb hn hk hp
    by_cases h4 : b.kind = 4
    · have hl := (okN_names hb).2.1 h4
      rw [mrgM_map hb h4]
      have hbase : baseI n = [] := by unfold baseI; rw [if_neg hk]
      have e : accM b n b.names.length = baseI b := by
        refine look_ext (accM_facts hn (p := b) (Nat.le_refl _) (by omega)).1 (base_facts hb).1 fun nm => ?_
        rw [look_mrg hb h4 hn]
        cases h : lookI (baseI b) nm with
        | none => rw [hbase]; rfl
        | some y =>
          obtain ⟨h1, h2, h3, h5, h6⟩ := plain_look hb h4 hp h
          simp only
          rw [if_neg h2, hbase, kidOf_none rfl, ih _ _ (by omega) h1 okN_zero (by decide) h3, ← h5]
      rw [e, base_nd hb h4]
    · exact mrgM_leaf h4
theorem pat_kind {a b : Nd} (h : b.kind ≠ 0) : (patM a b).kind ≠ 0 := by
  rw [patM_eq]
  split
  · intro e; cases e
  · exact h
theorem mrg_pat : ∀ (s : Nat) (a b : Nd), SizeOf.sizeOf b ≤ s → okN a → okN b → plainM b = true → okN (patM a b) → mrgM (patM a b) a = b := by
  intro s
  induction s with
  | zero => intro a b hs; cases b; simp at hs
  | succ s ih =>
    intro a b hs ha hb hp hq
    by_cases h : a.kind = 4 ∧ b.kind = 4
    · obtain ⟨h1, h2⟩ := h
      have hla := (okN_names ha).2.1 h1
      have hlb := (okN_names hb).2.1 h2
      have hf := accB_facts (b := b) hla b.names.length
      have e := patM_map (b := b) ha h1 h2
      have hbase : baseI (patM a b) = accB a b b.names.length := by rw [e]; exact base_ndOf hf.2.1
      have hk4 : (patM a b).kind = 4 := by rw [e]; rfl
      have hlq := (okN_names hq).2.1 hk4
      rw [mrgM_map hq hk4]
      have e2 : accM (patM a b) a (patM a b).names.length = baseI b := by
        refine look_ext (accM_facts ha (p := patM a b) (Nat.le_refl _) (by omega)).1 (base_facts hb).1 fun nm => ?_
        rw [look_mrg hq hk4 ha]
        have hlp := look_pat ha h1 hb h2 nm
        rw [← hbase] at hlp
        cases e3 : lookI (baseI a) nm with
        | none =>
          rw [e3] at hlp
          simp only at hlp
          cases e4 : lookI (baseI b) nm with
          | none => rw [hlp, e4]
          | some y =>
            obtain ⟨k1, k2, k3, k5, k6⟩ := plain_look hb h2 hp e4
            rw [hlp, e4]
            simp only
            rw [if_neg k2, kidOf_none e3, mrg_plain _ _ _ (Nat.le_refl _) k1 okN_zero (by decide) k3, ← k5]
        | some x =>
          obtain ⟨i, hi, -, hxe⟩ := base_some ha h1 e3
          have hox : okN x.node := by rw [hxe]; exact okN_kid ha (by omega)
          cases e4 : lookI (baseI b) nm with
          | none =>
            rw [e3, e4] at hlp
            simp only at hlp
            rw [hlp]
            rfl
          | some y =>
            obtain ⟨k1, k2, k3, k5, k6⟩ := plain_look hb h2 hp e4
            rw [e3, e4] at hlp
            simp only at hlp
            by_cases hxy0 : cmpN x.node y.node = 0
            · have hxy : x.node = y.node := cmpN_same hox k1 hxy0
              rw [if_pos hxy0] at hlp
              rw [hlp]
              simp only
              rw [k5, ← hxy, hxe]
            · rw [if_neg hxy0] at hlp
              have hoq : okN (patM x.node y.node) := by
                obtain ⟨j, hj, -, hje⟩ := base_some hq hk4 hlp
                have : patM x.node y.node = (patM a b).kids.getD j default := congrArg It.node hje
                rw [this]; exact okN_kid hq (by omega)
              rw [hlp]
              simp only
              rw [if_neg (pat_kind k2), kidOf_some e3, ih _ _ (by omega) hox k1 k3 hoq, ← k5]
      rw [e2, base_nd hb h2]
    · have e : patM a b = b := by rw [patM_eq, if_neg h]
      rw [e]
      by_cases h4 : b.kind = 4
      · exact mrg_plain _ _ _ (Nat.le_refl _) hb ha (fun h1 => h ⟨h1, h4⟩) hp
      · exact mrgM_leaf h4
def mergeForM (a b : Nd) : Option Nd := if validM a && (validM b && plainM b) then (if validM (patM a b) then some (patM a b) else none) else none
theorem mergeFor_some {a b p : Nd} (h : mergeForM a b = some p) : (validM a = true ∧ validM b = true ∧ plainM b = true) ∧ p = patM a b ∧ validM p = true := by
  unfold mergeForM at h
  split at h
  · rename_i h1
    rw [Bool.and_eq_true, Bool.and_eq_true] at h1
    split at h
    · rename_i h2; cases h; exact ⟨h1, rfl, h2⟩
    · cases h
  · cases h
theorem for_law {a b p : Nd} (h : mergeForM a b = some p) : mergeNodeM a p = some b := by
  obtain ⟨⟨h1, h2, h3⟩, rfl, h4⟩ := mergeFor_some h
  have e := mrg_pat _ a b (Nat.le_refl _) (validM_ok h1) (validM_ok h2) h3 (validM_ok h4)
  unfold mergeNodeM
  rw [h1, h4, e, h2]; rfl
theorem pat_same {b : Nd} (hb : okN b) (hk : b.kind = 4) : patM b b = ndOf [] := by
  have hl := (okN_names hb).2.1 hk
  rw [patM_map hb hk hk]
  congr 1
  refine look_ext (accB_facts (b := b) hl _).1 List.Pairwise.nil fun nm => ?_
  rw [look_pat hb hk hb hk]
  cases lookI (baseI b) nm with
  | none => rfl
  | some x => simp only [cmpN_refl, if_true]; rfl
theorem same_law {a b p : Nd} (h : mergeForM a b = some p) (hk : b.kind = 4) : mergeForM b b = some (ndOf []) := by
  obtain ⟨⟨h1, h2, h3⟩, -, -⟩ := mergeFor_some h
  unfold mergeForM
  rw [h2, h3, pat_same (validM_ok h2) hk]
  rfl
theorem names_law {a b p : Nd} (h : mergeForM a b = some p) (hk : a.kind = 4) (hk2 : b.kind = 4) {i : Nat} (hi : i < p.names.length) :
    ¬ ((nodeAtM a ((p.names.take (i + 1)).drop i)).isSome = true ∧ (nodeAtM b ((p.names.take (i + 1)).drop i)).isSome = true ∧ (nodeAtM a ((p.names.take (i + 1)).drop i)).getD default = (nodeAtM b ((p.names.take (i + 1)).drop i)).getD default) ∧
    ¬ ((nodeAtM a ((p.names.take (i + 1)).drop i)) = none ∧ (nodeAtM b ((p.names.take (i + 1)).drop i)) = none) := by
  obtain ⟨⟨h1, h2, h3⟩, e, h4⟩ := mergeFor_some h
  have oa := validM_ok h1
  have ob := validM_ok h2
  have op := validM_ok h4
  have hla := (okN_names oa).2.1 hk
  have e2 := patM_map (b := b) oa hk hk2
  rw [← e] at e2
  have hf := accB_facts (b := b) hla b.names.length
  have hbase : baseI p = accB a b b.names.length := by rw [e2]; exact base_ndOf hf.2.1
  have hk4 : p.kind = 4 := by rw [e2]; rfl
  have htx := okN_txt op hk4 hi
  have hlk := base_look op hk4 hi
  rw [hbase, look_pat oa hk ob hk2] at hlk
  have na := nodeAt_one (base_facts oa).1 (by rw [base_nd oa hk]; exact h1) htx
  have nb := nodeAt_one (base_facts ob).1 (by rw [base_nd ob hk2]; exact h2) htx
  rw [base_nd oa hk] at na
  rw [base_nd ob hk2] at nb
  rw [one_slice hi, na, nb]
  cases e3 : lookI (baseI a) (p.names.getD i []) with
  | none =>
    rw [e3] at hlk
    simp only at hlk
    rw [hlk]; simp
  | some x =>
    cases e4 : lookI (baseI b) (p.names.getD i []) with
    | none => simp
    | some y =>
      rw [e3, e4] at hlk
      simp only at hlk
      split at hlk
      · cases hlk
      · rename_i hne
        have hne2 : ¬ x.node = y.node := fun e => hne (by rw [e]; exact cmpN_refl _)
        simpa using hne2
end Go.Rs
end
section
/-! Plain models: the reference's steps towards the patch. -/
namespace Go.Rs
theorem nd_now {l : List It} {m : Nd} (hm : m = ndOf l) (hl : l.length ≤ 12) (hs : ∀ x ∈ l, smN x.node) : m.kind = 4 ∧ m.names.length = m.kids.length ∧ m.kids.length ≤ 12 ∧ smN m ∧ evenN m := by
  have h1 := ndOf_len l
  subst hm
  exact ⟨rfl, by omega, by omega, sm_ndOf (by omega) hs, fun _ => by omega⟩
theorem for_now1 {a b m : Nd} {i : Nat} (ha : okN a) (hb : okN b) (hk : a.kind = 4) (hk2 : b.kind = 4) (hi : i ≤ a.kids.length) (hm : m = ndOf (accA a b i)) :
    m.kind = 4 ∧ m.names.length = m.kids.length ∧ m.kids.length ≤ 12 ∧ smN m ∧ evenN m := by
  have hla := (okN_names ha).2.1 hk
  have h6 := (okN_names ha).1
  have hf := accA_facts (a := a) (b := b) (i := i) (by omega) hi
  exact nd_now hm (by omega) (((pat_sm _ a b (Nat.le_refl _) ha hb).2 hk hk2).1 i (by omega))
theorem for_now2 {a b m : Nd} {j : Nat} (ha : okN a) (hb : okN b) (hk : a.kind = 4) (hk2 : b.kind = 4) (hj : j ≤ b.kids.length) (hm : m = ndOf (accB a b j)) :
    m.kind = 4 ∧ m.names.length = m.kids.length ∧ m.kids.length ≤ 12 ∧ smN m ∧ evenN m := by
  have hla := (okN_names ha).2.1 hk
  have hlb := (okN_names hb).2.1 hk2
  have h6 := (okN_names ha).1
  have h7 := (okN_names hb).1
  have hf := accB_facts (b := b) hla j
  exact nd_now hm (by omega) (((pat_sm _ a b (Nat.le_refl _) ha hb).2 hk hk2).2 j (by omega))
theorem for_step1 {a b m x y : Nd} {i : Nat} {nm : Bs} (ha : okN a) (hb : okN b) (hk : a.kind = 4) (hi : i < a.kids.length) (hm : m = ndOf (accA a b i)) (hnm : a.names.getD i [] = nm) (hx : a.kids.getD i default = x) (hy : b.kids.getD (placeM b nm).toNat default = y) :
    (placeM b nm < 0 → addHereM m nm zeroN = some (ndOf (accA a b (i + 1)))) ∧
    (0 ≤ placeM b nm → okN y ∧ smN (patM x y)) ∧
    (0 ≤ placeM b nm → cmpN x y = 0 → m = ndOf (accA a b (i + 1))) ∧
    (0 ≤ placeM b nm → ¬ cmpN x y = 0 → addHereM m nm (patM x y) = some (ndOf (accA a b (i + 1)))) := by
  have hla := (okN_names ha).2.1 hk
  have hf := accA_facts (a := a) (b := b) (i := i) (by omega) (by omega)
  have hsu := accA_succ (b := b) (show i < a.names.length by omega) hi
  have hpl := placeM_ge b nm
  rw [hnm, hx] at hsu
  unfold stepP at hsu
  rw [hy] at hsu
  refine ⟨fun h => ?_, fun h => ?_, fun h h2 => ?_, fun h h2 => ?_⟩
  · rw [hm, add_ndOf hf.1 hf.2.1, hsu, if_pos h]
  · have hoy : okN y := by rw [← hy]; exact okN_kid hb (by omega)
    exact ⟨hoy, (pat_sm _ x y (Nat.le_refl _) (by rw [← hx]; exact okN_kid ha hi) hoy).1⟩
  · rw [hm, hsu, if_neg (by omega), if_pos h2]
  · rw [hm, add_ndOf hf.1 hf.2.1, hsu, if_neg (by omega), if_neg h2]
theorem for_step2 {a b m : Nd} {j : Nat} (ha : okN a) (hk : a.kind = 4) (hm : m = ndOf (accB a b j)) :
    (placeM a (b.names.getD j []) < 0 → addHereM m (b.names.getD j []) (b.kids.getD j default) = some (ndOf (accB a b (j + 1)))) ∧
    (0 ≤ placeM a (b.names.getD j []) → m = ndOf (accB a b (j + 1))) := by
  have hla := (okN_names ha).2.1 hk
  have hf := accB_facts (b := b) hla j
  refine ⟨fun h => ?_, fun h => ?_⟩
  · rw [hm, add_ndOf hf.1 hf.2.1, accB_succ, if_pos h]
  · rw [hm, accB_succ, if_neg (by omega)]
end Go.Rs
end
