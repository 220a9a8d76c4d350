import Derived.Test.YtgmilpefnaadmaaDoorME
set_option linter.all false
section
/-! Plain models: what a function makes of the node at a pointer. -/
namespace Go.Rs
def chgM (f : Nd → Option Nd) : Nd → List Bs → Option Nd
  | n, [] => f n
  | n, s :: p => if placeM n s < 0 then none else (chgM f (n.kids.getD (placeM n s).toNat default) p).map (withKidM n (placeM n s).toNat)
theorem chgM_eq (f : Nd → Option Nd) : ∀ (p : List Bs) (n : Nd), chgM f n p = match findM n p with
    | none => none
    | some m => match f m with
      | none => none
      | some x => setAtM n p x
  | [], n => by
    rw [chgM, findM]
    simp only
    cases f n <;> rfl
  | s :: p, n => by
    rw [chgM, findM]
    by_cases h : placeM n s < 0
    · rw [if_pos h, if_pos h]
    · rw [if_neg h, if_neg h, chgM_eq f p]
      cases h1 : findM (n.kids.getD (placeM n s).toNat default) p with
      | none => rfl
      | some m =>
        simp only
        cases h2 : f m with
        | none => rfl
        | some x => simp only [setAtM, if_neg h]
theorem chgM_at {f : Nd → Option Nd} {n : Nd} {p : List Bs} (h : 0 < p.length) : chgM f n p = if placeM n (p.getD 0 []) < 0 then none else (chgM f (n.kids.getD (placeM n (p.getD 0 [])).toNat default) (p.drop 1)).map (withKidM n (placeM n (p.getD 0 [])).toNat) := by
  cases p with
  | nil => simp at h
  | cons s p => rfl
theorem chgM_sm {f : Nd → Option Nd} (hf : ∀ m x, okN m → f m = some x → smN x) : ∀ {p : List Bs} {n m : Nd}, okN n → chgM f n p = some m → smN m
  | [], n, m, hn, h => hf n m hn h
  | s :: p, n, m, hn, h => by
    rw [chgM] at h
    split at h
    · cases h
    · have hp := (placeM_ge n s).2.1
      cases h1 : chgM f (n.kids.getD (placeM n s).toNat default) p with
      | none => rw [h1] at h; cases h
      | some k => rw [h1] at h; cases h; exact withKidM_sm hn.sm (chgM_sm hf (okN_kid hn (by omega)) h1)
theorem add_chg {n v : Nd} {p : List Bs} (h : p ≠ []) : addAtM n p v = chgM (fun m => addHereM m (lastD p) v) n (p.take (p.length - 1)) := by
  unfold addAtM
  rw [if_neg h, chgM_eq]
  cases findM n (p.take (p.length - 1)) with
  | none => rfl
  | some m => simp only; cases addHereM m (lastD p) v <;> rfl
def dropHereM (s : Bs) (m : Nd) : Option Nd := if placeM m s < 0 then none else some (withoutM m (placeM m s).toNat)
theorem remove_chg {n : Nd} {p : List Bs} (h : p ≠ []) : removeAtM n p = chgM (dropHereM (lastD p)) n (p.take (p.length - 1)) := by
  unfold removeAtM
  rw [if_neg h, chgM_eq]
  unfold dropHereM
  cases h1 : findM n (p.take (p.length - 1)) with
  | none => rfl
  | some m =>
    simp only
    by_cases h2 : placeM m (lastD p) < 0
    · rw [if_pos h2, if_pos h2]
    · rw [if_neg h2, if_neg h2]
theorem checked_if (r : Option Nd) : checkedM r = if r.isSome && validM (r.getD default) then some (r.getD default) else none := by
  cases r with
  | none => rfl
  | some m => cases h : validM m <;> simp [checkedM, h]
/-- Adding at a step: by kinds. -/
theorem add_map {n : Nd} (hn : okN n) (hk : n.kind = 4) (b : Bs) (x : Nd) : addHereM n b x = some (ndOf (putL (baseI n) ⟨b, 0, x⟩)) := by
  have hb := base_facts hn
  have := add_ndOf hb.1 hb.2.1 b x
  rwa [base_nd hn hk] at this
theorem add_list {n : Nd} (hk : n.kind = 3) (b : Bs) (x : Nd) : addHereM n b x = if 0 ≤ placeM n b then some ⟨3, 0, [], [], insM n.kids (placeM n b).toNat x⟩ else if b = [45] ∨ b = decM n.kids.length then some ⟨3, 0, [], [], insM n.kids n.kids.length x⟩ else none := by
  unfold addHereM slotM
  by_cases h : 0 ≤ placeM n b
  · simp only [if_pos h, hk]
    rw [if_neg (by omega)]
    simp
  · simp only [if_neg h, hk]
    by_cases h2 : b = [45] ∨ b = decM n.kids.length
    · simp only [h2, true_and, if_true]
      rw [if_neg (by omega)]
      simp
    · simp [h2]
theorem add_leaf {n : Nd} (h3 : n.kind ≠ 3) (h4 : n.kind ≠ 4) (b : Bs) (x : Nd) : addHereM n b x = none := by
  have h1 : placeM n b < 0 := by
    have := placeM_ge n b
    refine Int.not_le.1 fun h => ?_
    have := hitM_iff.1 (this.2.2 h)
    omega
  have e : slotM n b = (-1, false) := by
    unfold slotM
    rw [if_neg (by omega), if_neg fun h => h3 h.1, if_neg h4]
  unfold addHereM
  rw [e]; rfl
end Go.Rs
end
section
/-! Plain laws: nodes with another node at a pointer, nodes without one. -/
namespace Go.Rs
theorem place_with (n x : Nd) (i : Nat) (s : Bs) : placeM (withKidM n i x) s = placeM n s := by
  have e : hitM (withKidM n i x) s = hitM n s := by funext j; rfl
  unfold placeM
  rw [e]
  simp [withKidM]
theorem with_get {n x : Nd} {i : Nat} (h : i < n.kids.length) : (withKidM n i x).kids.getD i default = x := by
  simp [withKidM, List.getD_eq_getElem?_getD, h]
theorem with_with (n x y : Nd) (i : Nat) : withKidM (withKidM n i x) i y = withKidM n i y := by
  simp [withKidM, List.set_set]
theorem with_self {n : Nd} {i : Nat} (h : i < n.kids.length) : withKidM n i (n.kids.getD i default) = n := by
  have : n.kids.set i (n.kids.getD i default) = n.kids := by
    refine listEq default (by simp) fun j hj => ?_
    simp only [List.length_set] at hj
    simp only [List.getD_eq_getElem?_getD, List.getElem?_set]
    by_cases e : i = j
    · subst e; simp [hj]
    · simp [e]
  unfold withKidM
  rw [this]
  exact nd_eta n
theorem set_cons {n m y : Nd} {s : Bs} {p : List Bs} (h : setAtM n (s :: p) y = some m) : 0 ≤ placeM n s ∧ (placeM n s).toNat < n.kids.length ∧ ∃ k, setAtM (n.kids.getD (placeM n s).toNat default) p y = some k ∧ m = withKidM n (placeM n s).toNat k := by
  rw [setAtM] at h
  split at h
  · cases h
  · rename_i hp
    have hl := (placeM_ge n s).2.1
    cases hk : setAtM (n.kids.getD (placeM n s).toNat default) p y with
    | none => rw [hk] at h; cases h
    | some k => rw [hk] at h; cases h; exact ⟨by omega, by omega, k, rfl, rfl⟩
theorem set_find : ∀ {p q : List Bs} {n m y : Nd}, setAtM n p y = some m → findM m (p ++ q) = findM y q
  | [], q, n, m, y, h => by cases h; rfl
  | s :: p, q, n, m, y, h => by
    obtain ⟨hp, hl, k, hk, rfl⟩ := set_cons h
    rw [List.cons_append, findM, place_with, if_neg (by omega), with_get hl]
    exact set_find hk
theorem set_set : ∀ {p : List Bs} {n m y z : Nd}, setAtM n p y = some m → setAtM m p z = setAtM n p z
  | [], n, m, y, z, h => rfl
  | s :: p, n, m, y, z, h => by
    obtain ⟨hp, hl, k, hk, rfl⟩ := set_cons h
    rw [setAtM, setAtM, place_with, if_neg (by omega), if_neg (by omega), with_get hl, set_set hk]
    cases setAtM (n.kids.getD (placeM n s).toNat default) p z with
    | none => rfl
    | some w => simp only [Option.map_some, with_with]
theorem find_cons {n x : Nd} {s : Bs} {p : List Bs} (h : findM n (s :: p) = some x) : 0 ≤ placeM n s ∧ (placeM n s).toNat < n.kids.length ∧ findM (n.kids.getD (placeM n s).toNat default) p = some x := by
  rw [findM] at h
  split at h
  · cases h
  · have hl := (placeM_ge n s).2.1
    exact ⟨by omega, by omega, h⟩
theorem set_self : ∀ {p : List Bs} {n x : Nd}, findM n p = some x → setAtM n p x = some n
  | [], n, x, h => by cases h; rfl
  | s :: p, n, x, h => by
    obtain ⟨hp, hl, h⟩ := find_cons h
    rw [setAtM, if_neg (by omega), set_self h, Option.map_some, with_self hl]
theorem sumN_app (f : Nd → Nat) (l m : List Nd) : sumN f (l ++ m) = sumN f l + sumN f m := by simp [sumN]
theorem sumN_one (f : Nd → Nat) (x : Nd) : sumN f [x] = f x := by simp [sumN]
theorem sumN_cut (f : Nd → Nat) {l : List Nd} {i : Nat} (h : i < l.length) : sumN f l = sumN f (l.take i) + f (l.getD i default) + sumN f (l.drop (i + 1)) := by
  have e : l = l.take i ++ [l.getD i default] ++ l.drop (i + 1) := by
    rw [take_snoc default h, List.take_append_drop]
  conv => lhs; rw [e]
  rw [sumN_app, sumN_app, sumN_one]
theorem count_with {n x : Nd} {i : Nat} (h : i < n.kids.length) : countM (withKidM n i x) + countM (n.kids.getD i default) = countM n + countM x := by
  rw [countM_eq, countM_eq n, sumN_cut countM h]
  have h2 : i < (n.kids.set i x).length := by simpa using h
  have e := sumN_cut countM h2
  have e1 : (n.kids.set i x).take i = n.kids.take i := by
    refine List.ext_getElem? fun j => ?_
    simp only [List.getElem?_take, List.getElem?_set]
    by_cases hj : j < i
    · simp only [if_pos hj]; rw [if_neg (by omega)]
    · simp only [if_neg hj]
  have e2 : (n.kids.set i x).drop (i + 1) = n.kids.drop (i + 1) := by simp [List.drop_set]
  have e3 : (n.kids.set i x).getD i default = x := by simp [List.getD_eq_getElem?_getD, h]
  rw [e1, e2, e3] at e
  show 1 + sumN countM (n.kids.set i x) + _ = _
  omega
theorem set_count : ∀ {p : List Bs} {n m x y : Nd}, findM n p = some x → setAtM n p y = some m → countM m + countM x = countM n + countM y
  | [], n, m, x, y, h, h2 => by cases h; cases h2; omega
  | s :: p, n, m, x, y, h, h2 => by
    obtain ⟨hp, hl, h⟩ := find_cons h
    obtain ⟨-, -, k, hk, rfl⟩ := set_cons h2
    have h3 := set_count h hk
    have h4 := count_with (x := k) hl
    omega
theorem find_app : ∀ (p q : List Bs) (n : Nd), findM n (p ++ q) = (findM n p).bind fun x => findM x q
  | [], q, n => rfl
  | s :: p, q, n => by
    rw [List.cons_append, findM, findM]
    split
    · rfl
    · exact find_app p q _
theorem last_split {p : List Bs} (h : p ≠ []) : p.take (p.length - 1) ++ [lastD p] = p := by
  have h0 := List.length_pos_iff.2 h
  unfold lastD
  rw [take_snoc [] (by omega), show p.length - 1 + 1 = p.length by omega, List.take_length]
theorem find_split {p : List Bs} (h : p ≠ []) (n : Nd) : findM n p = (findM n (p.take (p.length - 1))).bind fun x => findM x [lastD p] := by
  conv => lhs; rw [← last_split h]
  exact find_app _ _ _
-- lists
theorem decM_small {i j : Nat} (hi : i < 10) (hj : j < 10) (h : decM i = decM j) : i = j := by
  rw [decM_lt hi, decM_lt hj] at h
  simp only [List.cons.injEq, and_true] at h
  have := congrArg UInt8.toNat h
  rw [UInt8.toNat_ofNat', UInt8.toNat_ofNat'] at this
  omega
theorem decM_dash {i : Nat} (hi : i < 10) : decM i ≠ [45] := by
  rw [decM_lt hi]
  intro h
  simp only [List.cons.injEq, and_true] at h
  have := congrArg UInt8.toNat h
  rw [UInt8.toNat_ofNat'] at this
  have e : (45 : UInt8).toNat = 45 := rfl
  omega
theorem place_list {n : Nd} (hk : n.kind = 3) (hl : n.kids.length ≤ 9) {i : Nat} (hi : i < n.kids.length) : placeM n (decM i) = i := by
  refine placeM_at hi (hitM_iff.2 (.inr ⟨hk, rfl⟩)) fun j hj => hitM_no ⟨fun h => by omega, fun _ e => ?_⟩
  have := decM_small (by omega) (by omega) e
  omega
theorem place_out {n : Nd} (hk : n.kind = 3) {b : Bs} (h : ∀ j, j < n.kids.length → decM j ≠ b) : placeM n b = -1 :=
  placeM_none fun j hj => hitM_no ⟨fun h => by omega, fun _ => h j hj⟩
theorem place_hit {n : Nd} (hk : n.kind = 3) {b : Bs} (h : 0 ≤ placeM n b) : decM (placeM n b).toNat = b := by
  rcases hitM_iff.1 ((placeM_ge n b).2.2 h) with h | h
  · omega
  · exact h.2
theorem pins_get (ks : List Nd) {i : Nat} (v : Nd) (hi : i ≤ ks.length) : (insM ks i v).getD i default = v := by
  have : (ks.take i).length = i := by simp; omega
  unfold insM
  rw [List.append_assoc, List.getD_eq_getElem?_getD, List.getElem?_append_right (by omega), this]
  simp
theorem pout_ins {α : Type} (ks : List α) {i : Nat} (v : α) (hi : i ≤ ks.length) : outM (insM ks i v) i = ks := by
  have hl : (ks.take i).length = i := by simp; omega
  unfold outM insM
  have e1 : (ks.take i ++ [v] ++ ks.drop i).take i = ks.take i := by
    rw [List.append_assoc, List.take_append_of_le_length (by omega), List.take_of_length_le (by omega)]
  have e2 : (ks.take i ++ [v] ++ ks.drop i).drop (i + 1) = ks.drop i := by
    rw [List.drop_append_of_le_length (by simp; omega), List.drop_of_length_le (by simp; omega), List.nil_append]
  rw [e1, e2, List.take_append_drop]
theorem pins_out {ks : List Nd} {i : Nat} (hi : i < ks.length) : insM (outM ks i) i (ks.getD i default) = ks := by
  have hl : (ks.take i).length = i := by simp; omega
  unfold outM insM
  have e1 : (ks.take i ++ ks.drop (i + 1)).take i = ks.take i := by
    rw [List.take_append_of_le_length (by omega), List.take_of_length_le (by omega)]
  have e2 : (ks.take i ++ ks.drop (i + 1)).drop i = ks.drop (i + 1) := by
    rw [List.drop_append_of_le_length (by omega), List.drop_of_length_le (by omega), List.nil_append]
  rw [e1, e2, take_snoc default hi, List.take_append_drop]
theorem psum_ins (f : Nd → Nat) (ks : List Nd) (i : Nat) (v : Nd) : sumN f (insM ks i v) = sumN f ks + f v := by
  unfold insM
  rw [sumN_app, sumN_app, sumN_one]
  have := sumN_app f (ks.take i) (ks.drop i)
  rw [List.take_append_drop] at this
  omega
theorem pins_find {ks : List Nd} {i : Nat} {v : Nd} (hi : i ≤ ks.length) (hl : ks.length ≤ 8) : placeM ⟨3, 0, [], [], insM ks i v⟩ (decM i) = i ∧ findM ⟨3, 0, [], [], insM ks i v⟩ [decM i] = some v := by
  have h1 : placeM ⟨3, 0, [], [], insM ks i v⟩ (decM i) = i := place_list rfl (by simp only [insM_len]; omega) (by simp only [insM_len]; omega)
  refine ⟨h1, ?_⟩
  rw [findM, h1, if_neg (by omega), Int.toNat_natCast, findM]
  exact congrArg some (pins_get ks v hi)
theorem list_nd {x : Nd} (hx : okN x) (hk : x.kind = 3) : x = ⟨3, 0, [], [], x.kids⟩ := by
  have h1 := okN_bare hx
  exact nd_same hk (h1.1 (by omega)) (h1.2 (by omega)) ((okN_names hx).2.2 (by omega)) rfl
/-- One level: what is added is there. -/
theorem add_cases {x y v : Nd} {b : Bs} (hx : okN x) (h : addHereM x b v = some y) : (x.kind = 4 ∧ y = ndOf (putL (baseI x) ⟨b, 0, v⟩)) ∨
    (x.kind = 3 ∧ ∃ i, i ≤ x.kids.length ∧ y = ⟨3, 0, [], [], insM x.kids i v⟩ ∧ ((placeM x b = i ∧ b = decM i ∧ i < x.kids.length) ∨ (placeM x b < 0 ∧ i = x.kids.length ∧ (b = [45] ∨ b = decM i)))) := by
  by_cases h4 : x.kind = 4
  · rw [add_map hx h4] at h
    cases h
    exact .inl ⟨h4, rfl⟩
  · by_cases h3 : x.kind = 3
    · rw [add_list h3] at h
      right
      refine ⟨h3, ?_⟩
      split at h
      · rename_i hp
        cases h
        have hl := (placeM_ge x b).2.1
        exact ⟨_, by omega, rfl, .inl ⟨by omega, (place_hit h3 hp).symm, by omega⟩⟩
      · split at h
        · rename_i hp h2
          cases h
          exact ⟨_, Nat.le_refl _, rfl, .inr ⟨by omega, rfl, h2⟩⟩
        · cases h
    · rw [add_leaf h3 h4] at h; cases h
theorem add_there {x y v : Nd} {b : Bs} (hx : okN x) (hb : b ≠ [45]) (h : addHereM x b v = some y) : findM y [b] = some v := by
  have hl := okN_kids hx
  rcases add_cases hx h with ⟨h4, rfl⟩ | ⟨h3, i, hi, rfl, h5⟩
  · have hf := base_facts hx
    rw [find_ndOf (put_asc hf.1), lookI_put _ _ _ hf.1]
    simp
  · have e : b = decM i := by
      rcases h5 with h5 | h5
      · exact h5.2.1
      · exact h5.2.2.resolve_left hb
    rw [e]
    exact (pins_find hi (by omega)).2
theorem find_one {x : Nd} {b : Bs} : findM x [b] = none ↔ placeM x b < 0 := by
  rw [findM]
  split
  · rename_i h; simp [h]
  · rename_i h; simp [findM]; omega
theorem count_ndOf (l : List It) : countM (ndOf l) = 1 + sumN countM (l.map (·.node)) := by rw [countM_eq]; rfl
theorem map_none {x : Nd} (hx : okN x) (hk : x.kind = 4) {b : Bs} (h : placeM x b < 0) : foundI (baseI x) b = false := by
  have := place_ndOf_lt (base_facts hx).1 b
  rw [base_nd hx hk] at this
  exact this.1 h
theorem add_count {x y v : Nd} {b : Bs} (hx : okN x) (h : addHereM x b v = some y) (hn : placeM x b < 0) : countM y = countM x + countM v := by
  rcases add_cases hx h with ⟨h4, rfl⟩ | ⟨h3, i, hi, rfl, h5⟩
  · have hf := map_none hx h4 hn
    rw [putL_new (base_facts hx).1 hf, count_ndOf]
    conv => rhs; rw [← base_nd hx h4, count_ndOf]
    have := sumN_app countM ((baseI x).map (·.node) |>.take (lbI (baseI x) b)) ((baseI x).map (·.node) |>.drop (lbI (baseI x) b))
    rw [List.take_append_drop] at this
    rw [List.map_append, List.map_cons, sumN_app, List.map_take, List.map_drop]
    have e2 : ∀ r : List Nd, sumN countM (v :: r) = countM v + sumN countM r := fun r => by simp [sumN]
    rw [e2]
    dsimp only
    omega
  · rw [countM_eq, countM_eq x, psum_ins]
    omega
theorem add_back {x y v : Nd} {b : Bs} (hx : okN x) (h : addHereM x b v = some y) (hn : placeM x b < 0) (hb : b ≠ [45]) : 0 ≤ placeM y b ∧ withoutM y (placeM y b).toNat = x := by
  have hl := okN_kids hx
  rcases add_cases hx h with ⟨h4, rfl⟩ | ⟨h3, i, hi, rfl, h5⟩
  · have hf := base_facts hx
    have hno := map_none hx h4 hn
    have ha : ascI (putL (baseI x) ⟨b, 0, v⟩) := put_asc hf.1
    have hv : ∀ z ∈ putL (baseI x) ⟨b, 0, v⟩, z.version = 0 := put_v0 hf.1 hf.2.1 rfl
    have hp : 0 ≤ placeM (ndOf (putL (baseI x) ⟨b, 0, v⟩)) b := by
      refine Int.not_lt.1 fun e => ?_
      have h1 := (place_ndOf_lt ha b).1 e
      have h2 := lookI_found (b := b) ha
      rw [h1, lookI_put _ _ _ hf.1] at h2
      simp at h2
    refine ⟨hp, ?_⟩
    rw [without_ndOf ha hv hp]
    have e : dropL (putL (baseI x) ⟨b, 0, v⟩) b = baseI x := by
      refine look_ext (ascI_drop ha) hf.1 fun c => ?_
      rw [lookI_drop, lookI_put _ _ _ hf.1]
      by_cases e : b = c
      · subst e
        rw [if_pos rfl, lookI_found hf.1, hno]; rfl
      · rw [if_neg e, if_neg e]
    rw [e, base_nd hx h4]
  · have e : b = decM i := by
      rcases h5 with h5 | h5
      · exact h5.2.1
      · exact h5.2.2.resolve_left hb
    have h6 := (pins_find (v := v) hi (by omega)).1
    rw [e, h6]
    refine ⟨by omega, ?_⟩
    rw [Int.toNat_natCast]
    unfold withoutM
    simp only
    rw [pout_ins _ _ hi, if_neg (by omega)]
    exact (list_nd hx h3).symm
/-- One level: what is taken away can be put back. -/
theorem rem_kind {x : Nd} {b : Bs} (hp : 0 ≤ placeM x b) : x.kind = 3 ∨ x.kind = 4 := by
  rcases hitM_iff.1 ((placeM_ge x b).2.2 hp) with h | h
  · exact .inr h.1
  · exact .inl h.1
theorem rem_map {x : Nd} (hx : okN x) (hk : x.kind = 4) {b : Bs} (hp : 0 ≤ placeM x b) : withoutM x (placeM x b).toNat = ndOf (dropL (baseI x) b) := by
  have hf := base_facts hx
  have := without_ndOf hf.1 hf.2.1 (b := b) (by rw [base_nd hx hk]; exact hp)
  rwa [base_nd hx hk] at this
theorem drop_v0' {l : List It} {b : Bs} (h : ∀ x ∈ l, x.version = 0) : ∀ x ∈ dropL l b, x.version = 0 := fun x hx => h x (List.mem_filter.1 hx).1
theorem rem_back {x : Nd} {b : Bs} (hx : okN x) (hp : 0 ≤ placeM x b) : addHereM (withoutM x (placeM x b).toNat) b (x.kids.getD (placeM x b).toNat default) = some x := by
  have hl := okN_kids hx
  have hlt := (placeM_ge x b).2.1
  rcases rem_kind hp with h3 | h4
  · have eb := place_hit h3 hp
    have e : withoutM x (placeM x b).toNat = ⟨3, 0, [], [], outM x.kids (placeM x b).toNat⟩ := by
      unfold withoutM; rw [h3]; rfl
    rw [e, add_list rfl]
    have hol : (outM x.kids (placeM x b).toNat).length = x.kids.length - 1 := by
      unfold outM; simp; omega
    by_cases hi : (placeM x b).toNat < x.kids.length - 1
    · have h5 : placeM ⟨3, 0, [], [], outM x.kids (placeM x b).toNat⟩ b = ((placeM x b).toNat : Nat) := by
        have := place_list (n := ⟨3, 0, [], [], outM x.kids (placeM x b).toNat⟩) rfl (by rw [hol]; omega) (i := (placeM x b).toNat) (by rw [hol]; exact hi)
        rwa [eb] at this
      rw [h5, if_pos (by omega), Int.toNat_natCast, pins_out (by omega)]
      exact congrArg some (list_nd hx h3).symm
    · have h5 : placeM ⟨3, 0, [], [], outM x.kids (placeM x b).toNat⟩ b = -1 := by
        refine place_out rfl fun j hj e => ?_
        rw [hol] at hj
        rw [← eb] at e
        have := decM_small (by omega) (by omega) e
        omega
      have h6 : (outM x.kids (placeM x b).toNat).length = (placeM x b).toNat := by omega
      rw [h5, if_neg (by omega), if_pos (.inr (by rw [h6]; exact eb.symm)), h6, pins_out (by omega)]
      exact congrArg some (list_nd hx h3).symm
  · have hf := base_facts hx
    have hn : x.kids.getD (placeM x b).toNat default = kidOf (baseI x) b := by
      have := kid_ndOf hf.1 (b := b) (by rw [base_nd hx h4]; exact hp)
      rwa [base_nd hx h4] at this
    rw [rem_map hx h4 hp, add_ndOf (ascI_drop hf.1) (drop_v0' hf.2.1)]
    have e : putL (dropL (baseI x) b) ⟨b, 0, x.kids.getD (placeM x b).toNat default⟩ = baseI x := by
      refine look_ext (put_asc (ascI_drop hf.1)) hf.1 fun c => ?_
      rw [lookI_put _ _ _ (ascI_drop hf.1), lookI_drop]
      by_cases e : b = c
      · subst e
        rw [if_pos rfl]
        exact ((place_base hx h4 b).2 hp).symm
      · rw [if_neg e, if_neg e]
    rw [e, base_nd hx h4]
theorem without_okN {x : Nd} {b : Bs} (hx : okN x) (hp : 0 ≤ placeM x b) : placeM (withoutM x (placeM x b).toNat) b < 0 ∨ x.kind = 3 := by
  rcases rem_kind hp with h3 | h4
  · exact .inr h3
  · left
    have hf := base_facts hx
    rw [rem_map hx h4 hp, place_ndOf_lt (ascI_drop hf.1)]
    have h2 := lookI_found (b := b) (ascI_drop (b := b) hf.1)
    rw [lookI_drop, if_pos rfl] at h2
    cases h3 : foundI (dropL (baseI x) b) b with
    | false => rfl
    | true => rw [h3] at h2; simp at h2
theorem rem_count {x : Nd} {b : Bs} (hx : okN x) (hp : 0 ≤ placeM x b) : countM x = countM (withoutM x (placeM x b).toNat) + countM (x.kids.getD (placeM x b).toNat default) := by
  have hlt := (placeM_ge x b).2.1
  have e : countM (withoutM x (placeM x b).toNat) = 1 + sumN countM (outM x.kids (placeM x b).toNat) := by rw [countM_eq]; rfl
  rw [e, countM_eq x, sumN_cut countM (show (placeM x b).toNat < x.kids.length by omega)]
  unfold outM
  rw [sumN_app]
  omega
-- valid nodes
theorem names_of_asc {l : List Bs} (h : l.Pairwise fun a b => ltS a b = true) (ht : ∀ b ∈ l, txtM b = true) : namesM l = true := by
  rw [namesM_iff]
  intro j hj
  have h1 : txtM (l.getD j []) = true := ht _ (by rw [getD_get hj]; exact List.getElem_mem hj)
  unfold nameOk
  rw [h1, Bool.true_and, Bool.or_eq_true, decide_eq_true_eq]
  by_cases h0 : j = 0
  · exact .inl h0
  · right
    rw [getD_get hj, getD_get (show j - 1 < l.length by omega)]
    exact List.pairwise_iff_getElem.1 h (j - 1) j (by omega) hj (by omega)
theorem without_shape {x : Nd} {b : Bs} {d : Nat} (hd : d ≤ 5) (h : shapeM d x = true) (hp : 0 ≤ placeM x b) : shapeM d (withoutM x (placeM x b).toNat) = true := by
  have hx : okN x := ⟨d, hd, h⟩
  obtain ⟨h1, e, rfl⟩ := shape_parts h
  have hl := okN_kids hx
  have hkids : (withoutM x (placeM x b).toNat).kids.all (shapeM e) = true := by
    rw [List.all_eq_true]
    intro y hy
    have hy : y ∈ x.kids := by
      simp only [withoutM, outM, List.mem_append] at hy
      exact hy.elim List.mem_of_mem_take List.mem_of_mem_drop
    exact shape_kid h hy
  have hparts : partsM (withoutM x (placeM x b).toNat) = true := by
    rcases rem_kind hp with h3 | h4
    · have hlen : (withoutM x (placeM x b).toNat).kids.length ≤ 6 := by
        simp only [withoutM, outM, List.length_append, List.length_take, List.length_drop]; omega
      unfold partsM
      have e1 : (withoutM x (placeM x b).toNat).kind = 3 := h3
      have e2 : (withoutM x (placeM x b).toNat).names = [] := by simp [withoutM, h3]
      rw [if_neg (by rw [e1, e2]; simp [withoutM])]
      simp [e1, hlen]
    · have hf := base_facts hx
      rw [rem_map hx h4 hp]
      have hlen : (dropL (baseI x) b).length ≤ 6 := Nat.le_trans (dropL_len _ _) hf.2.2.1
      have hnm : areNamesM ((dropL (baseI x) b).map (·.name)) = true := by
        unfold areNamesM
        rw [names_of_asc (by
          have := ascI_drop (b := b) hf.1
          unfold ascI at this
          rw [List.pairwise_map]
          exact this) (by
          intro c hc
          simp only [List.mem_map] at hc
          obtain ⟨z, hz, rfl⟩ := hc
          have hz : z.name ∈ x.names := by rw [← (hf.2.2.2 h4).1]; exact List.mem_map_of_mem (List.mem_filter.1 hz).1
          obtain ⟨i, hi, hi2⟩ := List.mem_iff_getElem.1 hz
          have := okN_txt hx h4 hi
          rwa [getD_get hi, hi2] at this)]
        simp [hlen]
      unfold partsM
      rw [if_neg (by simp [ndOf])]
      simp [ndOf, hnm]
  show (partsM _ && _) = true
  rw [hparts, hkids]; rfl
theorem parts_with (n x : Nd) (i : Nat) : partsM (withKidM n i x) = partsM n := by
  simp [partsM, withKidM]
theorem set_shape : ∀ {p : List Bs} {n m x y : Nd} {d : Nat}, shapeM d n = true → findM n p = some x → (∀ e, e ≤ d → shapeM e x = true → shapeM e y = true) → setAtM n p y = some m → shapeM d m = true
  | [], n, m, x, y, d, h, hf, hy, hs => by cases hf; cases hs; exact hy d (Nat.le_refl _) h
  | s :: p, n, m, x, y, d, h, hf, hy, hs => by
    obtain ⟨hp, hl, hf⟩ := find_cons hf
    obtain ⟨-, -, k, hk, rfl⟩ := set_cons hs
    obtain ⟨h1, e, rfl⟩ := shape_parts h
    have hkid : shapeM e (n.kids.getD (placeM n s).toNat default) = true := shape_kid h (getD_mem hl)
    have h2 := set_shape hkid hf (fun e' he => hy e' (by omega)) hk
    show (partsM _ && _) = true
    rw [parts_with, h1, Bool.true_and, List.all_eq_true]
    intro z hz
    rcases List.mem_or_eq_of_mem_set hz with h3 | rfl
    · exact shape_kid h h3
    · exact h2
-- the laws
theorem pathM_front {p : List Bs} (h : pathM p = true) : pathM p = true := h
theorem remove_some {n m : Nd} {p : List Bs} (h : removeAtM n p = some m) : p ≠ [] ∧ ∃ x, findM n (p.take (p.length - 1)) = some x ∧ 0 ≤ placeM x (lastD p) ∧ setAtM n (p.take (p.length - 1)) (withoutM x (placeM x (lastD p)).toNat) = some m := by
  unfold removeAtM at h
  split at h
  · cases h
  · rename_i hp
    refine ⟨hp, ?_⟩
    cases hx : findM n (p.take (p.length - 1)) with
    | none => rw [hx] at h; cases h
    | some x =>
      rw [hx] at h
      simp only at h
      split at h
      · cases h
      · exact ⟨x, rfl, by omega, h⟩
theorem set_of_find : ∀ {p : List Bs} {n x : Nd} (y : Nd), findM n p = some x → (setAtM n p y).isSome = true
  | [], n, x, y, _ => rfl
  | s :: p, n, x, y, h => by
    obtain ⟨hp, hl, h⟩ := find_cons h
    rw [setAtM, if_neg (by omega), Option.isSome_map]
    exact set_of_find y h
theorem remove_isSome {n : Nd} {p : List Bs} (hp : p ≠ []) : (removeAtM n p).isSome = (findM n p).isSome := by
  rw [find_split hp]
  unfold removeAtM
  rw [if_neg hp]
  cases hx : findM n (p.take (p.length - 1)) with
  | none => rfl
  | some x =>
    simp only [Option.bind_some]
    by_cases h : placeM x (lastD p) < 0
    · rw [if_pos h, find_one.2 h]
    · rw [if_neg h, set_of_find _ hx]
      cases h2 : findM x [lastD p] with
      | none => exact absurd (find_one.1 h2) h
      | some _ => rfl
theorem remove_valid {n m : Nd} {p : List Bs} (hn : validM n = true) (h : removeAtM n p = some m) : validM m = true := by
  obtain ⟨hp, x, hx, hpl, hs⟩ := remove_some h
  have ok := validM_ok hn
  have okx := findM_ok ok hx
  have hsh := set_shape (okN_shape ok) hx (fun e he hx => without_shape he hx hpl) hs
  have hc := set_count hx hs
  have hc2 := rem_count okx hpl
  rw [validM_iff] at hn
  rw [validM_iff]
  exact ⟨⟨5, Nat.le_refl _, hsh⟩, by omega⟩
/-- The implementation removes without looking whether what is left is valid: it is. -/
theorem rem_same (n : Nd) (p : List Bs) : (if validM n && pathM p then removeAtM n p else none) = removeNodeM n p := by
  unfold removeNodeM
  split
  · rename_i h
    rw [Bool.and_eq_true] at h
    cases h1 : removeAtM n p with
    | none => rfl
    | some m => simp [checkedM, remove_valid h.1 h1]
  · rfl
theorem rem_isSome (n : Nd) (p : List Bs) : (removeNodeM n p).isSome = ((nodeAtM n p).isSome && !decide (p = [])) := by
  rw [← rem_same]
  unfold nodeAtM
  split
  · by_cases hp : p = []
    · subst hp; rfl
    · rw [remove_isSome hp]; simp [hp]
  · rfl
theorem addNode_some {n m v : Nd} {p : List Bs} (h : addNodeM n p v = some m) : validM n = true ∧ pathM p = true ∧ validM v = true ∧ validM m = true ∧ addAtM n p v = some m := by
  unfold addNodeM at h
  split at h
  · rename_i h1
    simp only [Bool.and_eq_true] at h1
    cases h2 : addAtM n p v with
    | none => rw [h2] at h; cases h
    | some k =>
      rw [h2] at h
      simp only [checkedM] at h
      split at h
      · rename_i h3; cases h; exact ⟨h1.1.1, h1.1.2, h1.2, h3, rfl⟩
      · cases h
  · cases h
theorem addAt_some {n m v : Nd} {p : List Bs} (hp : p ≠ []) (h : addAtM n p v = some m) : ∃ x y, findM n (p.take (p.length - 1)) = some x ∧ addHereM x (lastD p) v = some y ∧ setAtM n (p.take (p.length - 1)) y = some m := by
  unfold addAtM at h
  rw [if_neg hp] at h
  cases hx : findM n (p.take (p.length - 1)) with
  | none => rw [hx] at h; cases h
  | some x =>
    rw [hx] at h
    simp only at h
    cases hy : addHereM x (lastD p) v with
    | none => rw [hy] at h; cases h
    | some y => rw [hy] at h; exact ⟨x, y, rfl, hy, h⟩
theorem set_find0 {p : List Bs} {n m y : Nd} (h : setAtM n p y = some m) : findM m p = some y := by
  have := set_find (q := []) h
  rwa [List.append_nil] at this
theorem add_law {n m v : Nd} {p : List Bs} (h : addNodeM n p v = some m) (hl : p ≠ [] → lastD p ≠ [45]) : nodeAtM m p = some v := by
  obtain ⟨h1, h2, h3, h4, h5⟩ := addNode_some h
  unfold nodeAtM
  rw [h4, h2, Bool.and_self, if_pos rfl]
  by_cases hp : p = []
  · subst hp; simp only [addAtM, if_pos] at h5; cases h5; rfl
  · obtain ⟨x, y, hx, hy, hs⟩ := addAt_some hp h5
    rw [find_split hp, set_find0 hs]
    exact add_there (findM_ok (validM_ok h1) hx) (hl hp) hy
theorem nodeAt_none {n : Nd} {p : List Bs} (h1 : validM n = true) (h2 : pathM p = true) (h : nodeAtM n p = none) : findM n p = none := by
  unfold nodeAtM at h
  rwa [h1, h2, Bool.and_self, if_pos rfl] at h
theorem add_none {n m v : Nd} {p : List Bs} (h : addNodeM n p v = some m) (hn : nodeAtM n p = none) : p ≠ [] ∧ ∃ x y, okN x ∧ findM n (p.take (p.length - 1)) = some x ∧ placeM x (lastD p) < 0 ∧ addHereM x (lastD p) v = some y ∧ setAtM n (p.take (p.length - 1)) y = some m := by
  obtain ⟨h1, h2, h3, h4, h5⟩ := addNode_some h
  have hf := nodeAt_none h1 h2 hn
  have hp : p ≠ [] := by rintro rfl; cases hf
  obtain ⟨x, y, hx, hy, hs⟩ := addAt_some hp h5
  rw [find_split hp, hx] at hf
  exact ⟨hp, x, y, findM_ok (validM_ok h1) hx, hx, find_one.1 hf, hy, hs⟩
theorem add_count_law {n m v : Nd} {p : List Bs} (h : addNodeM n p v = some m) (hn : nodeAtM n p = none) : countM m = countM n + countM v := by
  obtain ⟨hp, x, y, okx, hx, hpl, hy, hs⟩ := add_none h hn
  have h1 := set_count hx hs
  have h2 := add_count okx hy hpl
  omega
theorem add_remove_law {n m v : Nd} {p : List Bs} (h : addNodeM n p v = some m) (hn : nodeAtM n p = none) (hd : lastD p ≠ [45]) : removeNodeM m p = some n := by
  obtain ⟨h1, h2, h3, h4, h5⟩ := addNode_some h
  obtain ⟨hp, x, y, okx, hx, hpl, hy, hs⟩ := add_none h hn
  rw [← rem_same, h4, h2, Bool.and_self, if_pos rfl]
  obtain ⟨h6, h7⟩ := add_back okx hy hpl hd
  unfold removeAtM
  rw [if_neg hp, set_find0 hs]
  simp only
  rw [if_neg (by omega), h7, set_set hs]
  exact set_self hx
theorem rem_law {n m : Nd} {p : List Bs} (h : removeNodeM n p = some m) : ∃ old, nodeAtM n p = some old ∧ validM old = true ∧ validM n = true ∧ validM m = true ∧ countM n = countM m + countM old ∧ addNodeM m p old = some n := by
  rw [← rem_same] at h
  split at h
  case isFalse => cases h
  rename_i h0
  rw [Bool.and_eq_true] at h0
  obtain ⟨h1, h2⟩ := h0
  have hv := remove_valid h1 h
  obtain ⟨hp, x, hx, hpl, hs⟩ := remove_some h
  have okx := findM_ok (validM_ok h1) hx
  have hf : findM n p = some (x.kids.getD (placeM x (lastD p)).toNat default) := by
    rw [find_split hp, hx, Option.bind_some, findM, if_neg (by omega), findM]
  refine ⟨_, ?_, find_valid h1 hf, h1, hv, ?_, ?_⟩
  · unfold nodeAtM; rw [h1, h2, Bool.and_self, if_pos rfl]; exact hf
  · have h3 := set_count hx hs
    have h4 := rem_count okx hpl
    omega
  · unfold addNodeM
    rw [hv, h2, find_valid h1 hf, Bool.and_self, Bool.and_self, if_pos rfl]
    unfold addAtM
    rw [if_neg hp, set_find0 hs]
    simp only
    rw [rem_back okx hpl]
    simp only
    rw [set_set hs, set_self hx]
    simp [checkedM, h1]
theorem txt_dec {i : Nat} (h : i < 10) : txtM (decM i) = true := by
  rw [decM_lt h]
  have e : (UInt8.ofNat (48 + i)).toNat = 48 + i := by rw [UInt8.toNat_ofNat']; omega
  simp [txtM, chrOk, e]
  omega
theorem add_end_law {n v : Nd} (hn : validM n = true) (hk : n.kind = 3) : addNodeM n [[45]] v = addNodeM n [decM n.kids.length] v := by
  have ok := validM_ok hn
  have hl := okN_kids ok
  have h1 : placeM n [45] = -1 := place_out hk fun j hj => decM_dash (by omega)
  have h2 : placeM n (decM n.kids.length) = -1 := place_out hk fun j hj e => by have := decM_small (by omega) (by omega) e; omega
  have h3 : pathM [[45]] = true := by decide
  have h4 : pathM [decM n.kids.length] = true := path_one (txt_dec (by omega))
  unfold addNodeM
  rw [h3, h4]
  have e : addAtM n [[45]] v = addAtM n [decM n.kids.length] v := by
    unfold addAtM
    rw [if_neg (by simp), if_neg (by simp)]
    simp only [List.length_singleton, Nat.sub_self, List.take_zero, findM]
    have l1 : lastD [[45]] = [45] := rfl
    have l2 : lastD [decM n.kids.length] = decM n.kids.length := rfl
    rw [l1, l2, add_list hk, add_list hk, h1, h2, if_neg (by omega), if_pos (Or.inl rfl), if_pos (Or.inr rfl), if_neg (by omega)]
  rw [e]
theorem dig_dec {k : Nat} (h : k ≤ 6) : ([[48], [49], [50], [51], [52], [53], [54]] : List Bs).getD ((k : Nat) : Int).toNat [] = decM k := by
  rw [decM_lt (by omega), Int.toNat_natCast]
  match k, h with
  | 0, _ | 1, _ | 2, _ | 3, _ | 4, _ | 5, _ | 6, _ => rfl
def ncM (n : Nd) : Int := if validM n then (countM n : Int) else -1
theorem ncM_rng (n : Nd) : -1 ≤ ncM n ∧ ncM n ≤ 40 := by
  unfold ncM
  split
  · rename_i h
    have := (validM_iff.1 h).2
    omega
  · omega
theorem ncM_eq {n : Nd} (h : validM n = true) : ncM n = countM n := by unfold ncM; rw [if_pos h]
theorem nil_or (q : List Bs) : q = [] ∨ 0 < q.length := by cases q <;> simp
end Go.Rs
end
section
/-! Plain models: the texts of nodes. -/
namespace Go.Rs
def escM (c : UInt8) : Bs := if c = 34 ∨ c = 92 then [92, c] else [c]
def escsM (s : Bs) : Bs := s.flatMap escM
def quoteM (s : Bs) : Bs := 34 :: (escsM s ++ [34])
def numM (z : Int) : Bs := if z < 0 then 45 :: decM (-z).toNat else decM z.toNat
theorem escs_take {s : Bs} {i : Nat} (h : i < s.length) : escsM (s.take (i + 1)) = escsM (s.take i) ++ escM (s.getD i 0) := by
  unfold escsM
  rw [← take_snoc 0 h, List.flatMap_append]
  simp
theorem esc_len (c : UInt8) : (escM c).length ≤ 2 := by unfold escM; split <;> simp
theorem escs_len (s : Bs) : (escsM s).length ≤ 2 * s.length := by
  induction s with
  | nil => simp [escsM]
  | cons c s ih =>
    have e : escsM (c :: s) = escM c ++ escsM s := by simp [escsM]
    have := esc_len c
    rw [e, List.length_append, List.length_cons]
    omega
theorem escs_take_len (s : Bs) (i : Nat) : (escsM (s.take i)).length ≤ 2 * s.length := by
  have := escs_len (s.take i)
  simp only [List.length_take] at this
  omega
theorem quote_len (s : Bs) : (quoteM s).length ≤ 2 * s.length + 2 := by
  have := escs_len s
  simp [quoteM]; omega
def fmtM : Nd → Bs
  | ⟨k, m, t, ns, ks⟩ => if k = 0 then [110, 117, 108, 108] else if k = 1 then numM m else if k = 2 then quoteM t else if k = 4 then 123 :: (go 4 true ns ks ++ [125]) else 91 :: (go k true ns ks ++ [93])
where go (k : Int) (first : Bool) : List Bs → List Nd → Bs
  | ns, x :: xs => ((if first then [] else [44]) ++ (if k = 4 then quoteM (ns.headD []) ++ [58] else [])) ++ fmtM x ++ go k false ns.tail xs
  | _, [] => []
theorem fmtM_eq (n : Nd) : fmtM n = if n.kind = 0 then [110, 117, 108, 108] else if n.kind = 1 then numM n.num else if n.kind = 2 then quoteM n.text else if n.kind = 4 then 123 :: (fmtM.go 4 true n.names n.kids ++ [125]) else 91 :: (fmtM.go n.kind true n.names n.kids ++ [93]) := by
  cases n; rw [fmtM]
/-- What lies before the i-th kid's text. -/
def leadM (k : Int) (ns : List Bs) (i : Nat) : Bs := (if 0 < i then [44] else []) ++ (if k = 4 then quoteM (ns.getD i []) ++ [58] else [])
theorem goF_snoc (k : Int) : ∀ (xs : List Nd) (ns : List Bs) (first : Bool) (i : Nat), i < xs.length →
    fmtM.go k first ns (xs.take (i + 1)) = fmtM.go k first ns (xs.take i) ++ ((if first ∧ i = 0 then [] else [44]) ++ (if k = 4 then quoteM (ns.getD i []) ++ [58] else [])) ++ fmtM (xs.getD i default)
  | x :: xs, ns, first, 0, _ => by
    have e : ns.headD [] = ns.getD 0 [] := by cases ns <;> rfl
    simp only [List.take_succ_cons, List.take_zero, fmtM.go, e, List.append_nil, List.nil_append, List.getD_cons_zero, and_true]
  | x :: xs, ns, first, i + 1, h => by
    have ih := goF_snoc k xs ns.tail false i (by simpa using h)
    have e : ns.tail.getD i [] = ns.getD (i + 1) [] := by cases ns <;> simp
    have e2 : (if False ∧ i = 0 then ([] : Bs) else [44]) = [44] := by simp
    simp only [List.take_succ_cons, fmtM.go, ih, List.getD_cons_succ, e, List.append_assoc]
    simp
  | [], _, _, _, h => by simp at h
def joinM (n : Nd) (i : Nat) : Bs := fmtM.go n.kind true n.names (n.kids.take i)
theorem joinM_zero (n : Nd) : joinM n 0 = [] := by unfold joinM; rw [List.take_zero, fmtM.go]
theorem joinM_succ {n : Nd} {i : Nat} (h : i < n.kids.length) : joinM n (i + 1) = joinM n i ++ leadM n.kind n.names i ++ fmtM (n.kids.getD i default) := by
  unfold joinM
  rw [goF_snoc _ _ _ _ _ h]
  unfold leadM
  congr 2
  by_cases h0 : i = 0
  · subst h0; simp
  · simp [h0, Nat.pos_of_ne_zero h0]
theorem joinM_all (n : Nd) {i : Nat} (h : n.kids.length ≤ i) : joinM n i = fmtM.go n.kind true n.names n.kids := by
  unfold joinM; rw [List.take_of_length_le h]
theorem fmt_map {n : Nd} (h : n.kind = 4) : fmtM n = 123 :: (joinM n n.kids.length ++ [125]) := by
  rw [fmtM_eq, joinM_all n (Nat.le_refl _), h]
  simp
theorem fmt_list {n : Nd} (h : n.kind = 3) : fmtM n = 91 :: (joinM n n.kids.length ++ [93]) := by
  rw [fmtM_eq, joinM_all n (Nat.le_refl _), h]
  simp
theorem fmt_none {n : Nd} (h : n.kind = 0) : fmtM n = [110, 117, 108, 108] := by rw [fmtM_eq, if_pos h]
theorem fmt_num {n : Nd} (h : n.kind = 1) : fmtM n = numM n.num := by rw [fmtM_eq, if_neg (by omega), if_pos h]
theorem fmt_text {n : Nd} (h : n.kind = 2) : fmtM n = quoteM n.text := by rw [fmtM_eq, if_neg (by omega), if_neg (by omega), if_pos h]
-- lengths
theorem decM_len_le : ∀ (k n : Nat), n < 10 ^ (k + 1) → (decM n).length ≤ k + 1
  | 0, n, h => by rw [decM_lt (by simpa using h)]; simp
  | k + 1, n, h => by
    by_cases h1 : n < 10
    · rw [decM_lt h1]; simp
    · rw [decM_ge h1, List.length_append]
      have := decM_len_le k (n / 10) (by rw [Nat.div_lt_iff_lt_mul (by omega)]; rw [Nat.pow_succ] at h; exact h)
      simp; omega
theorem numM_len {z : Int} (h1 : -999999 ≤ z) (h2 : z ≤ 999999) : (numM z).length ≤ 7 := by
  unfold numM
  split
  · have := decM_len_le 5 (-z).toNat (by have : (10 : Nat) ^ 6 = 1000000 := rfl; omega)
    simp; omega
  · have := decM_len_le 5 z.toNat (by have : (10 : Nat) ^ 6 = 1000000 := rfl; omega)
    omega
theorem okN_kind {n : Nd} (h : okN n) : 0 ≤ n.kind ∧ n.kind ≤ 4 := partsM_kind (okN_parts h)
theorem okN_num {n : Nd} (h : okN n) : -999999 ≤ n.num ∧ n.num ≤ 999999 := by
  by_cases h1 : n.kind = 1
  · have := okN_parts h
    simp only [partsM, h1] at this
    grind
  · have := (okN_bare h).1 h1
    omega
theorem okN_leaf {n : Nd} (h : okN n) (h3 : n.kind < 3) : n.kids = [] := by
  have := okN_parts h
  have h0 := okN_kind h
  unfold partsM at this
  split at this
  · cases this
  · have : n.kids.length = 0 := by grind
    exact List.length_eq_zero_iff.1 this
theorem okN_name_len {n : Nd} (h : okN n) {j : Nat} (hj : j < n.names.length) : (n.names.getD j []).length ≤ 12 := by
  by_cases hk : n.kind = 4
  · have := okN_txt h hk hj
    simp only [txtM, Bool.and_eq_true, decide_eq_true_eq] at this
    exact this.1
  · have := (okN_names h).2.2 hk
    rw [this] at hj; simp at hj
theorem lead_len {n : Nd} (h : okN n) {i : Nat} (hi : i < n.kids.length) : (leadM n.kind n.names i).length ≤ 28 := by
  unfold leadM
  have h1 : (if 0 < i then ([44] : Bs) else []).length ≤ 1 := by split <;> simp
  have h2 : (if n.kind = 4 then quoteM (n.names.getD i []) ++ [58] else []).length ≤ 27 := by
    split
    · rename_i hk
      have h3 := okN_name_len h (j := i) (by rw [(okN_names h).2.1 hk]; exact hi)
      have := quote_len (n.names.getD i [])
      simp only [List.length_append, List.length_singleton]; omega
    · simp
  rw [List.length_append]; omega
theorem fmt_len : ∀ (d : Nat) {n : Nd}, d ≤ 5 → shapeM d n = true → (fmtM n).length + 30 ≤ 64 * countM n
  | 0, n, _, h => by cases h
  | d + 1, n, hd, h => by
    have hn : okN n := ⟨d + 1, hd, h⟩
    have h0 := okN_kind hn
    have hk : ∀ i, i ≤ n.kids.length → (joinM n i).length ≤ 64 * sumN countM (n.kids.take i) := by
      intro i
      induction i with
      | zero => intro _; rw [joinM_zero]; simp
      | succ i ih =>
        intro hi
        rw [joinM_succ (by omega), sumN_take (by omega)]
        have h1 := ih (by omega)
        have h2 := lead_len hn (i := i) (by omega)
        have h3 := fmt_len d (by omega) (shape_kid h (getD_mem (d := default) (show i < n.kids.length by omega)))
        simp only [List.length_append]
        omega
    have h1 := hk n.kids.length (Nat.le_refl _)
    rw [List.take_length] at h1
    rw [countM_eq]
    by_cases e0 : n.kind = 0
    · rw [fmt_none e0]; simp; omega
    by_cases e1 : n.kind = 1
    · rw [fmt_num e1]
      have := okN_num hn
      have := numM_len this.1 this.2
      omega
    by_cases e2 : n.kind = 2
    · rw [fmt_text e2]
      have := okN_text hn
      have := quote_len n.text
      omega
    by_cases e3 : n.kind = 3
    · rw [fmt_list e3]; simp; omega
    · rw [fmt_map (by omega)]; simp; omega
theorem okN_fmt {n : Nd} (h : okN n) : (fmtM n).length + 30 ≤ 64 * countM n := by obtain ⟨d, hd, h⟩ := h; exact fmt_len d hd h
theorem join_len {n : Nd} (hn : okN n) : ∀ {i : Nat}, i ≤ n.kids.length → (joinM n i).length ≤ 64 * sumN countM (n.kids.take i)
  | 0, _ => by rw [joinM_zero]; simp
  | i + 1, hi => by
    rw [joinM_succ (by omega), sumN_take (by omega)]
    have h1 := join_len hn (i := i) (by omega)
    have h2 := lead_len hn (i := i) (by omega)
    have h3 := okN_fmt (okN_kid hn (j := i) (by omega))
    simp only [List.length_append]
    omega
theorem join_room {n : Nd} (hn : okN n) {i : Nat} (hi : i < n.kids.length) : (joinM n i).length + 64 * countM (n.kids.getD i default) + 64 ≤ 64 * countM n := by
  have h1 := join_len hn (i := i) (by omega)
  have h2 := sumN_take (f := countM) hi
  have h3 := sumN_take_le (f := countM) (l := n.kids) (k := i + 1)
  rw [countM_eq n]
  omega
theorem join_end {n : Nd} (hn : okN n) {i : Nat} (hi : i ≤ n.kids.length) : (joinM n i).length + 64 ≤ 64 * countM n := by
  have h1 := join_len hn (i := i) (by omega)
  have h3 := sumN_take_le (f := countM) (l := n.kids) (k := i)
  rw [countM_eq n]
  omega
def textM (n : Nd) : Bs := if validM n then fmtM n else []
theorem textM_len (n : Nd) : (textM n).length ≤ 2560 := by
  unfold textM
  split
  · rename_i h
    have := okN_fmt (validM_ok h)
    have := (validM_iff.1 h).2
    omega
  · simp
def sizeTM (n : Nd) : Int := if validM n then ((fmtM n).length : Int) else -1
end Go.Rs
end
