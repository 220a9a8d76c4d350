/- A checked evaluator of the model's code, part E. -/
import Derived.Test.YtmgheiagnleeiaaDoorFC
import Derived.Test.YtmgheiagnleeiaaDoorFD
set_option linter.all false
section
namespace Go.Rs
variable {P : Program} {B : Base} {U U' U'' : Nat → Bool} {ν ν' ν'' : Nat → Value} {γ γ' γ'' : Nat → Nat} {w w' w'' : World} {L L' L'' : Locs}
theorem memN_mem {l : List Nat} {t : Nat} : memN l t = true ↔ t ∈ l := by
  induction l with
  | nil => simp [memN]
  | cons k r ih =>
    simp only [memN]
    split
    · rename_i h; simp [(Nat.eq_of_beq_eq_true h)]
    · rename_i h
      rw [ih]
      have : t ≠ k := fun e => by subst e; rw [Nat.beq_refl] at h; cases h
      simp [this]
theorem lookL_mem {β : Type} {l : List (Nat × β)} {t : Nat} {v : β} (h : lookL l t = some v) : (t, v) ∈ l := by
  induction l with
  | nil => cases h
  | cons p r ih =>
    obtain ⟨k, u⟩ := p
    simp only [lookL] at h
    split at h
    · rename_i hb; cases h; have := Nat.eq_of_beq_eq_true hb; subst this; simp
    · simp [ih h]
theorem lookL_none {β : Type} {l : List (Nat × β)} {t : Nat} (h : lookL l t = none) : ∀ p ∈ l, p.1 ≠ t := by
  induction l with
  | nil => simp
  | cons p r ih =>
    obtain ⟨k, u⟩ := p
    simp only [lookL] at h
    split at h
    · cases h
    · rename_i hb
      intro p hp
      simp at hp
      rcases hp with rfl | hp
      · intro e
        have e' : k = t := e
        subst e'
        rw [Nat.beq_refl] at hb; cases hb
      · exact ih h p hp
theorem rep_two {x0 x v w0 γ0 ν0} {U0 : Nat → Bool} (h0 : Rep U0 ν0 γ0 w0 x0 v) (h : Rep U ν γ w x v) (hn : ∀ id, U0 id = true → U' id = true ∧ ν' id = ν id) : Rep U' ν' γ w x v := by
  induction h generalizing x0 with
  | opq x => exact .opq x
  | int k n => exact .int k n
  | bool b => exact .bool b
  | str s hM => exact .str s hM
  | st xs cs hl h1 h ih =>
    cases h0 with
    | st xs0 _ hl0 h10 h0 => exact .st xs cs hl h1 (fun i hi => ih i hi (h0 i hi))
  | ps E l a cap c hM hc ha h1 hr ih => exact .ps E l a cap c hM hc ha h1 (fun i hi j hj => (hr i hi j hj).closed (enc_closed _ _ _))
  | niln => exact .niln
  | ifc0 => exact .ifc0
  | ifc1 te pe => exact .ifc1 te pe
  | nils E => exact .nils E
  | ls id hu ho =>
    have hu0 : U0 id = true := by cases h0; assumption
    obtain ⟨h1, h2⟩ := hn id hu0
    rw [← h2]; exact .ls id h1 (by rw [h2]; exact ho)
  | lp id off b hu h =>
    have hu0 : U0 id = true := by cases h0; assumption
    obtain ⟨h1, h2⟩ := hn id hu0
    exact .lp id off b h1 (h2.trans h)
  | ep E l i off b o len cap hs h0' h1 ih => exact .ep E l i off b o len cap (hs.closed trivial) h0' h1
  | ap E id i off b len cap hu h h0' h1 =>
    have hu0 : U0 id = true := by cases h0; assumption
    obtain ⟨h3, h4⟩ := hn id hu0
    exact .ap E id i off b len cap h3 (h4.trans h) h0' h1
  | nilp => exact .nilp
  | fn f caps xs hl h ih =>
    cases h0 with
    | fn _ _ xs0 hl0 h0 => exact .fn f caps xs hl (fun i hi => ih i hi (h0 i hi))
  | tup xs cs hl h ih =>
    cases h0 with
    | tup xs0 _ hl0 h0 => exact .tup xs cs hl (fun i hi => ih i hi (h0 i hi))
theorem eqE_eq {E E' : El} {l : List (ElT E)} {l' : List (ElT E')} (h : eqE E E' l l') : (AV.ps E l = AV.ps E' l') ∧ (LC.arr E l = LC.arr E' l') ∧ (LC.frz E l = LC.frz E' l') := by
  unfold eqE at h
  split at h
  · rename_i m hm
    obtain ⟨e, h2⟩ := castE_eq hm
    subst e
    subst h2
    subst h
    exact ⟨rfl, rfl, rfl⟩
  · exact h.elim
theorem eqE_tree {E E' : El} {l : List (ElT E)} {l' : List (ElT E')} (h : eqE E E' l l') : LC.tree E l = LC.tree E' l' := by
  unfold eqE at h
  split at h
  · rename_i m hm
    obtain ⟨e, h2⟩ := castE_eq hm
    subst e
    subst h2
    subst h
    rfl
  · exact h.elim
theorem rep_eqA {M : List Nat} {σ : List (Nat × Nat)} {u v : AV} {x : Value} (he : eqA M σ u v) (hM : ∀ id ∈ M, U' id = true ∧ ν' id = ν (sg σ id)) (h : Rep U ν γ w x u) : Rep U' ν' γ w x v := by
  unfold eqA at he
  split at he
  · subst he; exact h.closed trivial
  · subst he; exact h.closed trivial
  · subst he; exact h.closed trivial
  · subst he; exact h.closed trivial
  · rw [← (eqE_eq he).1]; exact h.closed trivial
  · subst he; cases h; exact .nils _
  · obtain ⟨rfl, e⟩ := he
    cases h
    rename_i l'
    have e : l' = [] := List.length_eq_zero_iff.1 e
    subst e
    exact .ps _ [] none 0 (fun _ => undef) (by simp) (by simp) (.inl rfl) (fun k hk => by simp at hk) (fun i hi => by simp at hi)
  · rename_i id id'
    split at he
    · rename_i hm
      obtain ⟨h1, h2⟩ := hM id' (memN_mem.1 hm)
      subst he
      cases h with
      | ls _ hu ho => rw [← h2]; exact .ls id' h1 (by rw [h2]; exact ho)
    · exact he.elim
  · rename_i id off id' off'
    split at he
    · rename_i hm
      obtain ⟨h1, h2⟩ := hM id' (memN_mem.1 hm)
      obtain ⟨rfl, rfl⟩ := he
      cases h with
      | lp _ _ b hu h => exact .lp id' off b h1 (h2.trans h)
    · exact he.elim
  · cases h; exact .nilp
  · exact .opq _
  · exact he.elim
theorem eqL_iff {M : List Nat} {σ : List (Nat × Nat)} : ∀ {l m : List AV} {K : Prop}, eqL M σ l m K → K ∧ l.length = m.length ∧ ∀ i, i < m.length → eqA M σ (l.getD i .opq) (m.getD i .opq)
  | [], [], K, h => ⟨h, rfl, by simp⟩
  | [], _ :: _, K, h => h.elim
  | _ :: _, [], K, h => h.elim
  | a :: l, b :: m, K, h => by
    obtain ⟨h1, h2⟩ := h
    obtain ⟨h3, h4, h5⟩ := eqL_iff h2
    refine ⟨h3, by simp [h4], fun i hi => ?_⟩
    cases i with
    | zero => simpa using h1
    | succ i => simpa using h5 i (by simpa using hi)
theorem rep_eqS {M : List Nat} {σ : List (Nat × Nat)} {u v : AV} {x : Value} {K : Prop} (he : eqS M σ u v K) (hM : ∀ id ∈ M, U' id = true ∧ ν' id = ν (sg σ id)) : K ∧ (Rep U ν γ w x u → Rep U' ν' γ w x v) := by
  unfold eqS at he
  split at he
  · obtain ⟨h1, h2, h3⟩ := eqL_iff he
    refine ⟨h1, fun h => ?_⟩
    cases h with
    | st xs _ hl ho hr => exact .st xs _ (hl.trans h2) ho (fun i hi => rep_eqA (h3 i hi) hM (hr i (by omega)))
  · exact ⟨he.2, rep_eqA he.1 hM⟩
theorem covE_all {M : List Nat} {σ : List (Nat × Nat)} {s : AS} (hM : ∀ id ∈ M, U' id = true ∧ ν' id = ν (sg σ id)) : ∀ {e : List (Nat × AV)} {K : Prop}, covE M σ s e K → K ∧ ∀ t v, (t, v) ∈ e → ∃ u, s.env t = ⟨[], u⟩ ∧ ∀ x, Rep U ν γ w x u → Rep U' ν' γ w x v
  | [], K, h => ⟨h, by simp⟩
  | (t, v) :: r, K, h => by
    simp only [covE] at h
    split at h
    · rename_i u hu
      have h2 := fun x => rep_eqS (U := U) (γ := γ) (w := w) (x := x) h hM
      obtain ⟨h3, h4⟩ := covE_all hM (h2 undef).1
      refine ⟨h3, fun t' v' hm => ?_⟩
      simp at hm
      rcases hm with ⟨rfl, rfl⟩ | hm
      · exact ⟨u, hu, fun x => (h2 x).2⟩
      · exact h4 t' v' hm
    · exact h.elim
theorem loc_eqC {M : List Nat} {σ : List (Nat × Nat)} {id : Nat} {c c' : LC} {K : Prop} (he : eqC M σ c' c K) (hM : ∀ id ∈ M, U' id = true ∧ ν' id = ν (sg σ id)) (hid : id ∈ M) :
    K ∧ (LocOK B U ν γ w (sg σ id) c' → LocOK B U' ν' γ w id c) ∧ ∀ b, Owns ν' w id c b → Owns ν w (sg σ id) c' b := by
  have hν := (hM id hid).2
  unfold eqC at he
  split at he
  · obtain ⟨h1, h2, h3⟩ := eqL_iff he
    refine ⟨h1, ?_, fun b ho => hν.symm.trans ho⟩
    rintro ⟨b, xs, e, hr, hl, hrep⟩
    exact ⟨b, xs, hν.trans e, hr, hl.trans h2, fun i hi => rep_eqA (h3 i hi) hM (hrep i (by omega))⟩
  · rename_i E l E' l'
    refine ⟨he.2, ?_, ?_⟩
    · rw [(eqE_eq he.1).2.1]
      rintro ⟨a, cap, e, hMX, hc, h⟩
      refine ⟨a, cap, hν.trans e, hMX, hc, ?_⟩
      rcases h with h | ⟨b, xs, e2, hr, hl, hrep⟩
      · exact .inl h
      · exact .inr ⟨b, xs, e2, hr, hl, fun i hi j hj => (hrep i hi j hj).closed (enc_closed _ _ _)⟩
    · rintro b ⟨len, cap, e, hne⟩
      exact ⟨len, cap, hν.symm.trans e, hne⟩
  · refine ⟨he.2, ?_, fun b ho => ho.elim⟩
    rw [(eqE_eq he.1).2.2]
    intro h
    show Rep _ _ _ _ _ _
    rw [hν]
    exact Rep.closed h trivial
  · refine ⟨he.2, ?_⟩
    rw [eqE_tree he.1]
    refine ⟨?_, ?_⟩
    · rintro ⟨a, cap, e, hMX, hc, h⟩
      exact ⟨a, cap, hν.trans e, hMX, hc, h⟩
    · rintro b (⟨len, cap, e, hne⟩ | ⟨bs, hd, hb⟩)
      · exact .inl ⟨len, cap, hν.symm.trans e, hne⟩
      · exact .inr ⟨bs, by rw [← hν]; exact hd, hb⟩
  · obtain ⟨rfl, hk⟩ := he
    refine ⟨hk, ?_, ?_⟩
    · rintro ⟨hM, b, x, v, e, hr, hx, h⟩
      exact ⟨hM, b, x, v, hν.trans e, hr, hx, h⟩
    · rintro b (ho | ⟨b0, len, cap, e, hcell, hne⟩)
      · exact .inl (hν.symm.trans ho)
      · exact .inr ⟨b0, len, cap, hν.symm.trans e, hcell, hne⟩
  · obtain ⟨rfl, hk⟩ := he
    refine ⟨hk, ?_, fun b ho => hν.symm.trans ho⟩
    rintro ⟨hM, b, es, ck, e, h⟩
    exact ⟨hM, b, es, ck, hν.trans e, h⟩
  · exact he.elim
theorem covL_all {M : List Nat} {σ : List (Nat × Nat)} {s : AS} (hM : ∀ id ∈ M, U' id = true ∧ ν' id = ν (sg σ id)) : ∀ {lo : List (Nat × LC)} {K : Prop}, (∀ p ∈ lo, p.1 ∈ M) → covL M σ s lo K →
    K ∧ ∀ id c, (id, c) ∈ lo → ∃ c', s.locs (sg σ id) = some c' ∧ (LocOK B U ν γ w (sg σ id) c' → LocOK B U' ν' γ w id c) ∧ ∀ b, Owns ν' w id c b → Owns ν w (sg σ id) c' b
  | [], K, _, h => ⟨h, by simp⟩
  | (id, c) :: r, K, hs, h => by
    simp only [covL] at h
    split at h
    · rename_i c' hc
      obtain ⟨h1, h2, h3⟩ := loc_eqC (B := B) (U := U) (γ := γ) (w := w) h hM (hs (id, c) (by simp))
      obtain ⟨h4, h5⟩ := covL_all hM (fun p hp => hs p (by simp [hp])) h1
      refine ⟨h4, fun id' c'' hm => ?_⟩
      simp at hm
      rcases hm with ⟨rfl, rfl⟩ | hm
      · exact ⟨c', hc, h2, h3⟩
      · exact h5 id' c'' hm
    · exact h.elim
theorem covK_all {s0 s : AS} : ∀ {keep : List Nat} {K : Prop}, covK s0 s keep K → K ∧ ∀ id ∈ keep, ∃ c, s0.locs id = some c ∧ s.locs id = some c
  | [], K, h => ⟨h, by simp⟩
  | id :: r, K, h => by
    simp only [covK] at h
    split at h
    · rename_i c hc
      obtain ⟨h1, h2⟩ := covK_all h.2
      refine ⟨h1, fun id' hm => ?_⟩
      simp at hm
      rcases hm with rfl | hm
      · exact ⟨c, hc, h.1⟩
      · exact h2 id' hm
    · exact h.elim
theorem mem_keysOf {lo : List (Nat × LC)} {k : List Nat} {id : Nat} : id ∈ keysOf lo k ↔ (∃ c, (id, c) ∈ lo) ∨ id ∈ k := by
  induction lo with
  | nil => simp [keysOf]
  | cons p r ih =>
    obtain ⟨j, c⟩ := p
    simp only [keysOf, List.mem_cons, ih, Prod.mk.injEq]
    constructor
    · rintro (rfl | ⟨c', h⟩ | h)
      · exact .inl ⟨c, .inl ⟨rfl, rfl⟩⟩
      · exact .inl ⟨c', .inr h⟩
      · exact .inr h
    · rintro (⟨c', ⟨rfl, _⟩ | h⟩ | h)
      · exact .inl rfl
      · exact .inr (.inl ⟨c', h⟩)
      · exact .inr (.inr h)
theorem nodup_inj {α : Type} {f : α → Nat} : ∀ {l : List α}, (l.map f).Nodup → ∀ a ∈ l, ∀ b ∈ l, f a = f b → a = b
  | [], _, a, ha, _, _, _ => by simp at ha
  | x :: l, h, a, ha, b, hb, e => by
    simp only [List.map_cons, List.nodup_cons, List.mem_map] at h
    simp at ha hb
    rcases ha with rfl | ha <;> rcases hb with rfl | hb
    · rfl
    · exact absurd ⟨b, hb, e.symm⟩ h.1
    · exact absurd ⟨a, ha, e⟩ h.1
    · exact nodup_inj h.2 a ha b hb e
theorem fzL_sound : ∀ (fz : List Nat) (γ : Nat → Nat) (L : Locs), Mem B γ w → LocsOK B U ν γ w L → ∃ γ', Frz B U ν γ w L γ' (fzL L fz)
  | [], γ, L, hm, hl => ⟨γ, .refl hm hl⟩
  | id :: r, γ, L, hm, hl => by
    simp only [fzL]
    split
    · rename_i E l hid
      obtain ⟨γ1, h1, -⟩ := Frz.freeze hm hl hid
      obtain ⟨γ2, h2⟩ := fzL_sound r γ1 _ h1.step.mem h1.step.locs
      exact ⟨γ2, h1.trans h2⟩
    · exact fzL_sound r γ L hm hl
theorem fzV_rep {fz : List Nat} (hl : LocsOK B U ν γ w L) {x : Value} {v : AV} (h : Rep U ν γ w x v) : Rep U ν γ w x (fzV L fz v) := by
  unfold fzV
  split
  · rename_i id
    split
    · split
      · rename_i E l hid
        cases h
        exact hl.ok _ _ hid
      · exact h
    · exact h
  · exact h
theorem map_getD_fz {f : AV → AV} (hf : f .opq = .opq) (cs : List AV) (i : Nat) : (cs.map f).getD i .opq = f (cs.getD i .opq) := by
  simp only [List.getD_eq_getElem?_getD, List.getElem?_map]
  cases cs[i]? <;> simp [hf]
theorem fzT_rep {fz : List Nat} (hl : LocsOK B U ν γ w L) {x : Value} {v : AV} (h : Rep U ν γ w x v) : Rep U ν γ w x (fzT L fz v) := by
  unfold fzT
  split
  · cases h with
    | st xs cs hlen h1 hr =>
      refine .st xs _ (by simpa using hlen) h1 fun i hi => ?_
      rw [map_getD_fz rfl]
      exact fzV_rep hl (hr i (by simpa using hi))
  · exact fzV_rep hl h
theorem fzS_sound {n : Nat} {W : List Nat} {s : AS} {a : Act} : ∀ (fz : List Nat), St B n s a w → St B n (fzS W s fz) a w
  | [], h => h
  | i :: r, h => by
    obtain ⟨ν, γ, h⟩ := h
    obtain ⟨γ', hf⟩ := fzL_sound (i :: r) γ s.locs h.mem h.locs
    have h2 := h.turn hf.step
    have hl2 : LocsOK B s.used ν γ' w (fzL s.locs (i :: r)) := hf.step.locs
    have hbox : ∀ id c, (fzS W s (i :: r)).locs id = some c → ∃ c0, fzL s.locs (i :: r) id = some c0 ∧ LocOK B s.used ν γ' w id c ∧ ∀ b, Owns ν w id c b → Owns ν w id c0 b := by
      intro id c hc
      simp only [fzS] at hc
      split at hc
      · rename_i cs hid
        cases hc
        refine ⟨_, hid, ?_, fun b ho => ho⟩
        obtain ⟨b, xs, e, hr, hlen, hrep⟩ := hl2.ok _ _ hid
        refine ⟨b, xs, e, hr, by simpa using hlen, fun k hk => ?_⟩
        rw [map_getD_fz rfl]
        exact fzV_rep hl2 (hrep k (by simpa using hk))
      · exact ⟨c, hc, hl2.ok _ _ hc, fun b ho => ho⟩
    have henv : ∀ t, ((fzS W s (i :: r)).env t).g = (s.env t).g ∧ (((fzS W s (i :: r)).env t).v = (s.env t).v ∨ ((fzS W s (i :: r)).env t).v = fzT (fzL s.locs (i :: r)) (i :: r) (s.env t).v) := by
      intro t
      simp only [fzS]
      split
      · exact ⟨rfl, .inr rfl⟩
      · exact ⟨rfl, .inl rfl⟩
    have hbool : ∀ t, (match ((fzS W s (i :: r)).env t).v with | .bool b => some b | _ => none) = (match (s.env t).v with | .bool b => some b | _ => none) := by
      intro t
      rcases (henv t).2 with e | e
      · rw [e]
      · rw [e]
        cases hv : (s.env t).v with
        | ls id =>
          simp only [fzT, fzV]
          cases memN (i :: r) id with
          | false => rfl
          | true =>
            simp only
            cases fzL s.locs (i :: r) id with
            | none => rfl
            | some c => cases c <;> rfl
        | _ => rfl
    have hg : ∀ {g : List (Nat × Bool)}, gHolds (fzS W s (i :: r)) g ↔ gHolds s g := by
      intro g
      rw [gHolds_iff, gHolds_iff]
      refine forall_congr' fun x => imp_congr_right fun _ => ?_
      have := hbool x.1
      revert this
      cases h1 : ((fzS W s (i :: r)).env x.1).v <;> cases h2 : (s.env x.1).v <;> simp
      intro e; rw [e]
    refine ⟨ν, γ', h2.defers, h2.size, h2.mem, fun t hgt => ?_, ⟨fun id c hc => (hbox id c hc).choose_spec.2.1, fun id c hc => hl2.used id _ (hbox id c hc).choose_spec.1, fun p q c d b hp hq hop hoq => ?_⟩, fun t x hx y hy => ?_, fun t b hb => ?_, h2.pins⟩
    · rw [hg, (henv t).1] at hgt
      have hr := h2.env t (gHolds_iff.2 ((gHolds_iff (s := s)).1 hgt))
      rcases (henv t).2 with e | e
      · rw [e]; exact hr
      · rw [e]; exact fzT_rep hl2 hr
    · obtain ⟨c0, e1, -, f1⟩ := hbox p c hp
      obtain ⟨d0, e2, -, f2⟩ := hbox q d hq
      exact hl2.apart p q c0 d0 b e1 e2 (f1 b hop) (f2 b hoq)
    · rw [(henv t).1] at hx ⊢
      rw [(henv x.1).1] at hy
      exact h.closed t x hx y hy
    · rw [hg, (henv t).1]; exact h.live t b hb
theorem cov_sound {n : Nat} {s s' : AS} {a0 a : Act} {w0 : World} {ν0 γ0} {W keep : List Nat} {e : List (Nat × AV)} {lo : List (Nat × LC)} {σ : List (Nat × Nat)} (h0 : StP B n s a0 w0 ν0 γ0) (h : StP B n s' a w ν γ)
    (hag : ∀ t, memN W t = false → (s.env t).g = [] → s'.env t = s.env t) (hc : cov σ s s' keep e lo) (hs : sgOk σ s keep lo) : St B n (headS s W keep e lo) a w := by
  let ν' : Nat → Value := fun id => match lookL lo id with | some _ => ν (sg σ id) | none => ν id
  have hν'1 : ∀ id c, lookL lo id = some c → ν' id = ν (sg σ id) := fun id c hl => by show (match lookL lo id with | some _ => ν (sg σ id) | none => ν id) = _; rw [hl]
  have hν'2 : ∀ id, lookL lo id = none → ν' id = ν id := fun id hl => by show (match lookL lo id with | some _ => ν (sg σ id) | none => ν id) = _; rw [hl]
  obtain ⟨hs1, hs2, hs3⟩ := hs
  have sgu : ∀ id, s.used id = true → sg σ id = id := by
    intro id hu
    unfold sg
    split
    · rename_i j hj
      have := hs1 _ (lookL_mem hj)
      simp only at this
      rw [hu] at this; cases this
    · rfl
  let U' := (headS s W keep e lo).used
  have hU1 : ∀ id c, lookL lo id = some c → U' id = true := fun id c hl => by simp only [U', headS, hl]
  have hU2 : ∀ id, s.used id = true → U' id = true := fun id hu => by
    simp only [U', headS]
    split
    · rfl
    · exact hu
  -- names of the state before
  have hold : ∀ id, s.used id = true → U' id = true ∧ ν' id = ν id := by
    intro id hu
    refine ⟨hU2 id hu, ?_⟩
    cases hl : lookL lo id with
    | none => exact hν'2 id hl
    | some c => rw [hν'1 id c hl, sgu id hu]
  have hkeys : ∀ p ∈ lo, p.1 ∈ keysOf lo keep := fun p hp => mem_keysOf.2 (.inl ⟨p.2, hp⟩)
  have hlook : ∀ id c, (id, c) ∈ lo → ∃ c, lookL lo id = some c := by
    intro id c hm
    cases hl : lookL lo id with
    | some c => exact ⟨c, rfl⟩
    | none => exact absurd rfl (lookL_none hl (id, c) hm)
  -- the kept ones
  have hk0 : ∀ id ∈ keep, ∃ c, s.locs id = some c ∧ s'.locs id = some c := by
    have hid : ∀ id ∈ ([] : List Nat), (fun _ => true) id = true ∧ undef = undef := by simp
    -- strip the front of cov
    have strip1 : ∀ {M : List Nat} {e : List (Nat × AV)} {K : Prop}, covE M σ s' e K → K := by
      intro M e
      induction e with
      | nil => intro K h; exact h
      | cons p r ih =>
        intro K h
        obtain ⟨t, v⟩ := p
        simp only [covE] at h
        split at h
        · rename_i u hu
          unfold eqS at h
          split at h
          · exact ih (eqL_iff h).1
          · exact ih h.2
        · exact h.elim
    have strip2 : ∀ {M : List Nat} {lo : List (Nat × LC)} {K : Prop}, covL M σ s' lo K → K := by
      intro M lo
      induction lo with
      | nil => intro K h; exact h
      | cons p r ih =>
        intro K h
        obtain ⟨t, v⟩ := p
        simp only [covL] at h
        split at h
        · rename_i c' hc
          unfold eqC at h
          split at h
          · exact ih (eqL_iff h).1
          · exact ih h.2
          · exact ih h.2
          · exact ih h.2
          · exact ih h.2
          · exact ih h.2
          · exact h.elim
        · exact h.elim
    exact (covK_all (strip2 (strip1 hc))).2
  have hM : ∀ id ∈ keysOf lo keep, U' id = true ∧ ν' id = ν (sg σ id) := by
    intro id hm
    rcases mem_keysOf.1 hm with ⟨c, hm⟩ | hm
    · obtain ⟨c', hl⟩ := hlook id c hm
      exact ⟨hU1 id c' hl, hν'1 id c' hl⟩
    · obtain ⟨c, h1, -⟩ := hk0 id hm
      have hu := h0.locs.used id c h1
      rw [sgu id hu]
      exact hold id hu
  obtain ⟨hc2, hE⟩ := covE_all (U := s'.used) (γ := γ) (w := w) hM hc
  obtain ⟨-, hL⟩ := covL_all (B := B) (U := s'.used) (γ := γ) (w := w) hM hkeys hc2
  -- what the names of the head are
  have hloc : ∀ id c, (headS s W keep e lo).locs id = some c → ∃ c', s'.locs (sg σ id) = some c' ∧ LocOK B U' ν' γ w id c ∧ (∀ b, Owns ν' w id c b → Owns ν w (sg σ id) c' b) ∧ ((∃ c, (id, c) ∈ lo) ∨ (id ∈ keep ∧ sg σ id = id)) := by
    intro id c hc
    simp only [headS] at hc
    split at hc
    · rename_i c2 hl
      cases hc
      obtain ⟨c', h1, h2, h3⟩ := hL id c (lookL_mem hl)
      exact ⟨c', h1, h2 (h.locs.ok _ _ h1), h3, .inl ⟨c, lookL_mem hl⟩⟩
    · rename_i hl
      split at hc
      · rename_i hk
        have hk' := memN_mem.1 hk
        obtain ⟨c1, h1, h2⟩ := hk0 id hk'
        rw [h1] at hc; cases hc
        have hu := h0.locs.used id c h1
        have e1 := sgu id hu
        obtain ⟨-, hν⟩ := hold id hu
        refine ⟨c, by rw [e1]; exact h2, ?_, ?_, .inr ⟨hk', e1⟩⟩
        · have l0 := h0.locs.ok id c h1
          have l1 := h.locs.ok id c h2
          cases c with
          | box cs =>
            obtain ⟨b0, xs0, -, -, -, hr0⟩ := l0
            obtain ⟨b, xs, e2, hr, hl2, hrep⟩ := l1
            exact ⟨b, xs, hν.trans e2, hr, hl2, fun i hi => rep_two (hr0 i hi) (hrep i hi) hold⟩
          | arr E l =>
            obtain ⟨a, cap, e2, hMX, hc, h3⟩ := l1
            refine ⟨a, cap, hν.trans e2, hMX, hc, ?_⟩
            rcases h3 with h3 | ⟨b, xs, e3, hr, hl3, hrep⟩
            · exact .inl h3
            · exact .inr ⟨b, xs, e3, hr, hl3, fun i hi j hj => (hrep i hi j hj).closed (enc_closed _ _ _)⟩
          | frz E l =>
            show Rep _ _ _ _ _ _
            rw [hν]
            exact Rep.closed l1 trivial
          | tree E l =>
            obtain ⟨a, cap, e2, h3⟩ := l1
            exact ⟨a, cap, hν.trans e2, h3⟩
          | raw E l =>
            obtain ⟨bs, hd, h3⟩ := l1
            exact ⟨bs, by rw [hν]; exact hd, h3⟩
          | bld s =>
            obtain ⟨hM, b, x, v, e2, hr, hx, h3⟩ := l1
            exact ⟨hM, b, x, v, hν.trans e2, hr, hx, h3⟩
          | mp l =>
            obtain ⟨hM, b, es, ck, e2, h3⟩ := l1
            exact ⟨hM, b, es, ck, hν.trans e2, h3⟩
        · intro b ho
          rw [e1]
          cases c with
          | box cs => exact hν.symm.trans ho
          | arr E l => obtain ⟨len, cap, e2, hne⟩ := ho; exact ⟨len, cap, hν.symm.trans e2, hne⟩
          | frz E l => exact ho.elim
          | tree E l =>
            rcases ho with ⟨len, cap, e2, hne⟩ | ⟨bs, hd, hb⟩
            · exact .inl ⟨len, cap, hν.symm.trans e2, hne⟩
            · exact .inr ⟨bs, by rw [← hν]; exact hd, hb⟩
          | raw E l =>
            obtain ⟨bs, hd, hb⟩ := ho
            exact ⟨bs, by rw [← hν]; exact hd, hb⟩
          | bld s =>
            rcases ho with ho | ⟨b0, len, cap, e2, hcell, hne⟩
            · exact .inl (hν.symm.trans ho)
            · exact .inr ⟨b0, len, cap, hν.symm.trans e2, hcell, hne⟩
          | mp l => exact hν.symm.trans ho
      · cases hc
  refine ⟨ν', γ, h.defers, h.size, h.mem, fun t hg => ?_, ⟨fun id c hc => ?_, fun id c hc => ?_, fun i j c d b hi hj hoi hoj => ?_⟩, fun t x hx => ?_, fun t b hb => ?_, fun id v hp => ?_⟩
  · show Rep U' ν' γ w _ _
    simp only [headS]
    cases hm : memN W t with
    | true =>
      simp only
      split
      · rename_i v hv
        obtain ⟨u, hu, hr⟩ := hE t v (lookL_mem hv)
        exact hr _ (by
          have := h.env t (by rw [hu]; trivial)
          rwa [hu] at this)
      · exact .opq _
    | false =>
      simp only
      split
      · rename_i v hv
        have e1 := hag t hm (by rw [hv])
        have r0 := h0.env t (by rw [hv]; trivial)
        have r1 := h.env t (by rw [e1, hv]; trivial)
        rw [hv] at r0
        rw [e1, hv] at r1
        exact rep_two r0 r1 hold
      · exact .opq _
  · obtain ⟨-, -, h1, -⟩ := hloc id c hc; exact h1
  · obtain ⟨-, -, -, -, h1⟩ := hloc id c hc
    rcases h1 with ⟨c, h1⟩ | ⟨h1, -⟩
    · obtain ⟨c', hl⟩ := hlook id c h1; exact hU1 id c' hl
    · obtain ⟨c1, h2, -⟩ := hk0 id h1; exact hU2 id (h0.locs.used id c1 h2)
  · obtain ⟨c1, h1, -, h2, h3⟩ := hloc i c hi
    obtain ⟨d1, k1, -, k2, k3⟩ := hloc j d hj
    have heq := h.locs.apart _ _ _ _ b h1 k1 (h2 b hoi) (k2 b hoj)
    have hnd := List.nodup_append.1 hs2
    rcases h3 with ⟨c, h3⟩ | ⟨h3, e1⟩ <;> rcases k3 with ⟨d, k3⟩ | ⟨k3, e2⟩
    · have := nodup_inj (f := fun p : Nat × LC => sg σ p.1) hnd.1 _ h3 _ k3 heq
      exact (Prod.mk.inj this).1
    · exact absurd heq (hnd.2.2 _ (List.mem_map.2 ⟨_, h3, rfl⟩) _ (by rw [e2]; exact k3))
    · exact absurd heq.symm (hnd.2.2 _ (List.mem_map.2 ⟨_, k3, rfl⟩) _ (by rw [e1]; exact h3))
    · rw [← e1, ← e2]; exact heq
  · simp only [headS] at hx
    split at hx
    · split at hx <;> simp at hx
    · split at hx <;> simp at hx
  · have : ((headS s W keep e lo).env t).g = [] := by
      simp only [headS]
      split
      · split <;> rfl
      · split <;> rfl
    rw [this]; trivial
  · obtain ⟨h1, h2⟩ := h0.pins id v hp
    obtain ⟨-, h3⟩ := h.pins id v hp
    obtain ⟨h4, h5⟩ := hold id h1
    exact ⟨h4, h5.trans h3⟩
end Go.Rs
end
section
namespace Go.Rs
variable {P : Program} {B : Base} {U U' U'' : Nat → Bool} {ν ν' ν'' : Nat → Value} {γ γ' γ'' : Nat → Nat} {w w' w'' : World} {L L' L'' : Locs}
def toE : Ex → Exit
  | .normal => .normal
  | .exit id => .exit id
  | .ret => .ret
theorem least {p : Nat → Prop} (h : ∃ n, p n) : ∃ n, p n ∧ ∀ m, p m → n ≤ m := by
  obtain ⟨n, hn⟩ := h
  induction n using Nat.strongRecOn with
  | _ n ih =>
    by_cases hm : ∃ m, m < n ∧ p m
    · obtain ⟨m, h1, h2⟩ := hm; exact ih m h1 h2
    · exact ⟨n, hn, fun m hm' => Nat.le_of_not_lt fun h => hm ⟨m, h, hm'⟩⟩
theorem writes_region {id ops dr} : writes (.region id ops dr) = dsts ops.toList := by
  simp [writes, dsts]
def okCode (O : Nat → List DI) : Code → Bool
  | .region id ops true => okDraw ops.toList (O id)
  | .seq a b | .cond _ a b => okCode O a && okCode O b
  | .block _ a | .loop a => okCode O a
  | _ => true
theorem awp_sound {E : Ctx} (hmix : P.follows .mixedOrders = true) (hE : CtxOK P E) : ∀ (c : Code), okCode E.O c = true → ∀ (Qa : Ex → AS → Prop) (Q : Exit → Act → World → Prop) (s : AS) (a : Act) (w : World), St B E.N s a w → awp E c Qa s →
    (∀ ex s' a w, Qa ex s' → AgreeW (writes c) s s' → St B E.N s' a w → Q (toE ex) a w) → c.wp P Q a w
  | .skip, hok, Qa, Q, s, a, w, h, hk, hQ => wp_skip (hQ .normal s a w hk (.refl _ _) h)
  | .region id ops false, hok, Qa, Q, s, a, w, h, hk, hQ => by
    refine wp_region_list (aops_sound (W := dsts ops.toList) (s0 := s) hE (fun s' a w hk hag h => ?_) ops.toList s a w (fun _ h => h) (.refl _ _) h hk)
    exact hQ .normal s' a w hk (by rw [writes_region]; exact hag) h
  | .region id ops true, hok, Qa, Q, s, a, w, h, hk, hQ => by
    simp only [awp] at hk
    split at hk
    · rename_i hp
      refine draw_sound hE hmix hok hp hk h fun s' a w hk hag hs => ?_
      exact hQ .normal s' a w hk (by rw [writes_region]; exact hag) hs
    · exact hk.elim
  | .seq x y, hok, Qa, Q, s, a, w, h, hk, hQ => by
    refine wp_seq (awp_sound hmix hE x (by simp [okCode] at hok; first | exact hok | exact hok.1) _ _ s a w h hk fun ex s1 a1 w1 hk1 hag1 h1 => ?_)
    cases ex with
    | normal =>
      exact awp_sound hmix hE y (by simp [okCode] at hok; exact hok.2) Qa Q s1 a1 w1 h1 hk1 fun ex s2 a2 w2 hk2 hag2 h2 => hQ ex s2 a2 w2 hk2 (by simp only [writes]; exact hag1.trans hag2) h2
    | exit i => exact hQ (.exit i) s1 a1 w1 hk1 (hag1.mono fun t ht => by simp [writes, ht]) h1
    | ret => exact hQ .ret s1 a1 w1 hk1 (hag1.mono fun t ht => by simp [writes, ht]) h1
  | .cond c x y, hok, Qa, Q, s, a, w, h, hk, hQ => by
    simp only [awp] at hk
    split at hk
    · rename_i ho
      split at hk
      · rename_i t ht
        obtain ⟨ν, γ, h'⟩ := h
        have hr := rep_opnd h' ho (g := []) trivial
        rw [ht] at hr
        refine wp_cond_split (rep_bool hr) (fun e => ?_) (fun e => ?_)
        · exact awp_sound hmix hE x (by simp [okCode] at hok; exact hok.1) Qa Q s a w ⟨ν, γ, h'⟩ (hk.y e) fun ex s2 a2 w2 hk2 hag2 h2 => hQ ex s2 a2 w2 hk2 (hag2.mono fun t ht => by simp [writes, ht]) h2
        · exact awp_sound hmix hE y (by simp [okCode] at hok; exact hok.2) Qa Q s a w ⟨ν, γ, h'⟩ (hk.n e) fun ex s2 a2 w2 hk2 hag2 h2 => hQ ex s2 a2 w2 hk2 (hag2.mono fun t ht => by simp [writes, ht]) h2
      · exact hk.elim
    · exact hk.elim
  | .block id x, hok, Qa, Q, s, a, w, h, hk, hQ => by
    refine wp_block (awp_sound hmix hE x (by simp [okCode] at hok; first | exact hok | exact hok.1) _ _ s a w h hk fun ex s1 a1 w1 hk1 hag1 h1 => ?_)
    cases ex with
    | normal => exact hQ .normal s1 a1 w1 hk1 hag1 h1
    | ret => exact hQ .ret s1 a1 w1 hk1 hag1 h1
    | exit i =>
      simp only [toE, Exit.inBlock]
      simp only at hk1
      split at hk1
      · rename_i hb
        rw [if_pos (Nat.eq_of_beq_eq_true hb)]
        exact hQ .normal s1 a1 w1 hk1 hag1 h1
      · rename_i hb
        rw [if_neg (fun e => by rw [e, Nat.beq_refl] at hb; cases hb)]
        exact hQ (.exit i) s1 a1 w1 hk1 hag1 h1
  | .loop x, hok, Qa, Q, s, a, w, h, hk, hQ => by
    simp only [awp] at hk
    unfold aloop at hk
    obtain ⟨X, I, m, e, lo, keep, x0, σ0, fz0, hI0, hc0, hs0, round⟩ := hk
    obtain ⟨ν0, γ0, h0⟩ := h
    let W := writes x
    let inv : Act → World → Nat → Prop := fun a w k => ∃ y, I y ∧ m y = k ∧ St B E.N (headS s W keep (e y) (lo y)) a w
    have hch : ∀ q : Act × World, ∃ n, (∃ k, inv q.1 q.2 k) → inv q.1 q.2 n ∧ ∀ m, inv q.1 q.2 m → n ≤ m := by
      intro q
      by_cases hex : ∃ k, inv q.1 q.2 k
      · obtain ⟨n, h1, h2⟩ := least hex; exact ⟨n, fun _ => ⟨h1, h2⟩⟩
      · exact ⟨0, fun h => absurd h hex⟩
    obtain ⟨μ', hμ⟩ := Classical.axiomOfChoice hch
    let μ : Act → World → Nat := fun a w => μ' (a, w)
    have μle : ∀ a w k, inv a w k → μ a w ≤ k := fun a w k hk => (hμ (a, w) ⟨k, hk⟩).2 k hk
    have μin : ∀ a w, (∃ k, inv a w k) → inv a w (μ a w) := fun a w hex => (hμ (a, w) hex).1
    have hfz : ∀ (s1 : AS) (fz : List Nat) (t : Nat), memN W t = false → (fzS W s1 fz).env t = s1.env t := fun s1 fz t hm => by
      cases fz with
      | nil => rfl
      | cons i r => simp only [fzS, hm]
    obtain ⟨ν00, γ00, h00⟩ := fzS_sound (W := W) fz0 ⟨ν0, γ0, h0⟩
    refine wp_loop (fun a w => ∃ k, inv a w k) μ ⟨m x0, x0, hI0, rfl, cov_sound h0 h00 (fun t hm _ => hfz s fz0 t hm) hc0 hs0⟩ ?_
    intro a1 w1 hex
    obtain ⟨y, hIy, hmy, hsy⟩ := μin a1 w1 hex
    have headAgree : ∀ {s'}, AgreeW W (headS s W keep (e y) (lo y)) s' → ∀ t, memN W t = false → (s.env t).g = [] → s'.env t = s.env t := by
      intro s' hag t hm hg
      have e1 : (headS s W keep (e y) (lo y)).env t = s.env t := by
        simp only [headS, hm]
        rcases h2 : s.env t with ⟨g, v⟩
        rw [h2] at hg; simp only at hg; subst hg; rfl
      rw [hag t (fun h => by rw [memN_mem.2 h] at hm; cases hm) (by rw [e1]; exact hg), e1]
    have outAgree : ∀ {s'}, AgreeW W (headS s W keep (e y) (lo y)) s' → AgreeW (writes (.loop x)) s s' := by
      intro s' hag t ht hg
      refine headAgree hag t ?_ hg
      cases hm : memN W t with
      | false => rfl
      | true => exact absurd (memN_mem.1 hm) ht
    refine awp_sound hmix hE x (by simp [okCode] at hok; first | exact hok | exact hok.1) _ _ _ a1 w1 hsy (round y hIy) fun ex s2 a2 w2 hk2 hag2 h2 => ?_
    cases ex with
    | normal =>
      obtain ⟨y', σ, fz, hIy', hlt, hc, hs⟩ := hk2
      obtain ⟨ν2, γ2, h2'⟩ := fzS_sound (W := W) fz h2
      have hst := cov_sound h0 h2' (fun t hm hg => (hfz s2 fz t hm).trans (headAgree hag2 t hm hg)) hc hs
      have hin : inv a2 w2 (m y') := ⟨y', hIy', rfl, hst⟩
      exact ⟨⟨_, hin⟩, Nat.lt_of_le_of_lt (μle _ _ _ hin) (by rw [← hmy]; exact hlt)⟩
    | exit i => exact hQ (.exit i) s2 a2 w2 hk2 (outAgree hag2) h2
    | ret => exact hQ .ret s2 a2 w2 hk2 (outAgree hag2) h2
  | .exit id, hok, Qa, Q, s, a, w, h, hk, hQ => wp_exit (hQ (.exit id) s a w hk (.refl _ _) h)
  | .ret, hok, Qa, Q, s, a, w, h, hk, hQ => wp_ret (hQ .ret s a w hk (.refl _ _) h)
  | .scope x, hok, Qa, Q, s, a, w, h, hk, hQ => by simp [awp] at hk
  | .goto l, hok, Qa, Q, s, a, w, h, hk, hQ => by simp [awp] at hk
  | .label l, hok, Qa, Q, s, a, w, h, hk, hQ => by simp [awp] at hk
end Go.Rs
end
section
namespace Go.Rs
variable {P : Program} {B : Base} {U U' U'' : Nat → Bool} {ν ν' ν'' : Nat → Value} {γ γ' γ'' : Nat → Nat} {w w' w'' : World} {L L' L'' : Locs}
def BdC : AV → Prop
  | .str s => s.length ≤ MX
  | .ps _ l => l.length ≤ MX
  | .own _ l => l.length ≤ MX
  | .dp _ l => l.length ≤ MX
  | .wr _ l => l.length ≤ MX
  | _ => True
def BdL : List AV → Prop
  | [] => True
  | v :: r => BdC v ∧ BdL r
def BdA : AV → Prop
  | .st cs => BdL cs
  | .ref cs => BdL cs
  | .rb s => s.length ≤ MX
  | .tup [.st cs] => BdL cs
  | .tup [v] => BdC v
  | v => BdC v
def BdAs : List AV → Prop
  | [] => True
  | v :: r => BdA v ∧ BdAs r
theorem IC.bd {S x v} (h : IC γ w S x v) : BdC v := by
  cases h with
  | per h _ => cases h <;> first | trivial | assumption
  | own0 => exact Nat.zero_le _
  | own E l b cap xs hM => exact hM
  | dp0 => exact Nat.zero_le _
  | dp E l b cap xs bss hM => exact hM
  | wr E l _ _ hd =>
    rcases hd.inv_ps with ⟨h, -⟩ | ⟨_, _, _, _, _, _, _, h, -⟩
    · subst h; exact Nat.zero_le _
    · exact h
theorem ICs.bd {S xs vs} (h : ICs γ w S xs vs) : BdL vs := by
  induction h with
  | nil => trivial
  | cons h _ ih => exact ⟨h.bd, ih⟩
theorem IV.bd {S x v} (h : IV γ w S x v) : BdA v := by
    cases h with
    | cell h =>
      have hb := h.bd
      cases h with
      | per h h1x =>
        have : ∀ {xs : List Value} {cs : List AV}, xs.length = cs.length → (∀ i, i < cs.length → Rep noU noν γ w (xs.getD i undef) (cs.getD i .opq)) → BdL cs := by
          intro xs cs
          induction cs generalizing xs with
          | nil => intro _ _; trivial
          | cons c cs ih =>
            intro hl hr
            cases xs with
            | nil => simp at hl
            | cons x xs =>
              refine ⟨?_, ih (by simpa using hl) fun i hi => by simpa using hr (i + 1) (by simpa using hi)⟩
              have h0 : Rep noU noν γ w x c := by simpa using hr 0 (by simp)
              cases h0 <;> first | trivial | assumption
        cases h with
        | st xs cs hl h1 hr => exact this hl hr
        | tup => simp [Value.oneCell'] at h1x
        | _ => exact hb
      | own0 => exact hb
      | own => exact hb
      | dp0 => exact hb
      | dp => exact hb
      | wr => exact hb
    | st h => exact h.bd
theorem IA.bd {S x v} (h : IA γ w S x v) : BdA v := by
  cases h with
  | val h => exact h.bd
  | ref b hrow h => exact h.bd
  | rb0 b s x hrow hx hs => subst hs; exact Nat.zero_le _
  | rb b b' cap s x xs hrow hx hne hM => exact hM
  | fn f => trivial
  | @len _ _ u h =>
    have hb := h.bd
    have hv := h.val
    cases u <;> first | trivial | exact hb | exact hv.elim
theorem IAs.bd {S xs vs} (h : IAs γ w S xs vs) : BdAs vs := by
  induction h with
  | nil => trivial
  | cons h _ ih => exact ⟨h.bd, ih⟩
theorem IVs.keep {S xs vs} (h : IVs γ w S xs vs) (hk : Keeps γ w γ' w') (hS : ∀ b ∈ S, w'.heap[b]? = w.heap[b]? ∧ γ' b = γ b) : IVs γ' w' S xs vs := by
  induction h with
  | nil => exact .nil
  | cons h _ ih => exact .cons (h.keep hk fun b hb => hS b (by simp [hb])) (ih fun b hb => hS b (by simp [hb]))
theorem giveR_sound {own : Md} : ∀ (vs vs' : List AV) (xs : List Value) (γ : Nat → Nat) (L L' : Locs), Mem B γ w → LocsOK B U ν γ w L → xs.length = vs.length → (∀ i, i < vs.length → Rep U ν γ w (xs.getD i undef) (vs.getD i .opq)) →
    giveR own L vs = some (vs', L') → ∃ γ' S, Handed B U ν γ w L γ' L' S ∧ IVs γ' w S xs vs'
  | [], vs', xs, γ, L, L', hm, hl, hlen, hr, hp => by
    simp only [giveR, Option.some.injEq, Prod.mk.injEq] at hp; obtain ⟨rfl, rfl⟩ := hp
    have : xs = [] := List.length_eq_zero_iff.1 hlen
    subst this
    exact ⟨γ, [], .of_frz (.refl hm hl), .nil⟩
  | v :: r, vs', xs, γ, L, L', hm, hl, hlen, hr, hp => by
    simp only [giveR] at hp
    split at hp
    case h_2 => cases hp
    rename_i v' L1 h1
    split at hp
    case h_2 => cases hp
    rename_i r' L2 h2
    simp only [Option.some.injEq, Prod.mk.injEq] at hp; obtain ⟨rfl, rfl⟩ := hp
    cases xs with
    | nil => simp at hlen
    | cons x xs =>
      have hv := hr 0 (by simp)
      simp at hv
      have hone : ∃ γ1 S1, Handed B U ν γ w L γ1 L1 S1 ∧ IV γ1 w S1 x v' := by
        cases own with
        | ow =>
          obtain ⟨S, h3, h4, h5⟩ := giveS_sound hl hv h1
          exact ⟨γ, S, ⟨hm, h4, .refl _ _, fun _ _ => rfl, h5⟩, h3⟩
        | ln =>
          obtain ⟨S, h3, h4, h5⟩ := giveS_sound hl hv h1
          exact ⟨γ, S, ⟨hm, h4, .refl _ _, fun _ _ => rfl, h5⟩, h3⟩
        | ps =>
          obtain ⟨γ', h3, h4⟩ := persistS_given hm hl hv h1
          exact ⟨γ', [], .of_frz h3, h4⟩
      obtain ⟨γ1, S1, f1, a1⟩ := hone
      obtain ⟨γ2, S2, f2, a2⟩ := giveR_sound r r' xs γ1 L1 L2 f1.mem f1.locs (by simpa using hlen) (fun i hi => by
        have := (hr (i + 1) (by simpa using hi)).keep f1.keeps (fun _ h => h) (fun _ _ => rfl)
        simpa using this) h2
      exact ⟨γ2, S1 ++ S2, f1.trans f2, .cons (a1.keep f2.keeps fun b hb => ⟨rfl, f2.gam b (f1.given.out b hb)⟩) a2⟩
theorem qLoad_addr {t : TI} {x : Value} {v : AV} {r} (h : Rep U ν γ w x v) (hq : qLoad t L v = some r) : ∃ a, x = .pointer (some a) := by
  unfold qLoad at hq
  split at hq
  · cases h; exact ⟨_, rfl⟩
  · cases h; exact ⟨_, rfl⟩
  · cases h; exact ⟨_, rfl⟩
  · cases hq
def resV (tmps : Array Value) : ResultVar → Sem Value
  | .tmp t => pure (tmps.getD t undef)
  | .cell a t => do loadVar t (← asAddr (tmps.getD a undef))
theorem resOf_sound {T : Tab} (hT : TabOK P T) {n : Nat} {s : AS} {a : Act} (h : StP B n s a w ν γ) : ∀ (rvs : List ResultVar) (vs : List AV), resOf T s rvs = some vs →
    ∃ xs : List Value, Sem.run P (rvs.mapM (resV a.tmps)) w = .ok xs w ∧ xs.length = vs.length ∧ ∀ i, i < vs.length → Rep s.used ν γ w (xs.getD i undef) (vs.getD i .opq)
  | [], vs, hr => by
    simp only [resOf, Option.some.injEq] at hr; subst hr
    exact ⟨[], by simp, rfl, by simp⟩
  | rv :: rvs, vs, hr => by
    have step : ∀ {v vs'} {x : Value} {e : Sem Value}, resOf T s rvs = some vs' → e.run P w = .ok x w → Rep s.used ν γ w x v → resV a.tmps rv = e →
        ∃ xs : List Value, Sem.run P ((rv :: rvs).mapM (resV a.tmps)) w = .ok xs w ∧ xs.length = (v :: vs').length ∧ ∀ i, i < (v :: vs').length → Rep s.used ν γ w (xs.getD i undef) ((v :: vs').getD i .opq) := by
      intro v vs' x e h1 h2 h3 h4
      obtain ⟨xs, h5, h6, h7⟩ := resOf_sound hT h rvs vs' h1
      refine ⟨x :: xs, ?_, by simp [h6], fun i hi => ?_⟩
      · rw [List.mapM_cons, h4]
        simp [Sem.run_bind, h2, h5]
      · cases i with
        | zero => simpa using h3
        | succ i => simpa using h7 i (by simpa using hi)
    cases rv with
    | tmp t =>
      simp only [resOf] at hr
      split at hr
      case h_2 => cases hr
      rename_i v hv
      split at hr
      case h_2 => cases hr
      rename_i vs' h1
      cases hr
      have r0 := h.env t (by rw [hv]; trivial)
      rw [hv] at r0
      exact step h1 (show (pure _ : Sem Value).run P w = _ by simp) r0 rfl
    | cell t ty =>
      simp only [resOf] at hr
      split at hr
      case h_2 => cases hr
      rename_i v hv
      split at hr
      case h_2 => cases hr
      rename_i O v' hq
      split at hr
      case h_2 => cases hr
      rename_i vs' h1
      cases hr
      have r0 := h.env t (by rw [hv]; trivial)
      rw [hv] at r0
      obtain ⟨-, y, hy, hry⟩ := qLoad_sound h.locs (hT ty) r0 hq
      obtain ⟨ad, had⟩ := qLoad_addr r0 hq
      refine step h1 ?_ hry rfl
      rw [had] at hy
      show Sem.run P (do loadVar ty (← asAddr (a.tmps.getD t undef))) w = _
      rw [had]
      simpa [Instr.loadAt, Instr.sureAddr, asAddr] using hy
theorem results_run {fn : Func} {tmps : Array Value} {xs : List Value} (h : Sem.run P (fn.results.toList.mapM (resV tmps)) w = .ok xs w) :
    (results fn tmps).run P w = .ok (if h : xs.length = 1 then xs[0] else .tuple xs.toArray) w := by
  have e : results fn tmps = (do
      let vs ← fn.results.mapM (resV tmps)
      pure (if h : vs.size = 1 then vs[0] else .tuple vs)) := by
    unfold results
    congr 1
  rw [e, Array.mapM_eq_mapM_toList]
  simp [h]
end Go.Rs
end
section
namespace Go.Rs
variable {P : Program} {B : Base} {U U' U'' : Nat → Bool} {ν ν' ν'' : Nat → Value} {γ γ' γ'' : Nat → Nat} {w w' w'' : World} {L L' L'' : Locs}
structure Begun (B : Base) (γ : Nat → Nat) (w : World) (tm : Nat → Value) (s : AS) (ν : Nat → Value) : Prop where
  locs : LocsOK B s.used ν γ w s.locs
  env : ∀ t, (s.env t).g = [] ∧ Rep s.used ν γ w (tm t) (s.env t).v
theorem Begun.put {tm : Nat → Value} {s : AS} {p : Nat} {v : AV} (h : Begun B γ w tm s ν) (hl : LocsOK B U' ν' γ w L') (hu : ∀ id, s.used id = true → U' id = true) (hn : ∀ id, s.used id = true → ν' id = ν id) (hr : Rep U' ν' γ w (tm p) v) :
    Begun B γ w tm ⟨putE s.env p ⟨[], v⟩, L', U'⟩ ν' := by
  refine ⟨hl, fun t => ?_⟩
  by_cases e : t = p
  · subst e
    simp only [putE_same]
    exact ⟨trivial, hr⟩
  · simp only
    rw [putE_agree e (h.env t).1]
    exact ⟨(h.env t).1, (h.env t).2.keep (.refl _ _) hu hn⟩
def idR : AV → Nat
  | .lp id _ => id
  | .ls id => id
  | _ => 0
def okR (U : Nat → Bool) (ν : Nat → Value) : AV → Prop
  | .lp id 0 => U id = true ∧ ∃ b, ν id = .pointer (some ⟨b, 0, none⟩)
  | .ls id => U id = true ∧ (ν id).oneCell' = true
  | _ => False
theorem okR_lp {id : Nat} (h1 : U id = true) {b : Nat} (h2 : ν id = .pointer (some ⟨b, 0, none⟩)) : okR U ν (.lp id 0) := ⟨h1, b, h2⟩
theorem okR.used {r} (h : okR U ν r) : U (idR r) = true := by
  unfold okR at h
  split at h
  · exact h.1
  · exact h.1
  · exact h.elim
theorem okR.mono {r} (h : okR U ν r) (hu : ∀ id, U id = true → U' id = true) (hn : ∀ id, U id = true → ν' id = ν id) : okR U' ν' r := by
  unfold okR at h ⊢
  split at h
  · exact ⟨hu _ h.1, by rw [hn _ h.1]; exact h.2⟩
  · exact ⟨hu _ h.1, by rw [hn _ h.1]; exact h.2⟩
  · exact h.elim
theorem okR.rep {r} (h : okR U ν r) (hu : U' (idR r) = true) (hn : ν' (idR r) = ν (idR r)) : Rep U' ν' γ w (ν (idR r)) r := by
  unfold okR at h
  split at h
  · obtain ⟨-, b, hb⟩ := h
    simp only [idR] at hu hn ⊢
    rw [hb]
    exact .lp _ 0 b hu (hn.trans hb)
  · simp only [idR] at hu hn ⊢
    rw [← hn]
    exact .ls _ hu (by rw [hn]; exact h.2)
  · exact h.elim
theorem tgtC_val : ∀ {vs vs' : List AV} {xs : List Value} {L L' : Locs} {U0 U0' : Nat → Bool} {n n' : Nat}, takeL L U0 n vs = some (vs', L', U0', n') → RepL U ν γ w xs vs' →
    (tgtC vs' vs).map (fun r => ν (idR r)) = lentC vs xs ∧ ∀ r ∈ tgtC vs' vs, okR U ν r
  | [], vs', xs, L, L', U0, U0', n, n', h, hr => by
    simp only [takeL, Option.some.injEq, Prod.mk.injEq] at h; obtain ⟨rfl, rfl, rfl, rfl⟩ := h
    cases hr; exact ⟨rfl, by simp [tgtC]⟩
  | v :: r, vs', xs, L, L', U0, U0', n, n', h, hr => by
    simp only [takeL] at h
    split at h
    case h_2 => cases h
    rename_i v' L1 U1 n1 h1
    split at h
    case h_2 => cases h
    rename_i r' L2 U2 n2 h2
    simp only [Option.some.injEq, Prod.mk.injEq] at h; obtain ⟨rfl, rfl, rfl, rfl⟩ := h
    cases hr with
    | cons hx ht =>
      obtain ⟨ih1, ih2⟩ := tgtC_val h2 ht
      cases v with
      | own E l =>
        simp only [take] at h1
        split at h1
        case h_2 => cases h1
        simp only [Option.some.injEq, Prod.mk.injEq] at h1; obtain ⟨rfl, rfl, rfl, rfl⟩ := h1
        cases hx with
        | ls _ hu ho =>
          refine ⟨by simp only [tgtC, lentC, List.map_cons, ih1]; rfl, fun u hu' => ?_⟩
          simp only [tgtC, List.mem_cons] at hu'
          rcases hu' with rfl | hu'
          · exact ⟨hu, ho⟩
          · exact ih2 u hu'
      | dp E l =>
        simp only [take] at h1
        split at h1
        case h_2 => cases h1
        simp only [Option.some.injEq, Prod.mk.injEq] at h1; obtain ⟨rfl, rfl, rfl, rfl⟩ := h1
        cases hx with
        | ls _ hu ho =>
          refine ⟨by simp only [tgtC, lentC, List.map_cons, ih1]; rfl, fun u hu' => ?_⟩
          simp only [tgtC, List.mem_cons] at hu'
          rcases hu' with rfl | hu'
          · exact ⟨hu, ho⟩
          · exact ih2 u hu'
      | wr E l =>
        simp only [take] at h1
        split at h1
        case h_2 => cases h1
        simp only [Option.some.injEq, Prod.mk.injEq] at h1; obtain ⟨rfl, rfl, rfl, rfl⟩ := h1
        cases hx with
        | ls _ hu ho =>
          refine ⟨by simp only [tgtC, lentC, List.map_cons, ih1]; rfl, fun u hu' => ?_⟩
          simp only [tgtC, List.mem_cons] at hu'
          rcases hu' with rfl | hu'
          · exact ⟨hu, ho⟩
          · exact ih2 u hu'
      | _ => exact ⟨ih1, ih2⟩
theorem tgtV_val {S x u v L L' U0 U0' n n'} (h : takeS L U0 n u = some (v, L', U0', n')) (hi : IV γ' w' S x u) (hr : Rep U ν γ w x v) : (tgtV v u).map (fun r => ν (idR r)) = lentV u x ∧ ∀ r ∈ tgtV v u, okR U ν r := by
  cases u with
  | own E l =>
    simp only [takeS, take] at h
    split at h
    case h_2 => cases h
    simp only [Option.some.injEq, Prod.mk.injEq] at h; obtain ⟨rfl, rfl, rfl, rfl⟩ := h
    cases hr with
    | ls _ hu ho =>
      refine ⟨rfl, fun u hu' => ?_⟩
      simp only [tgtV, List.mem_singleton] at hu'
      subst hu'
      exact ⟨hu, ho⟩
  | dp E l =>
    simp only [takeS, take] at h
    split at h
    case h_2 => cases h
    simp only [Option.some.injEq, Prod.mk.injEq] at h; obtain ⟨rfl, rfl, rfl, rfl⟩ := h
    cases hr with
    | ls _ hu ho =>
      refine ⟨rfl, fun u hu' => ?_⟩
      simp only [tgtV, List.mem_singleton] at hu'
      subst hu'
      exact ⟨hu, ho⟩
  | wr E l =>
    simp only [takeS, take] at h
    split at h
    case h_2 => cases h
    simp only [Option.some.injEq, Prod.mk.injEq] at h; obtain ⟨rfl, rfl, rfl, rfl⟩ := h
    cases hr with
    | ls _ hu ho =>
      refine ⟨rfl, fun u hu' => ?_⟩
      simp only [tgtV, List.mem_singleton] at hu'
      subst hu'
      exact ⟨hu, ho⟩
  | st us =>
    simp only [takeS] at h
    split at h
    case h_2 => cases h
    rename_i h1
    simp only [Option.some.injEq, Prod.mk.injEq] at h; obtain ⟨rfl, rfl, rfl, rfl⟩ := h
    cases hr with
    | st ys cs hl h1' hr =>
      exact tgtC_val h1 (repL_of hl hr)
  | _ => cases v <;> exact ⟨rfl, by simp [tgtV]⟩
theorem startA_sound {tm : Nat → Value} : ∀ (args : List AV) (p : Nat) (xs : List Value) (S : List Nat) (s s' : AS) (refs refs' : List AV) (ν : Nat → Value), startA p args s refs = some (s', refs') → IAs γ w S xs args → S.Nodup →
    (∀ b ∈ S, ∀ id c, s.locs id = some c → ¬ Owns ν w id c b) → (∀ b ∈ S, B.ok b) → Begun B γ w tm s ν → (∀ i, i < xs.length → tm (p + i) = xs.getD i undef) → (∀ r ∈ refs, okR s.used ν r) →
    ∃ ν', Begun B γ w tm s' ν' ∧ refs'.map (fun r => ν' (idR r)) = refs.map (fun r => ν (idR r)) ++ refVals args xs ∧ ∀ r ∈ refs', okR s'.used ν' r
  | [], p, xs, S, s, s', refs, refs', ν, hs, hi, hn, hd, hok, hb, htm, hu => by
    cases hi
    simp only [startA, Option.some.injEq, Prod.mk.injEq] at hs; obtain ⟨rfl, rfl⟩ := hs
    exact ⟨ν, hb, by simp [refVals], hu⟩
  | v :: r, p, xs, S, s, s', refs, refs', ν, hs, hi, hn, hd, hok, hb, htm, hu => by
    cases hi with
    | cons hi hr =>
      rename_i S1 S2 x xs
      have hn1 := (List.nodup_append.1 hn).1
      have hn2 := (List.nodup_append.1 hn).2.1
      have hx : tm p = x := by simpa using htm 0 (by simp)
      -- what follows
      have next : ∀ {s1 : AS} {ν1} {ids : List AV}, Taken B s.used ν γ w s.locs s1.used ν1 s1.locs S1 → Begun B γ w tm s1 ν1 → (∀ r ∈ ids, okR s1.used ν1 r) → ids.map (fun r => ν1 (idR r)) = refVals [v] [x] → startA (p + 1) r s1 (refs ++ ids) = some (s', refs') →
          ∃ ν', Begun B γ w tm s' ν' ∧ refs'.map (fun r => ν' (idR r)) = refs.map (fun r => ν (idR r)) ++ refVals (v :: r) (x :: xs) ∧ ∀ r ∈ refs', okR s'.used ν' r := by
        intro s1 ν1 ids ht hb1 hids hmap hs1
        obtain ⟨ν', h1, h2, h3⟩ := startA_sound r (p + 1) xs S2 s1 s' (refs ++ ids) refs' ν1 hs1 hr hn2 (ht.disj hn hd) (fun b hb => hok b (by simp [hb])) hb1
          (fun i hi => by
            have := htm (i + 1) (by simp; omega)
            rw [show p + 1 + i = p + (i + 1) by omega]
            simpa using this)
          (fun id hid => by
            simp at hid
            rcases hid with hid | hid
            · exact (hu id hid).mono ht.used ht.names
            · exact hids id hid)
        refine ⟨ν', h1, ?_, h3⟩
        have e1 : refs.map (fun r => ν1 (idR r)) = refs.map (fun r => ν (idR r)) := List.map_congr_left fun id hid => ht.names _ (hu id hid).used
        have e2 : refVals (v :: r) (x :: xs) = refVals [v] [x] ++ refVals r xs := by
          cases v with
          | tup l =>
            cases l with
            | nil => rfl
            | cons u l =>
              cases l with
              | nil => simp [refVals]
              | cons _ _ => rfl
          | _ => rfl
        rw [h2, List.map_append, e1, hmap, e2, List.append_assoc]
      -- a value
      have val : (∀ cs, v ≠ .ref cs) → (∀ b, v ≠ .rb b) → (∀ u, v ≠ .tup [u]) → IA γ w S1 x v → (match takeS s.locs s.used (1000000 * (p + 1)) v with
          | some (v', L, U, _) => startA (p + 1) r ⟨putE s.env p ⟨[], v'⟩, L, U⟩ refs
          | none => match fnOf v with
            | some u => startA (p + 1) r ⟨putE s.env p ⟨[], u⟩, s.locs, s.used⟩ refs
            | none => none) = some (s', refs') → ∃ ν', Begun B γ w tm s' ν' ∧ refs'.map (fun r => ν' (idR r)) = refs.map (fun r => ν (idR r)) ++ refVals (v :: r) (x :: xs) ∧ ∀ r ∈ refs', okR s'.used ν' r := by
        intro hne1 hne2 hne3 hi hs
        have hrv : refVals [v] [x] = [] := by
          cases v with
          | tup l =>
            cases l with
            | nil => rfl
            | cons u l =>
              cases l with
              | nil => exact absurd rfl (hne3 u)
              | cons _ _ => rfl
          | ref _ => exact absurd rfl (hne1 _)
          | rb _ => exact absurd rfl (hne2 _)
          | _ => rfl
        cases hi with
        | val hi =>
          split at hs
          · rename_i v' L1 U1 n1 ht
            obtain ⟨ν1, t1, r1⟩ := takeS_sound hb.locs hi hn1 (fun b hb => hd b (by simp [hb])) (fun b hb => hok b (by simp [hb])) ht
            exact next (s1 := ⟨putE s.env p ⟨[], v'⟩, L1, U1⟩) (ids := []) t1 (hb.put t1.locs t1.used t1.names (by rw [hx]; exact r1)) (by simp) hrv.symm (by simpa using hs)
          · split at hs
            · rename_i u hu
              unfold fnOf at hu
              split at hu
              · cases hu
                cases hi with
                | cell h => cases h with
                  | per h h1 =>
                    exact next (s1 := ⟨putE s.env p ⟨[], .fn _ _⟩, s.locs, s.used⟩) (ids := []) (Taken.refl hb.locs) (hb.put hb.locs (fun _ h => h) (fun _ _ => rfl) (by rw [hx]; exact noU_rep h)) (by simp) hrv.symm (by simpa using hs)
              · cases hu
            · cases hs
        | ref b hrow h => exact absurd rfl (hne1 _)
        | rb0 b s x hrow hx hs => exact absurd rfl (hne2 _)
        | rb b b' cap s x xs hrow hx hne hMX h0 hc hrow' hl hr => exact absurd rfl (hne2 _)
        | len _ => exact absurd rfl (hne3 _)
        | fn f ys caps hl h =>
          split at hs
          · rename_i ht; simp [takeS, take] at ht
          · simp only [fnOf] at hs
            exact next (s1 := ⟨putE s.env p ⟨[], .fn f caps⟩, s.locs, s.used⟩) (ids := []) (Taken.refl hb.locs) (hb.put hb.locs (fun _ h => h) (fun _ _ => rfl) (by rw [hx]; exact .fn f caps ys hl fun i hi => noU_rep (h i hi))) (by simp) hrv.symm (by simpa using hs)
      cases v with
      | tup l =>
        cases l with
        | nil => simp [startA, takeS, take, fnOf] at hs
        | cons u l =>
          cases l with
          | cons _ _ => simp [startA, takeS, take, fnOf] at hs
          | nil =>
            simp only [startA] at hs
            split at hs
            case h_2 => cases hs
            rename_i v' L1 U1 n1 ht
            cases hi with
            | val h => exact h.val.elim
            | len hi =>
              obtain ⟨ν1, t1, r1⟩ := takeS_sound hb.locs hi hn1 (fun b hb => hd b (by simp [hb])) (fun b hb => hok b (by simp [hb])) ht
              obtain ⟨e3, e4⟩ := tgtV_val ht hi r1
              exact next (s1 := ⟨putE s.env p ⟨[], v'⟩, L1, U1⟩) (ids := tgtV v' u) t1 (hb.put t1.locs t1.used t1.names (by rw [hx]; exact r1)) e4 (by simp [refVals, e3]) hs
      | ref cs =>
        simp only [startA] at hs
        split at hs
        case h_2 => cases hs
        rename_i cs' L1 U1 n1 ht
        split at hs
        case h_2 => cases hs
        rename_i hU
        cases hi with
        | val h => cases h with
          | cell h => cases h with
            | per h _ => exact (rep_val h).elim
        | ref b hrow h =>
          rename_i S0 ys
          have hn1' := List.nodup_cons.1 hn1
          obtain ⟨ν1, t1, hc⟩ := takeL_sound cs cs' ys S0 s.locs L1 s.used U1 ν _ n1 hb.locs h hn1'.2 (fun b hb => hd b (by simp [hb])) (fun b hb => hok b (by simp [hb])) ht
          have hnames : ∀ id, U1 id = true → upd ν1 (1000000 * (p + 1)) (.pointer (some ⟨b, 0, none⟩)) id = ν1 id := fun id hid => by
            rw [upd_ne]; intro e; subst e; rw [hU] at hid; cases hid
          have hused : ∀ id, U1 id = true → upd U1 (1000000 * (p + 1)) true id = true := fun id hid => by
            by_cases e : id = 1000000 * (p + 1)
            · subst e; exact upd_same _ _ _
            · rw [upd_ne _ _ e]; exact hid
          have t2 := Taken.add t1.locs hU (.pointer (some ⟨b, 0, none⟩)) (c := .box cs') (S := [b]) ⟨b, ys, upd_same _ _ _, .of hrow (hok b (by simp)), hc.len, fun i hi => (hc.rep i hi).keep (.refl _ _) hused hnames⟩
            (fun b' ho => by
              have h9 : upd ν1 (1000000 * (p + 1)) (.pointer (some ⟨b, 0, none⟩)) (1000000 * (p + 1)) = .pointer (some ⟨b', 0, none⟩) := ho
              rw [upd_same] at h9
              simp at h9; simp [h9])
            (fun b' hb' id c hc ho => by
              simp at hb'; subst hb'
              rcases t1.own id c _ hc ho with ⟨j, c1, h3, h4⟩ | h3
              · exact hd _ (by simp) j c1 h3 h4
              · exact hn1'.1 h3)
          have t3 := (t1.trans t2).mono (S' := b :: S0) (fun b' hb' => by simp at hb' ⊢; rcases hb' with h | h <;> simp [h])
          refine next (s1 := ⟨putE s.env p ⟨[], .lp (1000000 * (p + 1)) 0⟩, upd L1 (1000000 * (p + 1)) (some (.box cs')), upd U1 (1000000 * (p + 1)) true⟩) (ids := [.lp (1000000 * (p + 1)) 0]) t3 (hb.put t3.locs t3.used t3.names ?_) ?_ ?_ hs
          · rw [hx]; exact .lp _ 0 b (upd_same _ _ _) (upd_same _ _ _)
          · intro id hid; rw [List.mem_singleton] at hid; rw [hid]; exact okR_lp (by dsimp only; rw [upd_same]) (by rw [upd_same])
          · rw [List.map_cons, List.map_nil]; show [upd _ (1000000 * (p + 1)) _ (1000000 * (p + 1))] = _; rw [upd_same]; rfl
      | rb bs =>
        simp only [startA] at hs
        split at hs
        case h_2 => cases hs
        rename_i hU
        have hused : ∀ id, s.used id = true → upd s.used (1000000 * (p + 1)) true id = true := fun id hid => by
          by_cases e : id = 1000000 * (p + 1)
          · subst e; exact upd_same _ _ _
          · rw [upd_ne _ _ e]; exact hid
        have fin : ∀ {b : Nat}, x = .pointer (some ⟨b, 0, none⟩) → LocOK B (upd s.used (1000000 * (p + 1)) true) (upd ν (1000000 * (p + 1)) x) γ w (1000000 * (p + 1)) (.bld bs) →
            (∀ b', Owns (upd ν (1000000 * (p + 1)) x) w (1000000 * (p + 1)) (.bld bs) b' → b' ∈ S1) → ∃ ν', Begun B γ w tm s' ν' ∧ refs'.map (fun r => ν' (idR r)) = refs.map (fun r => ν (idR r)) ++ refVals (.rb bs :: r) (x :: xs) ∧ ∀ r ∈ refs', okR s'.used ν' r := by
          intro b hxb hl ho
          have t2 := Taken.add hb.locs hU x hl ho (fun b' hb' id c hc h => hd b' (by simp [hb']) id c hc h)
          refine next (s1 := ⟨putE s.env p ⟨[], .lp (1000000 * (p + 1)) 0⟩, upd s.locs (1000000 * (p + 1)) (some (.bld bs)), upd s.used (1000000 * (p + 1)) true⟩) (ids := [.lp (1000000 * (p + 1)) 0]) t2 (hb.put t2.locs t2.used t2.names ?_) ?_ ?_ hs
          · rw [hx, hxb]; exact .lp _ 0 b (upd_same _ _ _) (by rw [← hxb]; exact upd_same _ _ _)
          · intro id hid; rw [List.mem_singleton] at hid; rw [hid]; exact okR_lp (by dsimp only; rw [upd_same]) (by rw [upd_same]; exact hxb)
          · rw [List.map_cons, List.map_nil]; show [upd _ (1000000 * (p + 1)) _ (1000000 * (p + 1))] = _; rw [upd_same]; rfl
        cases hi with
        | val h => cases h with
          | cell h => cases h with
            | per h _ => exact (rep_val h).elim
        | rb0 b _ y hrow hy hbs =>
          refine fin rfl ⟨by rw [hbs]; exact Nat.zero_le _, b, y, _, upd_same _ _ _, .of hrow (hok b (by simp)), hy, none, 0, by rw [hbs]; rfl, by rw [hbs]; simp, .inl ⟨rfl, rfl⟩⟩ ?_
          intro b' ho
          rcases ho with ho | ⟨b0, len, cap, e0, hcell, hne⟩
          · rw [upd_same] at ho; simp at ho; simp [ho]
          · rw [upd_same] at e0; simp at e0; subst e0
            obtain ⟨-, -, T, hbb⟩ := hrow
            have := cell_row (k := 1) hbb (by simp)
            rw [hcell] at this
            simp at this
        | rb b b' cap _ y ys hrow hy hne hMX h0 hc hrow' hlen' hr' =>
          refine fin rfl ⟨hMX, b, y, _, upd_same _ _ _, .of hrow (hok b (by simp)), hy, some ⟨b', 0, none⟩, cap, rfl, hc, .inr ⟨b', ys, rfl, hne, .of hrow' (hok b' (by simp)), hlen', hr', h0⟩⟩ ?_
          intro b'' ho
          rcases ho with ho | ⟨b0, len, cap', e0, hcell, hne'⟩
          · rw [upd_same] at ho; simp at ho; simp [ho]
          · rw [upd_same] at e0; simp at e0; subst e0
            obtain ⟨-, -, T, hbb⟩ := hrow
            have := cell_row (k := 1) hbb (by simp)
            rw [hcell] at this
            simp at this
            simp [this.1]
      | _ => exact val (by intro _ e; cases e) (by intro _ e; cases e) (by intro _ e; cases e) hi hs
theorem snd_of_abodyU (u0 : Nat → Bool) {E : Ctx} (hE : CtxOK P E) (hmix : P.follows .mixedOrders = true) {O : Nat → List DI} {f : Nat} {fn : Func} {c : Code} {own : Md} {C : List AV → (AV → List AV → Prop) → Prop} (hf : P.funcs[f]? = some fn) (hb : fn.body = some c) (hO : okCode O c = true)
    (hC : ∀ args K, C args K → BdAs args → args.length ≤ fn.ntmps ∧ abodyU u0 E O own fn c args K) : Snd P f C := by
  intro args K hCK w γ S xs hi hn hfresh htw hts
  have htb : ∀ b, isTab b = true → ¬ b ∈ S := fun b hb hS => by rw [hts b hS] at hb; cases hb
  obtain ⟨hlen, hab⟩ := hC args K hCK hi.bd
  have hlx : xs.length = args.length := by
    clear hn hCK hab hlen hts htb
    induction hi with
    | nil => rfl
    | cons _ _ ih => simp [ih]
  unfold abodyU at hab
  split at hab
  case h_2 => exact hab.elim
  rename_i s refs hst
  let B0 : Base := ⟨w, γ, fun b => b ∈ S, fun _ => none, htw, htb⟩
  let tm : Nat → Value := fun t => (xs.toArray ++ Array.replicate (fn.ntmps - xs.toArray.size) undef).getD t undef
  have htm : ∀ i, i < xs.length → tm (0 + i) = xs.getD i undef := by
    intro i hi
    simp only [tm, Nat.zero_add, Array.getD_eq_getD_getElem?, List.getD_eq_getElem?_getD]
    rw [Array.getElem?_append_left (by simpa using hi)]
    simp
  have hb0 : ∀ (B : Base), Begun B γ w tm (emptyU u0) noν := fun B => ⟨⟨fun id c h => by simp [emptyU] at h, fun id c h => by simp [emptyU] at h, fun i j c d b h => by simp [emptyU] at h⟩, fun t => ⟨rfl, .opq _⟩⟩
  have hok : ∀ b ∈ S, B0.ok b := fun b hb => .inr hb
  obtain ⟨ν, hbg, hmap, hused⟩ := startA_sound (B := B0) args 0 xs S (emptyU u0) s [] refs noν hst hi hn (fun b _ id c h => by simp [emptyU] at h) hok (hb0 B0) htm (by simp)
  let pin : Nat → Option Value := fun id => if id ∈ refs.map idR then some (ν id) else none
  let B1 : Base := ⟨w, γ, fun b => b ∈ S, pin, htw, htb⟩
  have hmem : Mem B1 γ w := ⟨rfl, rfl, rfl, Nat.le_refl _, fun b _ _ => ⟨rfl, rfl⟩, hfresh, .refl _ _⟩
  have hl1 : LocsOK B1 s.used ν γ w s.locs := by
    refine ⟨fun id c hc => ?_, hbg.locs.used, hbg.locs.apart⟩
    have := hbg.locs.ok id c hc
    cases c with
    | box cs => exact this
    | arr E l => exact this
    | frz E l => exact this
    | tree E l =>
      obtain ⟨a, cap, e, hM, hc, h⟩ := this
      refine ⟨a, cap, e, hM, hc, ?_⟩
      rcases h with h | ⟨b, xs, bss, e2, hrow, hlen, hin⟩
      · exact .inl h
      · exact .inr ⟨b, xs, bss, e2, hrow, hlen, ⟨hin.deep, hin.nodup, hin.ok⟩⟩
    | raw E l => exact this
    | bld b => exact this
    | mp l => exact this
  have hst0 : StP B1 fn.ntmps s { tmps := xs.toArray ++ Array.replicate (fn.ntmps - xs.toArray.size) undef, defers := [] } w ν γ := by
    refine ⟨rfl, by simp; omega, hmem, fun t _ => (hbg.env t).2, hl1, fun t x hx => by rw [(hbg.env t).1] at hx; simp at hx, fun t b _ => by rw [(hbg.env t).1]; trivial, fun id v hp => ?_⟩
    simp only [B1, pin] at hp
    split at hp
    · rename_i hid; cases hp; obtain ⟨r, hr, rfl⟩ := List.mem_map.1 hid; exact ⟨(hused r hr).used, rfl⟩
    · cases hp
  refine calls_of_wp hf hb ?_
  -- the end
  have fin : ∀ {s' : AS} {a' : Act} {w' : World}, afin E.T own fn.results.toList refs K s' → St B1 fn.ntmps s' a' w' → a'.defers = [] ∧ ∃ v, (results fn a'.tmps).run P w' = .ok v w' ∧
      ∃ r rs x γ' Sr Sq, K r rs ∧ Ending.returned v = .returned x ∧ IR γ' w' Sr x r ∧ IAs γ' w' Sq (refVals args xs) rs ∧ (Sr ++ Sq).Nodup ∧ Fr S γ w γ' w' ∧ ∀ b ∈ Sr ++ Sq, b ∈ S ∨ w.heap.size ≤ b := by
    rintro s' a' w' hk ⟨ν', γ1, h⟩
    refine ⟨h.defers, ?_⟩
    unfold afin at hk
    split at hk
    case h_2 => exact hk.elim
    rename_i vs hvs
    obtain ⟨ys, hrun, hylen, hyrep⟩ := resOf_sound hE.tab h fn.results.toList vs hvs
    -- the pointers
    have hpin : ∀ r ∈ refs, s'.used (idR r) = true ∧ ν' (idR r) = ν (idR r) := fun r hr => h.pins (idR r) (ν (idR r)) (by
      have : idR r ∈ refs.map idR := List.mem_map.2 ⟨r, hr, rfl⟩
      simp only [B1, pin, this, if_true])
    have hmap' : refs.map (fun r => ν (idR r)) = refVals args xs := by simpa using hmap
    have hrl : RepL s'.used ν' γ1 w' (refVals args xs) refs := by
      rw [← hmap']
      have : ∀ l : List AV, (∀ r ∈ l, r ∈ refs) → RepL s'.used ν' γ1 w' (l.map fun r => ν (idR r)) l := by
        intro l
        induction l with
        | nil => intro _; exact .nil
        | cons r l ih =>
          intro hl
          have hr := hl r (by simp)
          exact .cons ((hused r hr).rep (hpin r hr).1 (hpin r hr).2) (ih fun r hr => hl r (by simp [hr]))
      exact this refs fun _ h => h
    have hlenr := hrl.idx.1
    have hrepr := hrl.idx.2
    split at hk
    case h_2 =>
      split at hk
      case h_2 => exact hk.elim
      rename_i id _
      split at hk
      case h_2 => exact hk.elim
      rename_i cs rs L2 harg
      obtain ⟨y, rfl⟩ := List.length_eq_one_iff.1 (by simpa using hylen)
      obtain ⟨γ3, Sa, hh, hias, -⟩ := argL_sound (.lp id 0 :: refs) (.ref cs :: rs) (y :: refVals args xs) γ1 s'.locs L2 h.mem h.locs (by simpa using hlenr) (fun i hi => by
        cases i with
        | zero => simpa using hyrep 0 (by simp)
        | succ i => simpa using hrepr i (by simpa using hi)) harg
      refine ⟨_, results_run hrun, ?_⟩
      cases hias with
      | cons h1 h2 =>
        rename_i S1 S2
        have hm := hh.mem
        have hend : Fr S γ w γ3 w' := ⟨hm.os, hm.tape, hm.output, hm.size, fun b hb hnb => hm.block b hb hnb, hm.fresh, fun b _ => ⟨hm.keeps.le b, fun o ho => hm.keeps.cell b o ho⟩⟩
        have hok2 : ∀ b ∈ S1 ++ S2, b ∈ S ∨ w.heap.size ≤ b := fun b hb => by
          rcases hh.given.ok b hb with h1 | h1
          · exact .inr h1
          · exact .inl h1
        cases h1 with
        | val h => cases h with
          | cell h => cases h with
            | per h _ => cases h
        | ref b hrow hcs =>
          exact ⟨_, rs, _, γ3, _, S2, hk, rfl, by simpa using IR.ref b hrow hcs, h2, hh.given.nodup, hend, hok2⟩
    rename_i vs' L1 hg
    split at hk
    case h_2 => exact hk.elim
    rename_i rs0 hrs
    obtain ⟨γ2, Sr, hh, hivs⟩ := giveR_sound vs vs' ys γ1 s'.locs L1 h.mem h.locs hylen hyrep hg
    unfold refsOf at hrs
    split at hrs
    case h_2 => cases hrs
    rename_i rs L2 harg
    simp only [Option.some.injEq] at hrs
    subst hrs
    obtain ⟨γ3, Sq, hh2, hias, -⟩ := argL_sound refs rs (refVals args xs) γ2 L1 L2 hh.mem hh.locs hlenr (fun i hi => (hrepr i hi).keep hh.keeps (fun _ h => h) (fun _ _ => rfl)) harg
    have hall := hh.trans hh2
    have hivs' := hivs.keep (γ' := γ3) (w' := w') hh2.keeps fun b hb => ⟨rfl, hh2.gam b (hh.given.out b hb)⟩
    refine ⟨_, results_run hrun, ?_⟩
    have hres : ∃ r, K r rs ∧ IR γ3 w' Sr (if h : ys.length = 1 then ys[0] else .tuple ys.toArray) r := by
      split at hk
      · rename_i v
        cases hivs' with
        | cons h1 h2 =>
          cases h2
          refine ⟨v, hk, ?_⟩
          simp only [List.append_nil, List.length_cons, List.length_nil, Nat.zero_add, ↓reduceDIte, List.getElem_cons_zero]
          exact .one h1
      · rename_i hne
        refine ⟨.tup vs', hk, ?_⟩
        have hl : ys.length ≠ 1 := by
          intro e
          have : vs'.length = 1 := by
            have : ∀ {S xs vs}, IVs γ3 w' S xs vs → xs.length = vs.length := by
              intro S xs vs h
              induction h with
              | nil => rfl
              | cons _ _ ih => simp [ih]
            rw [← this hivs', e]
          obtain ⟨v, hv⟩ := List.length_eq_one_iff.1 this
          exact hne v hv
        rw [dif_neg hl]
        exact .tup hivs'
    obtain ⟨r, hKr, hir⟩ := hres
    refine ⟨r, rs, _, γ3, Sr, Sq, hKr, rfl, hir, hias, hall.given.nodup, ?_, fun b hb => ?_⟩
    · have hm := hall.mem
      exact ⟨hm.os, hm.tape, hm.output, hm.size, fun b hb hnb => hm.block b hb hnb, hm.fresh, fun b _ => ⟨hm.keeps.le b, fun o ho => hm.keeps.cell b o ho⟩⟩
    · rcases hall.given.ok b hb with h1 | h1
      · exact .inr h1
      · exact .inl h1
  refine awp_sound hmix (B := B1) (E := { E with N := fn.ntmps, O := O }) ⟨hE.tab, hE.ctr⟩ c hO _ _ s _ w ⟨ν, γ, hst0⟩ hab ?_
  intro ex s' a' w' hk _ hs
  cases ex with
  | normal => exact fin hk hs
  | ret => exact fin hk hs
  | exit i => exact hk.elim
theorem snd_of_abody {E : Ctx} (hE : CtxOK P E) (hmix : P.follows .mixedOrders = true) {O : Nat → List DI} {f : Nat} {fn : Func} {c : Code} {own : Md} {C : List AV → (AV → List AV → Prop) → Prop} (hf : P.funcs[f]? = some fn) (hb : fn.body = some c) (hO : okCode O c = true)
    (hC : ∀ args K, C args K → BdAs args → args.length ≤ fn.ntmps ∧ abody E O own fn c args K) : Snd P f C := snd_of_abodyU (fun _ => false) hE hmix hf hb hO hC
end Go.Rs
end
section
/-! The type table of a program, checked by one evaluation; contexts out of lists of contracts. -/
namespace Go.Rs
variable {P : Program}
def zB : Value → AV → Bool
  | .int k n, .int k' n' => decide (k = k') && decide (n = n')
  | .bool b, .bool b' => b == b'
  | .string ⟨⟨[]⟩⟩, .str [] => true
  | .slice none 0 0, .nils _ => true
  | .slice none 0 0, .ps _ [] => true
  | .pointer none, .nilp => true
  | _, _ => false
theorem zB_one {x v} (h : zB x v = true) : x.oneCell' = true := by
  unfold zB at h
  split at h <;> first | rfl | cases h
theorem zB_rep {x v} (h : zB x v = true) (U ν γ w) : Rep U ν γ w x v := by
  unfold zB at h
  split at h
  · simp only [Bool.and_eq_true, decide_eq_true_eq] at h
    obtain ⟨rfl, rfl⟩ := h
    exact .int _ _
  · simp at h; subst h; exact .bool _
  · exact .str [] (Nat.zero_le _)
  · exact .nils _
  · exact .ps _ [] none 0 (fun _ => undef) (Nat.zero_le _) (Nat.le_refl _) (.inl rfl) (by simp) (by simp)
  · exact .nilp
  · cases h
def zsB : List Value → List AV → Bool
  | [], [] => true
  | x :: r, v :: s => zB x v && zsB r s
  | _, _ => false
theorem zsB_rep : ∀ {xs : List Value} {vs : List AV}, zsB xs vs = true → xs.length = vs.length ∧ (∀ x ∈ xs, x.oneCell' = true) ∧ ∀ U ν γ w k, k < vs.length → Rep U ν γ w (xs.getD k undef) (vs.getD k .opq)
  | [], [], _ => ⟨rfl, by simp, by simp⟩
  | x :: xs, v :: vs, h => by
    simp only [zsB, Bool.and_eq_true] at h
    obtain ⟨h1, h2, h3⟩ := zsB_rep h.2
    refine ⟨by simp [h1], fun y hy => ?_, fun U ν γ w k hk => ?_⟩
    · simp at hy
      rcases hy with rfl | hy
      · exact zB_one h.1
      · exact h2 y hy
    · cases k with
      | zero => simpa using zB_rep h.1 U ν γ w
      | succ k => simpa using h3 U ν γ w k (by simpa using hk)
  | [], _ :: _, h => by simp [zsB] at h
  | _ :: _, [], h => by simp [zsB] at h
def zeroB (i : TypeInfo) (l : List AV) : Bool := Nat.beq i.size l.length && (match l, i.zero with
  | [v], some x => zB x v
  | _, _ => false)
def fieldsB (P : Program) : List (Nat × Nat) → List Field → Bool
  | [], [] => true
  | (o, t) :: r, f :: fs => Nat.beq o f.offset && Nat.beq t f.type && (match P.info? f.type with | some i => !Nat.beq i.size 0 | none => false) && fieldsB P r fs
  | _, _ => false
theorem fieldsB_iff : ∀ {l : List (Nat × Nat)} {fs : List Field}, fieldsB P l fs = true → l = fs.map (fun f => (f.offset, f.type)) ∧ ∀ f ∈ fs, ∃ i, P.info? f.type = some i ∧ i.size ≠ 0
  | [], [], _ => ⟨rfl, by simp⟩
  | (o, t) :: r, f :: fs, h => by
    simp only [fieldsB, Bool.and_eq_true] at h
    obtain ⟨⟨⟨h1, h2⟩, h3⟩, h4⟩ := h
    obtain ⟨h5, h6⟩ := fieldsB_iff h4
    refine ⟨by rw [List.map_cons, ← h5, Nat.eq_of_beq_eq_true h1, Nat.eq_of_beq_eq_true h2], fun g hg => ?_⟩
    simp at hg
    rcases hg with rfl | hg
    · split at h3
      · rename_i i hi
        exact ⟨i, hi, fun e => by rw [e] at h3; simp at h3⟩
      · cases h3
    · exact h6 g hg
  | [], _ :: _, h => by simp [fieldsB] at h
  | _ :: _, [], h => by simp [fieldsB] at h
def tiB (P : Program) (t : Nat) : TI → Bool
  | .int k => match P.info? t, P.underlying t with
    | some i, some (.int k') => zeroB i [.int k 0] && decide (k' = k)
    | _, _ => false
  | .bool => match P.info? t, P.underlying t with
    | some i, some .bool => zeroB i [.bool false]
    | _, _ => false
  | .str => match P.info? t, P.underlying t with
    | some i, some .string => zeroB i [.str []]
    | _, _ => false
  | .st fs z => match P.info? t, P.underlying t with
    | some i, some (.struct fields) => Nat.beq i.size z.length && (match i.zero with
      | some (.agg zs) => zsB zs.toList z
      | _ => false) && fieldsB P fs fields.toList
    | _, _ => false
  | .sl E => match P.info? t, P.underlying t with
    | some i, some (.slice e) => zeroB i [.nils E] && (match P.info? e with
      | some ei => Nat.beq ei.size (esz E) && (match ei.zero with
        | some z => Nat.beq z.cells.size (esz E) && zsB z.cells.toList (enc E (elDef E))
        | none => false) && Nat.blt 0 ei.bytes && Nat.ble ei.bytes 256 && (match E with
        | .u8 => (match P.underlying e with | some (.int .u8) => true | _ => false)
        | _ => true)
      | none => false)
    | _, _ => false
  | .ptr => match P.info? t, P.underlying t with
    | some i, some (.pointer _) => Nat.beq i.size 1
    | _, _ => false
  | .fn => match P.info? t, P.underlying t with
    | some i, some (.func _ _ _) => Nat.beq i.size 1
    | _, _ => false
  | .mp => match P.info? t, P.underlying t with
    | some i, some (.map kt et) => Nat.beq i.size 1 && (match P.underlying kt, P.underlying et with
      | some .string, some (.int .i64) => (match P.info? et with
        | some ie => (match ie.zero with | some (.int .i64 z) => decide (z = 0) | _ => false)
        | none => false)
      | _, _ => false)
    | _, _ => false
  | .ifc => match P.info? t, P.underlying t with
    | some i, some (.interface _) => Nat.beq i.size 1
    | _, _ => false
  | .other => true
theorem zeroB_iff {i : TypeInfo} {v : AV} (h : zeroB i [v] = true) : i.size = 1 ∧ ∃ x, i.zero = some x ∧ zB x v = true := by
  simp only [zeroB, Bool.and_eq_true] at h
  refine ⟨Nat.eq_of_beq_eq_true h.1, ?_⟩
  have h2 := h.2
  split at h2
  · rename_i e1 e2; cases e1; exact ⟨_, e2, h2⟩
  · cases h2
theorem tiB_ok {t : Nat} {x : TI} (h : tiB P t x = true) : TIOK P t x := by
  cases x with
  | int k =>
    simp only [tiB] at h
    split at h
    case h_2 => cases h
    rename_i i k' hi hu
    simp only [Bool.and_eq_true, decide_eq_true_eq] at h
    obtain ⟨h1, rfl⟩ := h
    obtain ⟨h2, x, h3, h4⟩ := zeroB_iff h1
    refine ⟨i, hi, h2, ?_, hu⟩
    rw [h3]
    unfold zB at h4
    split at h4 <;> simp_all
  | bool =>
    simp only [tiB] at h
    split at h
    case h_2 => cases h
    rename_i i hi hu
    obtain ⟨h2, x, h3, h4⟩ := zeroB_iff h
    refine ⟨i, hi, h2, ?_, hu⟩
    rw [h3]
    unfold zB at h4
    split at h4 <;> simp_all
  | str =>
    simp only [tiB] at h
    split at h
    case h_2 => cases h
    rename_i i hi hu
    obtain ⟨h2, x, h3, h4⟩ := zeroB_iff h
    refine ⟨i, hi, h2, ?_, hu⟩
    rw [h3]
    unfold zB at h4
    split at h4 <;> simp_all
  | st fs z =>
    simp only [tiB] at h
    split at h
    case h_2 => cases h
    rename_i i fields hi hu
    simp only [Bool.and_eq_true] at h
    obtain ⟨⟨h1, h2⟩, h3⟩ := h
    split at h2
    case h_2 => cases h2
    rename_i zs hz
    obtain ⟨h4, h5, h6⟩ := zsB_rep h2
    obtain ⟨h7, h8⟩ := fieldsB_iff h3
    exact ⟨i, fields, zs, hi, Nat.eq_of_beq_eq_true h1, hz, by simpa using h4, h5, h6, hu, h7, fun f hf => h8 f (by simpa using hf)⟩
  | sl E =>
    simp only [tiB] at h
    split at h
    case h_2 => cases h
    rename_i i e hi hu
    simp only [Bool.and_eq_true] at h
    obtain ⟨h1, h2⟩ := h
    split at h2
    case h_2 => cases h2
    rename_i ei hei
    simp only [Bool.and_eq_true] at h2
    obtain ⟨⟨⟨⟨h3, h4⟩, h5⟩, h6⟩, h7⟩ := h2
    split at h4
    case h_2 => cases h4
    rename_i z hz
    simp only [Bool.and_eq_true] at h4
    obtain ⟨h8, h9, h10⟩ := zsB_rep h4.2
    obtain ⟨h11, x, h12, h13⟩ := zeroB_iff h1
    refine ⟨i, e, ei, z, hi, h11, ?_, hu, hei, Nat.eq_of_beq_eq_true h3, hz, Nat.eq_of_beq_eq_true h4.1, h9, fun U ν γ w j hj => h10 U ν γ w j (by rw [enc_len]; exact hj), Nat.lt_of_succ_le (Nat.le_of_ble_eq_true h5), Nat.le_of_ble_eq_true h6, fun hE => ?_⟩
    · rw [h12]
      unfold zB at h13
      split at h13 <;> simp_all
    · subst hE
      simp only at h7
      split at h7
      · assumption
      · cases h7
  | ptr =>
    simp only [tiB] at h
    split at h
    case h_2 => cases h
    rename_i i e hi hu
    exact ⟨i, e, hi, Nat.eq_of_beq_eq_true h, hu⟩
  | fn =>
    simp only [tiB] at h
    split at h
    case h_2 => cases h
    rename_i i a b c hi hu
    exact ⟨i, a, b, c, hi, Nat.eq_of_beq_eq_true h, hu⟩
  | ifc =>
    simp only [tiB] at h
    split at h
    case h_2 => cases h
    rename_i i ms hi hu
    exact ⟨i, ms, hi, Nat.eq_of_beq_eq_true h, hu⟩
  | mp =>
    simp only [tiB] at h
    split at h
    case h_2 => cases h
    rename_i i kt et hi hu
    simp only [Bool.and_eq_true] at h
    obtain ⟨h1, h2⟩ := h
    split at h2
    case h_2 => cases h2
    rename_i hk he
    split at h2
    case h_2 => cases h2
    rename_i ie hie
    split at h2
    case h_2 => cases h2
    rename_i z hz
    have := of_decide_eq_true h2
    subst this
    exact ⟨i, kt, et, hi, Nat.eq_of_beq_eq_true h1, hu, hk, he, ie, hie, hz⟩
  | other => trivial
def tabOf (l : List (Nat × TI)) : Tab := fun t => match lookL l t with | some x => x | none => .other
def tabB (P : Program) : List (Nat × TI) → Bool
  | [] => true
  | (t, x) :: r => tiB P t x && tabB P r
theorem tabB_ok : ∀ {l : List (Nat × TI)}, tabB P l = true → TabOK P (tabOf l)
  | [], _ => fun t => trivial
  | (t, x) :: r, h => fun u => by
    simp only [tabB, Bool.and_eq_true] at h
    have hr := tabB_ok h.2 u
    simp only [tabOf, lookL] at hr ⊢
    cases hb : Nat.beq t u with
    | true => have := Nat.eq_of_beq_eq_true hb; subst this; exact tiB_ok h.1
    | false => exact hr
def mkE (T : Tab) (l : List (Nat × Ctr)) : Ctx := ⟨T, lookL l, 0, fun _ => []⟩
theorem mkE_nil {T : Tab} (h : TabOK P T) : CtxOK P (mkE T []) := ⟨h, fun f c hc => by simp [mkE, lookL] at hc⟩
theorem mkE_cons {T : Tab} {f : Nat} {c : Ctr} {l : List (Nat × Ctr)} (h : CtrOK P f c ∧ Callable P f) (hl : CtxOK P (mkE T l)) : CtxOK P (mkE T ((f, c) :: l)) := by
  refine ⟨hl.tab, fun g d hd => ?_⟩
  simp only [mkE, lookL] at hd
  cases hb : Nat.beq f g with
  | true => rw [hb] at hd; have := Nat.eq_of_beq_eq_true hb; subst this; cases hd; exact h
  | false => rw [hb] at hd; exact hl.ctr g d hd
theorem Snd.of {f : Nat} {C C' : List AV → (AV → List AV → Prop) → Prop} (h : Snd P f C) (hC : ∀ as K, C' as K → C as K) : Snd P f C' := fun as K h' => h as K (hC as K h')
theorem Snd.all {X : Type} {f : Nat} {C : X → List AV → (AV → List AV → Prop) → Prop} {C' : List AV → (AV → List AV → Prop) → Prop} (h : ∀ k, Snd P f (C k)) (hC : ∀ as K, C' as K → ∃ k, C k as K) : Snd P f C' := fun as K h' => by
  obtain ⟨k, hk⟩ := hC as K h'
  exact h k as K hk
theorem callable {f : Nat} {fn : Func} (h : P.funcs[f]? = some fn) (hb : fn.body.isNone = false) (hn : (fn.name == "runtime.NumGoroutine") = false) : Callable P f := ⟨fn, h, hb, hn⟩
theorem pure_ok {E : Ctx} (hE : CtxOK P E) (hmix : P.follows .mixedOrders = true) {O : Nat → List DI} {f : Nat} {fn : Func} {c : Code} {F : List AV → QR} (hf : P.funcs[f]? = some fn) (hb : fn.body = some c) (hn : (fn.name == "runtime.NumGoroutine") = false) (hO : okCode O c = true)
    (hs : ∀ args o v, F args = some (o, v) → Scalar v) (hl : ∀ args o v, F args = some (o, v) → args.length ≤ fn.ntmps)
    (hC : ∀ args o v, F args = some (o, v) → BdAs args → (∀ p, o = some p → p) → ∀ K : AV → List AV → Prop, K v [] → abody E O .ps fn c args K) : CtrOK P f (.pure F) ∧ Callable P f := by
  refine ⟨⟨hs, snd_of_abody (own := .ps) hE hmix hf hb hO fun args K h hbd => ?_⟩, callable hf (by rw [hb]; rfl) hn⟩
  unfold pureC at h
  split at h
  · rename_i o v hq; exact ⟨hl _ _ _ hq, hC _ _ _ hq hbd h.1 K h.2⟩
  · exact h.elim
theorem gen_ok {E : Ctx} (hE : CtxOK P E) (hmix : P.follows .mixedOrders = true) {O : Nat → List DI} {f : Nat} {fn : Func} {c : Code} {own0 own : Md} {C : List AV → (AV → List AV → Prop) → Prop} (hf : P.funcs[f]? = some fn) (hb : fn.body = some c) (hn : (fn.name == "runtime.NumGoroutine") = false) (hO : okCode O c = true)
    (hC : ∀ args K, C args K → BdAs args → args.length ≤ fn.ntmps ∧ abody E O own fn c args K) : CtrOK P f (.gen own0 C) ∧ Callable P f :=
  ⟨snd_of_abody hE hmix hf hb hO hC, callable hf (by rw [hb]; rfl) hn⟩
end Go.Rs
end
section
/-! The cells of structs; small lemmas for the ends of evaluations. -/
namespace Go.Rs
def shC (x : Sh) : List AV := enc .shape x
def itC (x : It) : List AV := enc .item x
def stC (x : Sto) : List AV := [.ps .item x.items, .int .i64 x.clock]
def opC (x : Opn) : List AV := enc .opn x
def chC (x : Chg) : List AV := enc .chg x
def nwC (x : Nws) : List AV := enc .nws x
def flC (x : Flt) : List AV := enc .flt x
def rqC (x : Req) : List AV := enc .req x
def rsC (x : Rsp) : List AV := enc .rsp x
def ordL (l : List (Nat × List DI)) : Nat → List DI := fun r => match lookL l r with | some o => o | none => []
theorem leafB {K : AV → List AV → Prop} {a b : Bool} {rs : List AV} (hK : K (.bool a) rs) (h : a = b) : K (.bool b) rs := h ▸ hK
theorem leafI {K : AV → List AV → Prop} {a b : Int} {rs : List AV} (hK : K (.int .i64 a) rs) (h : a = b) : K (.int .i64 b) rs := h ▸ hK
theorem leafS {K : AV → List AV → Prop} {a b : Bs} {rs : List AV} (hK : K (.str a) rs) (h : a = b) : K (.str b) rs := h ▸ hK
theorem leafV {K : AV → List AV → Prop} {a b : AV} {rs : List AV} (hK : K a rs) (h : a = b) : K b rs := h ▸ hK
theorem getD_nat {β : Type} (l : List β) (k : Nat) (d : β) : l.getD (k : Int).toNat d = l.getD k d := by simp
theorem intEq {M : List Nat} {σ : List (Nat × Nat)} {n m : Int} (h : n = m) : eqA M σ (.int .i64 n) (.int .i64 m) := h
theorem boolEq {M : List Nat} {σ : List (Nat × Nat)} {n m : Bool} (h : n = m) : eqA M σ (.bool n) (.bool m) := h
theorem strEq {M : List Nat} {σ : List (Nat × Nat)} {n m : Bs} (h : n = m) : eqA M σ (.str n) (.str m) := h
theorem eqE_refl {E : El} (l : List (ElT E)) : eqE E E l l := by cases E <;> rfl
theorem psEq {M : List Nat} {σ : List (Nat × Nat)} {E : El} {l m : List (ElT E)} (h : l = m) : eqA M σ (.ps E l) (.ps E m) := h ▸ eqE_refl l
theorem nilEq {M : List Nat} {σ : List (Nat × Nat)} {E : El} {m : List (ElT E)} (h : m.length = 0) : eqA M σ (.nils E) (.ps E m) := ⟨rfl, h⟩
theorem arrEq {E : El} {l m : List (ElT E)} (h : l = m) : eqE E E l m := h ▸ eqE_refl l
theorem it_eta (n : It) : (⟨n.name, n.version, n.node⟩ : It) = n := by cases n; rfl
theorem sto_eta (n : Sto) : (⟨n.items, n.clock⟩ : Sto) = n := by cases n; rfl
theorem op_eta (n : Opn) : (⟨n.kind, n.path, n.frm, n.value⟩ : Opn) = n := by cases n; rfl
theorem ch_eta (n : Chg) : (⟨n.name, n.gone, n.node⟩ : Chg) = n := by cases n; rfl
theorem nw_eta (n : Nws) : (⟨n.name, n.gone, n.node, n.version⟩ : Nws) = n := by cases n; rfl
theorem fl_eta (n : Flt) : (⟨n.path, n.test, n.value⟩ : Flt) = n := by cases n; rfl
theorem rq_eta (n : Req) : (⟨n.method, n.name, n.want, n.avoid, n.body, n.ops⟩ : Req) = n := by cases n; rfl
theorem rs_eta (n : Rsp) : (⟨n.status, n.tag, n.version, n.body⟩ : Rsp) = n := by cases n; rfl
theorem etas : (∀ n : Nd, (⟨n.kind, n.num, n.text, n.names, n.kids⟩ : Nd) = n) ∧ (∀ n : Sh, (⟨n.kind, n.names, n.needs, n.kids⟩ : Sh) = n) ∧ (∀ n : It, (⟨n.name, n.version, n.node⟩ : It) = n) ∧ (∀ n : Sto, (⟨n.items, n.clock⟩ : Sto) = n) ∧
    (∀ n : Opn, (⟨n.kind, n.path, n.frm, n.value⟩ : Opn) = n) ∧ (∀ n : Chg, (⟨n.name, n.gone, n.node⟩ : Chg) = n) ∧ (∀ n : Nws, (⟨n.name, n.gone, n.node, n.version⟩ : Nws) = n) ∧ (∀ n : Flt, (⟨n.path, n.test, n.value⟩ : Flt) = n) ∧
    (∀ n : Req, (⟨n.method, n.name, n.want, n.avoid, n.body, n.ops⟩ : Req) = n) ∧ (∀ n : Rsp, (⟨n.status, n.tag, n.version, n.body⟩ : Rsp) = n) := ⟨nd_eta, sh_eta, it_eta, sto_eta, op_eta, ch_eta, nw_eta, fl_eta, rq_eta, rs_eta⟩
def nodupB : List Nat → Bool
  | [] => true
  | a :: r => !memN r a && nodupB r
theorem nodupB_ok : ∀ {l : List Nat}, nodupB l = true → l.Nodup
  | [], _ => List.nodup_nil
  | a :: r, h => by
    simp only [nodupB, Bool.and_eq_true, Bool.not_eq_true'] at h
    exact List.nodup_cons.2 ⟨fun hm => by rw [mem_of_memN.2 hm] at h; exact absurd h.1 (by simp), nodupB_ok h.2⟩
def unusedB (U : Nat → Bool) : List (Nat × Nat) → Bool
  | [] => true
  | (a, _) :: r => !U a && unusedB U r
def sgB (σ : List (Nat × Nat)) (U : Nat → Bool) (keep ks : List Nat) : Bool := unusedB U σ && nodupB (ks.map (sg σ) ++ keep) && nodupB (ks ++ keep)
theorem sgOk_of {σ : List (Nat × Nat)} {s : AS} {keep : List Nat} {lo : List (Nat × LC)} (h : sgB σ s.used keep (lo.map (·.1)) = true) : sgOk σ s keep lo := by
  simp only [sgB, Bool.and_eq_true] at h
  obtain ⟨⟨h1, h2⟩, h3⟩ := h
  refine ⟨?_, ?_, nodupB_ok h3⟩
  · clear h2 h3
    induction σ with
    | nil => simp
    | cons p r ih =>
      obtain ⟨a, b⟩ := p
      simp only [unusedB, Bool.and_eq_true, Bool.not_eq_true'] at h1
      intro q hq
      simp at hq
      rcases hq with rfl | hq
      · exact h1.1
      · exact ih h1.2 q hq
  · have := nodupB_ok h2
    rw [List.map_map] at this
    exact this
theorem inK_byte (c : UInt8) : inK .i64 (c.toNat : Int) := by
  have := c.toNat_lt
  simp only [inK]; omega
end Go.Rs
end
