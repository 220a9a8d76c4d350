/- A checked evaluator of the model's code, part D. -/
import Derived.Test.YtmgheiagnleeiaaDoorFC
set_option linter.all false
section
namespace Go.Rs
variable {P : Program} {L L' : Locs}
def LSub (L L' : Locs) : Prop := ∀ id c, L id = some c → L' id = some c
theorem LSub.refl (L : Locs) : LSub L L := fun _ _ h => h
theorem rdSl_mono (h : LSub L L') {v r} (hq : rdSl L v = some r) : rdSl L' v = some r := by
  unfold rdSl at hq ⊢
  split at hq
  · exact hq
  · exact hq
  · rename_i id
    split at hq
    · rename_i hid; simp only [h _ _ hid]; exact hq
    · rename_i hid; simp only [h _ _ hid]; exact hq
    · rename_i hid; simp only [h _ _ hid]; exact hq
    · cases hq
  · cases hq
theorem qLoad_mono (h : LSub L L') {t v r} (hq : qLoad t L v = some r) : qLoad t L' v = some r := by
  unfold qLoad at hq ⊢
  split at hq
  · split at hq
    · rename_i hid; simp only [h _ _ hid]; exact hq
    · cases hq
  · exact hq
  · split at hq
    · rename_i hid; simp only [h _ _ hid]; exact hq
    · rename_i hid; simp only [h _ _ hid]; exact hq
    · rename_i hid; simp only [h _ _ hid]; exact hq
    · cases hq
  · cases hq
theorem qLen_mono (h : LSub L L') {t v r} (hq : qLen L t v = some r) : qLen L' t v = some r := by
  unfold qLen at hq ⊢
  split at hq
  · exact hq
  · split at hq
    · rename_i hr; rw [rdSl_mono h hr]; exact hq
    · cases hq
  · cases hq
theorem qConv_mono (h : LSub L L') {a b v r} (hq : qConv L a b v = some r) : qConv L' a b v = some r := by
  unfold qConv at hq ⊢
  split at hq
  · exact hq
  · exact hq
  · exact hq
  · split at hq
    · rename_i hr; rw [rdSl_mono h hr]; exact hq
    · cases hq
  · cases hq
theorem qIdx_mono {T : Tab} {s s' : AS} (h : LSub s.locs s'.locs) {t n v r} (hq : qIdx T s t n v = some r) : qIdx T s' t n v = some r := by
  unfold qIdx at hq ⊢
  split at hq
  · exact hq
  · split at hq
    · rename_i hid hT; simp only [h _ _ hid, hT]; exact hq
    · rename_i hid hT; simp only [h _ _ hid, hT]; exact hq
    · rename_i hid hT; simp only [h _ _ hid, hT]; exact hq
    · cases hq
  · cases hq
theorem qBuild_congr {T : Tab} {fs : List (Nat × Nat)} {s s' : AS} : ∀ (parts : List (Nat × Operand)) (cs : List AV), (∀ p ∈ parts, s'.rd p.2 = s.rd p.2) → qBuild T fs s' cs parts = qBuild T fs s cs parts
  | [], cs, h => rfl
  | (i, x) :: r, cs, h => by
    have ih : ∀ cs, qBuild T fs s' cs r = qBuild T fs s cs r := fun cs => qBuild_congr r cs (fun p hp => h p (by simp [hp]))
    have e : s'.rd x = s.rd x := h (i, x) (by simp)
    simp only [qBuild, seqV_eq, seqL_eq, ih, e]
theorem optI_congr {s s' : AS} {d : Int} {x : Option Operand} (h : ∀ y, x = some y → s'.rd y = s.rd y) : optI s' d x = optI s d x := by
  cases x with
  | none => rfl
  | some y => simp only [optI, h y rfl]
theorem qSlice_congr {t : TI} {s s' : AS} {x : AV} {lo hi : Option Operand} (h1 : ∀ y, lo = some y → s'.rd y = s.rd y) (h2 : ∀ y, hi = some y → s'.rd y = s.rd y) : qSlice t s' x lo hi = qSlice t s x lo hi := by
  unfold qSlice
  split <;> simp only [optI_congr h1, optI_congr h2]
set_option linter.unusedSimpArgs false in
theorem qval_mono {T : Tab} {s s' : AS} {o : Oper} (hr : ∀ x ∈ o.op.operands.toList, s'.rd x = s.rd x) (hL : LSub s.locs s'.locs) {r} (hq : qval T s o = some r) : qval T s' o = some r := by
  obtain ⟨dst, op, type, pos, after, guard⟩ := o
  unfold qval at hq ⊢
  simp only at hq hr ⊢
  cases op with
  | move x => simpa only [hr x (by simp [Op.operands])] using hq
  | assign x => simpa only [hr x (by simp [Op.operands])] using hq
  | pick c a b => simpa only [hr c (by simp [Op.operands]), hr a (by simp [Op.operands]), hr b (by simp [Op.operands])] using hq
  | nilCheck x => simpa only [hr x (by simp [Op.operands])] using hq
  | binOp op t x y ty => simpa only [hr x (by simp [Op.operands]), hr y (by simp [Op.operands])] using hq
  | unOp op t x => cases op <;> simpa only [hr x (by simp [Op.operands])] using hq
  | convert a b x =>
    simp only [hr x (by simp [Op.operands])]
    exact qConv_mono hL hq
  | makeFunc fn first caps =>
    have e : caps.toList.map s'.rd = caps.toList.map s.rd := List.map_congr_left fun x hx => hr x (by simp only [Op.operands, Array.toList_append, List.mem_append]; exact .inr hx)
    simp only [e]
    exact hq
  | slice t x lo hi mx =>
    cases mx with
    | none =>
      simp only [hr x (by simp [Op.operands])]
      rw [qSlice_congr (s := s) (fun y hy => hr y (by subst hy; simp [Op.operands])) (fun y hy => hr y (by subst hy; simp [Op.operands]))]
      exact hq
    | some m => cases hq
  | fieldAddr t x f => simpa only [hr x (by simp [Op.operands])] using hq
  | field t x f => simpa only [hr x (by simp [Op.operands])] using hq
  | indexAddr t x i =>
    simp only [hr x (by simp [Op.operands]), hr i (by simp [Op.operands])]
    simp only at hq
    split at hq
    · exact qIdx_mono hL hq
    · cases hq
  | index t x i => simpa only [hr x (by simp [Op.operands]), hr i (by simp [Op.operands])] using hq
  | extract t i => simpa only [hr t (by simp [Op.operands])] using hq
  | load t x =>
    simp only [hr x (by simp [Op.operands])]
    exact qLoad_mono hL hq
  | build t parts =>
    have e : ∀ fs z, qBuild T fs s' z parts.toList = qBuild T fs s z parts.toList := fun fs z => qBuild_congr _ _ fun p hp => hr p.2 (by simp [Op.operands]; exact ⟨p.1, by simpa using hp⟩)
    simp only [e]
    exact hq
  | call c =>
    obtain ⟨callee, args, ats⟩ := c
    have ha : ∀ x ∈ args.toList, s'.rd x = s.rd x := fun x hx => hr x (by
      simp only [Op.operands, Call.operands, Array.toList_append, List.mem_append]; exact .inr hx)
    simp only at hq ⊢
    split at hq
    · split at hq
      · rename_i x t h1 h2
        simp only [h1, h2, ha x (by rw [h1]; simp)]
        exact qLen_mono hL hq
      · cases hq
    · split at hq
      · rename_i x t h1 h2
        simp only [h1, h2, ha x (by rw [h1]; simp)]
        exact hq
      · cases hq
    · split at hq
      · rename_i x y h1
        simp only [h1, ha x (by rw [h1]; simp), ha y (by rw [h1]; simp)]
        exact hq
      · cases hq
    · split at hq
      · rename_i x y h1
        simp only [h1, ha x (by rw [h1]; simp), ha y (by rw [h1]; simp)]
        exact hq
      · cases hq
    · cases hq
  | lookup t m k ok =>
    cases ok with
    | true => cases hq
    | false =>
      simp only [hr m (by simp [Op.operands]), hr k (by simp [Op.operands])]
      simp only at hq
      split at hq
      · rename_i id b h1 h2 h3
        split at hq
        · rename_i l hl
          simp only [h1, h2, h3, hL _ _ hl]
          exact hq
        · cases hq
      · cases hq
  | _ => cases hq
end Go.Rs
end
section
namespace Go.Rs
variable {P : Program} {L L' : Locs}
theorem LSub.upd (h : LSub L L') (id : Nat) (c : Option LC) : LSub (upd L id c) (upd L' id c) := by
  intro j d hj
  rcases upd_cases hj with ⟨rfl, h'⟩ | ⟨hne, h'⟩
  · rw [upd_same, h']
  · rw [upd_ne _ _ hne]; exact h _ _ h'
theorem persist_mono (h : LSub L L') {v v' L1} (hp : persist L v = some (v', L1)) : ∃ L1', persist L' v = some (v', L1') ∧ LSub L1 L1' := by
  unfold persist at hp ⊢
  split at hp
  · split at hp
    · rename_i hid; cases hp; simp only [h _ _ hid]; exact ⟨_, rfl, h.upd _ _⟩
    · rename_i hid; cases hp; simp only [h _ _ hid]; exact ⟨_, rfl, h⟩
    · rename_i hid; cases hp; simp only [h _ _ hid]; exact ⟨_, rfl, h.upd _ _⟩
    · rename_i hid; cases hp; simp only [h _ _ hid]; exact ⟨_, rfl, h.upd _ _⟩
    · cases hp
  · cases hp; exact ⟨_, rfl, h⟩
  all_goals first | (cases hp; exact ⟨_, rfl, h⟩) | cases hp
theorem persistL_mono : ∀ {vs vs' : List AV} {L L' L1 : Locs}, LSub L L' → persistL L vs = some (vs', L1) → ∃ L1', persistL L' vs = some (vs', L1') ∧ LSub L1 L1'
  | [], vs', L, L', L1, h, hp => by
    simp only [persistL, Option.some.injEq, Prod.mk.injEq] at hp; obtain ⟨rfl, rfl⟩ := hp
    exact ⟨_, rfl, h⟩
  | v :: r, vs', L, L', L1, h, hp => by
    simp only [persistL] at hp ⊢
    split at hp
    case h_2 => cases hp
    rename_i v' L2 h1
    split at hp
    case h_2 => cases hp
    rename_i r' L3 h2
    cases hp
    obtain ⟨L4, h3, h4⟩ := persist_mono h h1
    obtain ⟨L5, h5, h6⟩ := persistL_mono h4 h2
    simp only [h3, h5]
    exact ⟨_, rfl, h6⟩
theorem persistS_mono (h : LSub L L') {v v' L1} (hp : persistS L v = some (v', L1)) : ∃ L1', persistS L' v = some (v', L1') ∧ LSub L1 L1' := by
  unfold persistS at hp ⊢
  split at hp
  · split at hp
    case h_2 => cases hp
    rename_i h1
    cases hp
    obtain ⟨L4, h3, h4⟩ := persistL_mono h h1
    simp only [h3]
    exact ⟨_, rfl, h4⟩
  · exact persist_mono h hp
theorem argL_mono : ∀ {vs vs' : List AV} {L L' L1 : Locs}, LSub L L' → noLp vs = true → argL .ps L vs = some (vs', L1) → ∃ L1', argL .ps L' vs = some (vs', L1') ∧ LSub L1 L1'
  | [], vs', L, L', L1, h, hn, hp => by
    simp only [argL, Option.some.injEq, Prod.mk.injEq] at hp; obtain ⟨rfl, rfl⟩ := hp
    exact ⟨_, rfl, h⟩
  | v :: r, vs', L, L', L1, h, hn, hp => by
    simp only [argL] at hp ⊢
    split at hp
    case h_2 => cases hp
    rename_i v' L2 h1
    split at hp
    case h_2 => cases hp
    rename_i r' L3 h2
    cases hp
    have hn2 : noLp r = true := noLp_tail hn
    have hone : ∃ L4, arg .ps L' v = some (v', L4) ∧ LSub L2 L4 := by
      unfold arg at h1 ⊢
      split at h1
      · simp [noLp] at hn
      · cases h1; exact ⟨_, rfl, h⟩
      · simp [noLp] at hn
      · simp [noLp] at hn
      · cases h1
      · exact persistS_mono h h1
    obtain ⟨L4, h3, h4⟩ := hone
    obtain ⟨L5, h5, h6⟩ := argL_mono h4 hn2 h2
    simp only [h3, h5]
    exact ⟨_, rfl, h6⟩
theorem callOf_congr {s s' : AS} {o : Oper} (hr : ∀ x ∈ o.op.operands.toList, s'.rd x = s.rd x) : callOf s' o = callOf s o := by
  obtain ⟨dst, op, type, pos, after, guard⟩ := o
  unfold callOf
  simp only at hr ⊢
  cases op with
  | call c =>
    obtain ⟨callee, args, ats⟩ := c
    simp only
    cases callee with
    | value f =>
      have ha : args.toList.map s'.rd = args.toList.map s.rd := List.map_congr_left fun x hx => hr x (by
        simp only [Op.operands, Call.operands, Array.toList_append, List.mem_append]; exact .inr hx)
      have hf := hr f (by simp [Op.operands, Call.operands])
      simp only [hf, ha]
    | _ => rfl
  | _ => rfl
theorem qeval_mono {E : Ctx} {s s' : AS} {o : Oper} (hr : ∀ x ∈ o.op.operands.toList, s'.rd x = s.rd x) (hL : LSub s.locs s'.locs) {r} (hq : qeval E s o = some r) : qeval E s' o = some r := by
  unfold qeval at hq ⊢
  rw [callOf_congr hr]
  split at hq
  · split at hq
    · split at hq
      · rename_i ha hn
        obtain ⟨L1', h1, -⟩ := argL_mono hL hn ha
        rw [h1, hn]
        exact hq
      · cases hq
    · cases hq
  · exact qval_mono hr hL hq
def envOnly (o : Oper) : Bool :=
  match o.op with
  | .move _ | .assign _ | .pick _ _ _ | .nilCheck _ | .binOp _ _ _ _ _ | .unOp _ _ _ | .fieldAddr _ _ _ | .field _ _ _ | .extract _ _ | .build _ _ | .index _ _ _ => true
  | _ => false
theorem qeval_env {E : Ctx} {s s' : AS} {o : Oper} (he : envOnly o = true) (hr : ∀ x ∈ o.op.operands.toList, s'.rd x = s.rd x) {r} (hq : qeval E s o = some r) : qeval E s' o = some r := by
  -- the same, with the other's memory
  have h1 : qeval E ⟨s.env, s'.locs, s'.used⟩ o = some r := by
    obtain ⟨dst, op, type, pos, after, guard⟩ := o
    unfold qeval at hq ⊢
    unfold callOf at hq ⊢
    unfold qval at hq ⊢
    cases op <;> simp only [envOnly] at he <;> first | exact hq | cases he | skip
    · rename_i t parts
      simp only at hq ⊢
      have e : ∀ fs z, qBuild E.T fs ⟨s.env, s'.locs, s'.used⟩ z parts.toList = qBuild E.T fs s z parts.toList := fun fs z => qBuild_congr _ _ fun p _ => by cases p.2 <;> rfl
      simp only [e]
      exact hq
    · rename_i u t x
      cases u <;> exact hq
  exact qeval_mono (s := ⟨s.env, s'.locs, s'.used⟩) (s' := s') (fun x hx => (hr x hx).trans (by cases x <;> rfl)) (LSub.refl _) h1
end Go.Rs
end
section
namespace Go.Rs
variable {P : Program} {L L' : Locs}
theorem fresh_congr {s s' : AS} (hL : s'.locs = s.locs) (hU : s'.used = s.used) (d : Nat) (k : LR) : fresh s' d k = fresh s d k := by
  unfold fresh; rw [hL, hU]
theorem partsOf_congr {s s' : AS} : ∀ (parts : List (Nat × Operand)) (k : Nat) (L : Locs) (E : El), (∀ p ∈ parts, s'.rd p.2 = s.rd p.2) → partsOf s' k L parts E = partsOf s k L parts E
  | [], k, L, E, h => rfl
  | (i, x) :: r, k, L, E, h => by
    have ih : ∀ L, partsOf s' (k + 1) L r E = partsOf s (k + 1) L r E := fun L => partsOf_congr r _ _ _ (fun p hp => h p (by simp [hp]))
    have e : s'.rd x = s.rd x := h (i, x) (by simp)
    simp only [partsOf, e, ih]
theorem partsT_congr {s s' : AS} : ∀ (parts : List (Nat × Operand)) (k : Nat) (L : Locs) (E : El), (∀ p ∈ parts, s'.rd p.2 = s.rd p.2) → partsT s' k L parts E = partsT s k L parts E
  | [], k, L, E, h => rfl
  | (i, x) :: r, k, L, E, h => by
    have ih : ∀ L, partsT s' (k + 1) L r E = partsT s (k + 1) L r E := fun L => partsT_congr r _ _ _ (fun p hp => h p (by simp [hp]))
    have e : s'.rd x = s.rd x := h (i, x) (by simp)
    simp only [partsT, e, ih]
set_option linter.unusedSimpArgs false in
theorem lval_congr {T : Tab} {s s' : AS} {o : Oper} (hr : ∀ x ∈ o.op.operands.toList, s'.rd x = s.rd x) (hL : s'.locs = s.locs) (hU : s'.used = s.used) : lval T s' o = lval T s o := by
  obtain ⟨dst, op, type, pos, after, guard⟩ := o
  unfold lval
  simp only at hr ⊢
  cases op with
  | box t x => cases dst <;> simp only [lBox, seqV_eq, fresh_congr hL hU, hL, hU, hr x (by simp [Op.operands])]
  | alloc t => cases dst <;> simp only [lAlloc, seqV_eq, fresh_congr hL hU, hL, hU]
  | buildSlice t n parts =>
    cases dst with
    | none => rfl
    | some d =>
      have e : ∀ k L E, partsOf s' k L parts.toList E = partsOf s k L parts.toList E := fun k L E => partsOf_congr _ _ _ _ fun p hp => hr p.2 (by simp [Op.operands]; exact ⟨p.1, by simpa using hp⟩)
      have eT : ∀ k L E, partsT s' k L parts.toList E = partsT s k L parts.toList E := fun k L E => partsT_congr _ _ _ _ fun p hp => hr p.2 (by simp [Op.operands]; exact ⟨p.1, by simpa using hp⟩)
      simp only [lBuildSlice, lBuildSlice0, isD, e, eT, fresh_congr hL hU, hL, hU]
  | store t x y => cases dst <;> simp only [lStore, lStoreT, seqV_eq, hL, hU, hr x (by simp [Op.operands]), hr y (by simp [Op.operands])]
  | makeSlice t x y => cases dst <;> simp only [lMake, isD, fresh_congr hL hU, hL, hU, hr x (by simp [Op.operands]), hr y (by simp [Op.operands])]
  | slice t x lo hi mx =>
    cases mx with
    | some m => cases dst <;> rfl
    | none =>
      have e : ∀ v, qSlice (T t) s' v lo hi = qSlice (T t) s v lo hi := fun v => qSlice_congr (fun y hy => hr y (by subst hy; simp [Op.operands])) (fun y hy => hr y (by subst hy; simp [Op.operands]))
      have eo : ∀ z, optI s' z hi = optI s z hi := fun z => optI_congr (fun y hy => hr y (by subst hy; simp [Op.operands]))
      cases dst <;> simp only [lSliceD, lSlice, isD, e, eo, fresh_congr hL hU, hL, hU, hr x (by simp [Op.operands])]
  | call c =>
    obtain ⟨callee, args, ats⟩ := c
    cases dst with
    | none => rfl
    | some d =>
      simp only
      split
      · rename_i x y tx ty h1 h2
        simp only [lAppend, lAppendT, lAppend0, fresh_congr hL hU, hL, hU, hr x (by simp [Op.operands, Call.operands, h1]), hr y (by simp [Op.operands, Call.operands, h1])]
      · rename_i x y tx r h1 h2
        simp only [lCopy, hL, hU, hr x (by simp [Op.operands, Call.operands, h1]), hr y (by simp [Op.operands, Call.operands, h1])]
      · rfl
  | makeMap t r => cases r <;> cases dst <;> simp only [lMakeMap, fresh_congr hL hU, hL, hU]
  | mapUpdate t m k v => cases dst <;> simp only [lMapSet, hL, hU, hr m (by simp [Op.operands]), hr k (by simp [Op.operands]), hr v (by simp [Op.operands])]
  | _ => cases dst <;> rfl
def AS.setD (s : AS) (d : Option Nat) (e : Ent) : AS :=
  match d with
  | some d => s.put d e
  | none => s
theorem setK_iff {n : Nat} {s : AS} {d : Option Nat} {g : List (Nat × Bool)} {v : AV} {K : AS → Prop} :
    setK n s d g v K ↔ (∀ d', d = some d' → mentG d' g = false ∧ Nat.blt d' n = true) ∧ K (s.setD d ⟨g, v⟩) := by
  unfold setK
  rw [fv_eq]
  cases d with
  | none => simp [AS.setD]
  | some d =>
    simp only [AS.setD, Option.some.injEq, forall_eq']
    split
    · rename_i h1 h2; simp [h1, h2]
    · rename_i h
      constructor
      · intro h'; exact h'.elim
      · rintro ⟨⟨h1, h2⟩, -⟩; exact absurd h2 (h h1)
def AS.mem (s : AS) (L : Locs) (U : Nat → Bool) : AS := ⟨s.env, L, U⟩
theorem setM_iff {n : Nat} {s : AS} {d : Option Nat} {v : AV} {L U} {K : AS → Prop} :
    setM n s d v L U K ↔ (∀ d', d = some d' → Nat.blt d' n = true) ∧ K ((s.setD d ⟨[], v⟩).mem L U) := by
  unfold setM
  rw [fv_eq]
  cases d with
  | none => simp [AS.setD, AS.mem]
  | some d =>
    simp only [AS.setD, Option.some.injEq, forall_eq']
    split
    · rename_i h2; simp [h2, AS.mem, AS.put]
    · rename_i h; simp [h]
theorem ob_iff {s : AS} {g : List (Nat × Bool)} {O : Option Prop} {K : Prop} : ob s g O K ↔ (gHolds s g → ∀ p, O = some p → p) ∧ K := by
  constructor
  · exact ob_elim
  · rintro ⟨h1, h2⟩
    unfold ob
    split
    · exact h2
    · rename_i O
      split
      · exact ⟨h1 trivial O rfl, h2⟩
      · exact ⟨gImp_iff.2 fun h => ⟨h1 h O rfl⟩, h2⟩
theorem aq_iff {E : Ctx} {ops : List Oper} {o : Oper} {s : AS} {K : AS → Prop} : aq E ops o s K ↔ ∃ g O v, guardsOf ops s o = some g ∧ okOps s g o = true ∧ qeval E s o = some (O, v) ∧ (gHolds s g → ∀ p, O = some p → p) ∧
    (∀ d', o.dst = some d' → mentG d' g = false ∧ Nat.blt d' E.N = true) ∧ K (s.setD o.dst ⟨g, v⟩) := by
  unfold aq
  constructor
  · intro h
    split at h
    case h_2 => exact h.elim
    rename_i g hg
    split at h
    case h_2 => exact h.elim
    rename_i hok
    split at h
    case h_2 => exact h.elim
    rename_i O v hq
    obtain ⟨h1, h2⟩ := ob_iff.1 h
    obtain ⟨h3, h4⟩ := setK_iff.1 h2
    exact ⟨g, O, v, hg, hok, hq, h1, h3, h4⟩
  · rintro ⟨g, O, v, hg, hok, hq, h1, h3, h4⟩
    simp only [hg, hok, hq]
    exact ob_iff.2 ⟨h1, setK_iff.2 ⟨h3, h4⟩⟩
def tmpsOf : List Operand → List Nat
  | [] => []
  | .tmp t :: r => t :: tmpsOf r
  | _ :: r => tmpsOf r
def slotOf (ops : List Oper) (o : Oper) : List Nat :=
  match o.guard with
  | some (j, _) => match nthO ops j with
    | some o' => match o'.dst with
      | some t => [t]
      | none => []
    | none => []
  | none => []
def looks (ops : List Oper) (o : Oper) : List Nat := tmpsOf o.op.operands.toList ++ slotOf ops o
theorem mem_tmpsOf {l : List Operand} {t : Nat} : .tmp t ∈ l → t ∈ tmpsOf l := by
  induction l with
  | nil => simp
  | cons x r ih =>
    intro h
    simp at h
    cases x <;> simp_all [tmpsOf] <;> exact h.imp (fun x => x) ih
theorem rd_of_looks {ops : List Oper} {o : Oper} {s s' : AS} (h : ∀ t ∈ looks ops o, s'.env t = s.env t) : ∀ x ∈ o.op.operands.toList, s'.rd x = s.rd x := by
  intro x hx
  cases x with
  | tmp t => simp only [AS.rd]; rw [h t (by simp [looks, mem_tmpsOf hx])]
  | _ => rfl
theorem nthO_drop : ∀ (l : List Oper) (i : Nat), nthO l i = (l.drop i).head?
  | [], i => by cases i <;> simp [nthO]
  | o :: r, 0 => rfl
  | o :: r, n + 1 => by simp only [nthO, List.drop_succ_cons]; exact nthO_drop r n
theorem guardsOf_congr {ops : List Oper} {o : Oper} {s s' : AS} (h : ∀ t ∈ looks ops o, s'.env t = s.env t) : guardsOf ops s' o = guardsOf ops s o := by
  unfold guardsOf
  cases hg : o.guard with
  | none => rfl
  | some jp =>
    obtain ⟨j, p⟩ := jp
    simp only
    cases hd : ops.drop j with
    | nil => rfl
    | cons o' r =>
      simp only
      cases ht : o'.dst with
      | none => rfl
      | some t =>
        have hm : t ∈ looks ops o := by
          simp only [looks, List.mem_append]
          right
          unfold slotOf
          simp only [hg]
          rw [nthO_drop, hd]
          simp [ht]
        simp only [h t hm]
theorem okOpnds_congr {s s' : AS} {g : List (Nat × Bool)} : ∀ {l : List Operand}, (∀ t ∈ tmpsOf l, s'.env t = s.env t) → okOpnds s' g l = okOpnds s g l
  | [], h => rfl
  | x :: r, h => by
    simp only [okOpnds]
    rw [okOpnds_congr (l := r) (fun t ht => h t (by cases x <;> simp [tmpsOf, ht]))]
    cases x with
    | tmp t => simp only [okOpnd]; rw [h t (by simp [tmpsOf])]
    | _ => rfl
theorem okOpnd_congr {s s' : AS} {g : List (Nat × Bool)} {x : Operand} (h : ∀ t ∈ tmpsOf [x], s'.env t = s.env t) : okOpnd s' g x = okOpnd s g x := by
  cases x with
  | tmp t => simp only [okOpnd]; rw [h t (by simp [tmpsOf])]
  | _ => rfl
theorem okOps_congr {ops : List Oper} {o : Oper} {s s' : AS} {g : List (Nat × Bool)} (h : ∀ t ∈ looks ops o, s'.env t = s.env t) : okOps s' g o = okOps s g o := by
  have h1 : ∀ t ∈ tmpsOf o.op.operands.toList, s'.env t = s.env t := fun t ht => h t (by simp [looks, ht])
  obtain ⟨dst, op, type, pos, after, guard⟩ := o
  unfold okOps
  simp only at h1 ⊢
  cases op with
  | pick c a b =>
    have ha : okOpnd s' = okOpnd s ∨ True := .inr trivial
    have e2 : ∀ g, okOpnd s' g a = okOpnd s g a := fun g => okOpnd_congr fun t ht => h1 t (by
      cases a <;> simp [tmpsOf] at ht
      subst ht
      exact mem_tmpsOf (by simp [Op.operands]))
    have e3 : ∀ g, okOpnd s' g b = okOpnd s g b := fun g => okOpnd_congr fun t ht => h1 t (by
      cases b <;> simp [tmpsOf] at ht
      subst ht
      exact mem_tmpsOf (by simp [Op.operands]))
    cases c with
    | tmp c =>
      have e1 : okOpnd s' g (.tmp c) = okOpnd s g (.tmp c) := okOpnd_congr fun t ht => h1 t (by
        simp [tmpsOf] at ht
        subst ht
        exact mem_tmpsOf (by simp [Op.operands]))
      simp only [e1, e2, e3]
    | _ => exact okOpnds_congr h1
  | _ => exact okOpnds_congr h1
theorem gHolds_congr {s s' : AS} {g : List (Nat × Bool)} (h : ∀ x ∈ g, s'.env x.1 = s.env x.1) : gHolds s' g ↔ gHolds s g := by
  rw [gHolds_iff, gHolds_iff]
  exact forall_congr' fun x => imp_congr_right fun hx => by rw [h x hx]
end Go.Rs
end
section
namespace Go.Rs
variable {P : Program} {L L' : Locs}
def Unmen (s : AS) (W : List Nat) : Prop := ∀ t, ∀ y ∈ (s.env t).g, y.1 ∉ W
theorem mentG_of {d : Nat} {g : List (Nat × Bool)} (h : ∀ y ∈ g, y.1 ≠ d) : mentG d g = false := by
  induction g with
  | nil => rfl
  | cons x g ih =>
    obtain ⟨t, p⟩ := x
    simp only [mentG]
    have : Nat.beq t d = false := by
      cases e : Nat.beq t d with
      | true => exact absurd (Nat.eq_of_beq_eq_true e) (h (t, p) (by simp))
      | false => rfl
    rw [this]
    exact ih fun y hy => h y (by simp [hy])
theorem setD_env {s : AS} {W : List Nat} {d : Option Nat} {e : Ent} (hF : Unmen s W) (hd : ∀ d', d = some d' → d' ∈ W) (t : Nat) : (s.setD d e).env t = if d = some t then e else s.env t := by
  cases d with
  | none => simp [AS.setD]
  | some d =>
    simp only [AS.setD, AS.put, Option.some.injEq]
    split
    · rename_i h; subst h; exact putE_same _ _ _
    · rename_i h
      rw [putE_ne _ _ (Ne.symm h)]
      rcases purge_cases d (s.env t) with ⟨_, h2⟩ | h2
      · exact h2
      · have : mentG d (s.env t).g = false := mentG_of fun y hy e => hF t y hy (by rw [e]; exact hd d rfl)
        rcases hs : s.env t with ⟨g2, v2⟩
        rw [hs] at this
        unfold purge; simp only at this ⊢; rw [this]
theorem setD_locs {s : AS} {d : Option Nat} {e : Ent} : (s.setD d e).locs = s.locs := by cases d <;> rfl
theorem setD_used {s : AS} {d : Option Nat} {e : Ent} : (s.setD d e).used = s.used := by cases d <;> rfl
theorem AS.ext' {s s' : AS} (h1 : ∀ t, s.env t = s'.env t) (h2 : s.locs = s'.locs) (h3 : s.used = s'.used) : s = s' := by
  obtain ⟨e, l, u⟩ := s
  obtain ⟨e', l', u'⟩ := s'
  simp only at h1 h2 h3
  have : e = e' := funext h1
  subst this; subst h2; subst h3; rfl
def Mono (C : List AV → (AV → List AV → Prop) → Prop) : Prop := ∀ as K K', (∀ r rs, K r rs → K' r rs) → C as K → C as K'
def CtxMono (E : Ctx) : Prop := ∀ f own C, E.C f = some (.gen own C) → Mono C
theorem aq_move {E : Ctx} {ops : List Oper} {o : Oper} {s s' : AS} {K K' : AS → Prop} (hlook : ∀ t ∈ looks ops o, s'.env t = s.env t) (hL : LSub s.locs s'.locs) (hg : ∀ g, guardsOf ops s o = some g → ∀ y ∈ g, s'.env y.1 = s.env y.1)
    (h : aq E ops o s K) (hK : ∀ g v, guardsOf ops s o = some g → K (s.setD o.dst ⟨g, v⟩) → K' (s'.setD o.dst ⟨g, v⟩)) : aq E ops o s' K' := by
  obtain ⟨g, O, v, h1, h2, h3, h4, h5, h6⟩ := aq_iff.1 h
  exact aq_iff.2 ⟨g, O, v, by rw [guardsOf_congr hlook]; exact h1, by rw [okOps_congr hlook]; exact h2, qeval_mono (rd_of_looks hlook) hL h3, fun h => h4 ((gHolds_congr (hg g h1)).1 h), h5, hK g v h1 h6⟩
theorem al_move {E : Ctx} {ops : List Oper} {o : Oper} {s s' : AS} {K K' : AS → Prop} (hm : CtxMono E) (hlook : ∀ t ∈ looks ops o, s'.env t = s.env t) (hL : s'.locs = s.locs) (hU : s'.used = s.used)
    (h : al E o s K) (hK : ∀ v L U, K ((s.setD o.dst ⟨[], v⟩).mem L U) → K' ((s'.setD o.dst ⟨[], v⟩).mem L U)) : al E o s' K' := by
  have hr := rd_of_looks hlook
  have hM : ∀ {v L U}, setM E.N s o.dst v L U K → setM E.N s' o.dst v L U K' := fun h => setM_iff.2 ⟨(setM_iff.1 h).1, hK _ _ _ (setM_iff.1 h).2⟩
  unfold al at h ⊢
  rw [okOps_congr hlook, callOf_congr hr, lval_congr hr hL hU, hL, hU]
  split at h
  case h_2 => exact h.elim
  split at h
  case h_2 => exact h.elim
  split at h
  · split at h
    · rename_i own C hC
      split at h
      · refine hm _ _ _ hC _ _ _ (fun r rs hk => ?_) h
        split at hk
        · split at hk
          · exact hM hk
          · exact hk
        · exact hk
      · exact h
    · exact h
  · split at h
    · exact h.elim
    · rename_i hq
      have hq' : qval E.T s' o = none := by
        cases h9 : qval E.T s' o with
        | none => rfl
        | some r =>
          have := qval_mono (s := s') (s' := s) (fun x hx => (hr x hx).symm) (by rw [hL]; exact LSub.refl _) h9
          rw [this] at hq; cases hq
      rw [hq']
      simp only
      split at h
      · rename_i O v L U hl
        exact ob_iff.2 ⟨(ob_iff.1 h).1, hM (ob_iff.1 h).2⟩
      · exact h
theorem al_mono {E : Ctx} {o : Oper} {s : AS} {K K' : AS → Prop} (hm : CtxMono E) (h : al E o s K) (hK : ∀ v L U, K ((s.setD o.dst ⟨[], v⟩).mem L U) → K' ((s.setD o.dst ⟨[], v⟩).mem L U)) : al E o s K' :=
  al_move (ops := []) hm (fun _ _ => rfl) rfl rfl h hK
structure Apart (ops : List Oper) (W : List Nat) (x y : Oper) : Prop where
  xw : ∀ d, x.dst = some d → d ∈ W
  yw : ∀ d, y.dst = some d → d ∈ W
  xy : ∀ d, x.dst = some d → d ∉ looks ops y
  yx : ∀ d, y.dst = some d → d ∉ looks ops x
  ne : ∀ d, x.dst = some d → y.dst ≠ some d
  xx : ∀ d, x.dst = some d → d ∉ looks ops x
  gx : ∀ t ∈ slotOf ops x, t ∉ W
  gy : ∀ t ∈ slotOf ops y, t ∉ W
theorem guards_out {ops : List Oper} {o : Oper} {s : AS} {W : List Nat} {g} (hF : Unmen s W) (hs : ∀ t ∈ slotOf ops o, t ∉ W) (hg : guardsOf ops s o = some g) : ∀ y ∈ g, y.1 ∉ W := by
  unfold guardsOf at hg
  split at hg
  · cases hg; simp
  · rename_i j p hgd
    split at hg
    case h_2 => cases hg
    rename_i o' r hd
    split at hg
    case h_2 => cases hg
    rename_i t ht
    split at hg
    case h_2 => cases hg
    rw [seqG_eq] at hg
    cases hg
    intro y hy
    simp at hy
    rcases hy with rfl | hy
    · refine hs t ?_
      unfold slotOf
      simp only [hgd]
      rw [nthO_drop, hd]
      simp [ht]
    · exact hF t y hy
theorem setD_comm {s : AS} {W : List Nat} {dx dy : Option Nat} {ex ey : Ent} (hF : Unmen s W) (hx : ∀ d, dx = some d → d ∈ W) (hy : ∀ d, dy = some d → d ∈ W) (hne : ∀ d, dx = some d → dy ≠ some d) (hex : ∀ y ∈ ex.g, y.1 ∉ W) (hey : ∀ y ∈ ey.g, y.1 ∉ W) :
    (s.setD dx ex).setD dy ey = (s.setD dy ey).setD dx ex := by
  have F1 : Unmen (s.setD dx ex) W := by
    intro t y h
    rw [setD_env hF hx] at h
    split at h
    · exact hex y h
    · exact hF t y h
  have F2 : Unmen (s.setD dy ey) W := by
    intro t y h
    rw [setD_env hF hy] at h
    split at h
    · exact hey y h
    · exact hF t y h
  refine AS.ext' (fun t => ?_) (by simp only [setD_locs]) (by simp only [setD_used])
  rw [setD_env F1 hy, setD_env F2 hx, setD_env hF hx, setD_env hF hy]
  by_cases h1 : dx = some t
  · have := hne t h1
    simp [h1, this]
  · simp [h1]
theorem Unmen.setD {s : AS} {W : List Nat} {d : Option Nat} {e : Ent} (hF : Unmen s W) (hd : ∀ d', d = some d' → d' ∈ W) (he : ∀ y ∈ e.g, y.1 ∉ W) : Unmen (s.setD d e) W := by
  intro t y h
  rw [setD_env hF hd] at h
  split at h
  · exact he y h
  · exact hF t y h
theorem aq_aq {E : Ctx} {ops : List Oper} {x i : Oper} {s : AS} {W : List Nat} {K : AS → Prop} (ha : Apart ops W x i) (hF : Unmen s W) (h : aq E ops x s fun s1 => aq E ops i s1 K) : aq E ops i s fun s2 => aq E ops x s2 K := by
  obtain ⟨gx, Ox, vx, h1, h2, h3, h4, h5, h6⟩ := aq_iff.1 h
  have hgx := guards_out hF ha.gx h1
  have F1 : Unmen (s.setD x.dst ⟨gx, vx⟩) W := hF.setD ha.xw hgx
  have e1 : ∀ t, x.dst ≠ some t → (s.setD x.dst ⟨gx, vx⟩).env t = s.env t := fun t ht => by rw [setD_env hF ha.xw, if_neg ht]
  refine aq_move (s := s.setD x.dst ⟨gx, vx⟩) (fun t ht => (e1 t (fun e => ha.xy t e ht)).symm) (by rw [setD_locs]; exact LSub.refl _) (fun g hg y hy => (e1 y.1 (fun e => guards_out F1 ha.gy hg y hy (ha.xw _ e))).symm) h6 ?_
  intro g v hg hk
  have hgy := guards_out F1 ha.gy hg
  have e2 : ∀ t, i.dst ≠ some t → (s.setD i.dst ⟨g, v⟩).env t = s.env t := fun t ht => by rw [setD_env hF ha.yw, if_neg ht]
  refine aq_iff.2 ⟨gx, Ox, vx, ?_, ?_, ?_, fun h => h4 ((gHolds_congr (fun y hy => ?_)).1 h), h5, ?_⟩
  · rw [guardsOf_congr (s := s) fun t ht => e2 t (fun e => ha.yx t e ht)]; exact h1
  · rw [okOps_congr (ops := ops) (s := s) fun t ht => e2 t (fun e => ha.yx t e ht)]; exact h2
  · exact qeval_mono (rd_of_looks (ops := ops) fun t ht => e2 t (fun e => ha.yx t e ht)) (by rw [setD_locs]; exact LSub.refl _) h3
  · exact e2 y.1 (fun e => hgx y hy (ha.yw _ e))
  · rw [← setD_comm hF ha.xw ha.yw ha.ne hgx hgy]; exact hk
end Go.Rs
end
section
namespace Go.Rs
variable {P : Program} {L L' : Locs}
def RC (E : Ctx) (o : Oper) (s : AS) : Prop := ∃ d O v, o.dst = some d ∧ qeval E s o = some (O, v) ∧ (gHolds s (s.env d).g → ∀ p, O = some p → p) ∧ v = (s.env d).v
theorem rechk_all {E : Ctx} {ops : List Oper} : ∀ {re : List Nat} {s : AS} {K : Prop}, rechk E ops re s K → K ∧ ∀ j ∈ re, ∃ o, nthO ops j = some o ∧ RC E o s
  | [], s, K, h => ⟨h, by simp⟩
  | j :: r, s, K, h => by
    simp only [rechk] at h
    split at h
    case h_2 => exact h.elim
    rename_i o ho
    split at h
    case h_2 => exact h.elim
    rename_i d hd
    split at h
    case h_2 => exact h.elim
    rename_i O v hq
    obtain ⟨h1, h2⟩ := ob_iff.1 h
    rw [fv_eq] at h2
    obtain ⟨h3, h4⟩ := h2
    obtain ⟨h5, h6⟩ := rechk_all h4
    refine ⟨h5, fun j' hj => ?_⟩
    simp at hj
    rcases hj with rfl | hj
    · exact ⟨o, ho, d, O, v, hd, hq, h1, h3⟩
    · exact h6 j' hj
theorem mem_setD {s : AS} {d : Option Nat} {e : Ent} {L : Locs} {U} : (s.mem L U).setD d e = (s.setD d e).mem L U := by cases d <;> rfl
theorem aq_al {E : Ctx} {ops : List Oper} {x i : Oper} {s : AS} {W : List Nat} {K R : AS → Prop} (hm : CtxMono E) (ha : Apart ops W x i) (hF : Unmen s W)
    (hR : ∀ s2, R s2 → envOnly x = true ∨ RC E x s2 ∨ LSub s.locs s2.locs) (h : aq E ops x s fun s1 => al E i s1 fun s2 => R s2 ∧ K s2) : al E i s fun s2 => aq E ops x s2 fun s3 => R s3 ∧ K s3 := by
  obtain ⟨gx, Ox, vx, h1, h2, h3, h4, h5, h6⟩ := aq_iff.1 h
  have hgx := guards_out hF ha.gx h1
  have F1 : Unmen (s.setD x.dst ⟨gx, vx⟩) W := hF.setD ha.xw hgx
  have e1 : ∀ t, x.dst ≠ some t → (s.setD x.dst ⟨gx, vx⟩).env t = s.env t := fun t ht => by rw [setD_env hF ha.xw, if_neg ht]
  refine al_move (ops := ops) hm (s := s.setD x.dst ⟨gx, vx⟩) (fun t ht => (e1 t (fun e => ha.xy t e ht)).symm) setD_locs.symm setD_used.symm h6 ?_
  rintro v L U ⟨hr, hk⟩
  have e2 : ∀ t, i.dst ≠ some t → ((s.setD i.dst ⟨[], v⟩).mem L U).env t = s.env t := fun t ht => by
    show (s.setD i.dst ⟨[], v⟩).env t = _
    rw [setD_env hF ha.yw, if_neg ht]
  have est : ((s.setD i.dst ⟨[], v⟩).mem L U).setD x.dst ⟨gx, vx⟩ = ((s.setD x.dst ⟨gx, vx⟩).setD i.dst ⟨[], v⟩).mem L U := by
    rw [mem_setD, setD_comm hF ha.xw ha.yw ha.ne hgx (by simp)]
  have hlx : ∀ t ∈ looks ops x, ((s.setD i.dst ⟨[], v⟩).mem L U).env t = s.env t := fun t ht => e2 t (fun e => ha.yx t e ht)
  have hgg : ∀ y ∈ gx, ((s.setD i.dst ⟨[], v⟩).mem L U).env y.1 = s.env y.1 := fun y hy => e2 y.1 (fun e => hgx y hy (ha.yw _ e))
  have fin : ∀ O, qeval E ((s.setD i.dst ⟨[], v⟩).mem L U) x = some (O, vx) → (gHolds s gx → ∀ p, O = some p → p) → aq E ops x ((s.setD i.dst ⟨[], v⟩).mem L U) fun s3 => R s3 ∧ K s3 := by
    intro O hq hO
    refine aq_iff.2 ⟨gx, O, vx, by rw [guardsOf_congr (s := s) hlx]; exact h1, by rw [okOps_congr (ops := ops) (s := s) hlx]; exact h2, hq, fun h => hO ((gHolds_congr hgg).1 h), h5, ?_⟩
    rw [est]; exact ⟨hr, hk⟩
  rcases hR _ hr with h7 | h7 | h7
  · exact fin Ox (qeval_env h7 (rd_of_looks (ops := ops) hlx) h3) h4
  · obtain ⟨d, O, v', hd, hq, hO, hv⟩ := h7
    have F2 : Unmen (s.setD x.dst ⟨gx, vx⟩) W := F1
    have hed : (((s.setD x.dst ⟨gx, vx⟩).setD i.dst ⟨[], v⟩).mem L U).env d = ⟨gx, vx⟩ := by
      show ((s.setD x.dst ⟨gx, vx⟩).setD i.dst ⟨[], v⟩).env d = _
      rw [setD_env F1 ha.yw, if_neg (ha.ne d hd), setD_env hF ha.xw, if_pos hd]
    rw [hed] at hO hv
    simp only at hO hv
    subst hv
    have e3 : ∀ t, x.dst ≠ some t → (((s.setD x.dst ⟨gx, v'⟩).setD i.dst ⟨[], v⟩).mem L U).env t = ((s.setD i.dst ⟨[], v⟩).mem L U).env t := fun t ht => by
      show ((s.setD x.dst ⟨gx, v'⟩).setD i.dst ⟨[], v⟩).env t = (s.setD i.dst ⟨[], v⟩).env t
      rw [setD_env F1 ha.yw, setD_env hF ha.yw, setD_env hF ha.xw, if_neg ht]
    have hown := ha.xx d hd
    refine fin O (qeval_mono (s := ((s.setD x.dst ⟨gx, v'⟩).setD i.dst ⟨[], v⟩).mem L U) (rd_of_looks (ops := ops) fun t ht => (e3 t (fun e => hown (by rw [hd] at e; cases e; exact ht))).symm) (LSub.refl _) hq) (fun h => hO ((gHolds_congr fun y hy => ?_).2 h))
    rw [e3 y.1 (fun e => hgx y hy (ha.xw _ e))]
    exact hgg y hy
  · exact fin Ox (qeval_mono (rd_of_looks (ops := ops) hlx) h7 h3) h4
end Go.Rs
end
section
namespace Go.Rs
variable {P : Program} {L L' : Locs}
theorem upd_comm {β : Type} (f : Nat → β) {i d : Nat} (a c : β) (h : i ≠ d) : upd (upd f i a) d c = upd (upd f d c) i a := by
  funext t
  by_cases h1 : t = d
  · subst h1; rw [upd_same, upd_ne _ _ (Ne.symm h), upd_same]
  · by_cases h2 : t = i
    · subst h2; rw [upd_ne _ _ h1, upd_same, upd_same]
    · rw [upd_ne _ _ h1, upd_ne _ _ h2, upd_ne _ _ h2, upd_ne _ _ h1]
theorem persist_upd {d : Nat} (c : Option LC) (hd : L d = none) {v v' L1} (hp : persist L v = some (v', L1)) : persist (upd L d c) v = some (v', upd L1 d c) ∧ L1 d = none := by
  unfold persist at hp ⊢
  split at hp
  · rename_i id
    have hne : ∀ {x}, L id = some x → id ≠ d := fun h e => by rw [e, hd] at h; cases h
    split at hp
    · rename_i hid; cases hp; rw [upd_ne _ _ (hne hid)]; simp only [hid, upd_comm L _ _ (hne hid)]; exact ⟨trivial, by rw [upd_ne _ _ (Ne.symm (hne hid))]; exact hd⟩
    · rename_i hid; cases hp; rw [upd_ne _ _ (hne hid)]; simp only [hid]; exact ⟨trivial, hd⟩
    · rename_i hid; cases hp; rw [upd_ne _ _ (hne hid)]; simp only [hid, upd_comm L _ _ (hne hid)]; exact ⟨trivial, by rw [upd_ne _ _ (Ne.symm (hne hid))]; exact hd⟩
    · rename_i hid; cases hp; rw [upd_ne _ _ (hne hid)]; simp only [hid, upd_comm L _ _ (hne hid)]; exact ⟨trivial, by rw [upd_ne _ _ (Ne.symm (hne hid))]; exact hd⟩
    · cases hp
  · cases hp; exact ⟨rfl, hd⟩
  all_goals first | (cases hp; exact ⟨rfl, hd⟩) | cases hp
theorem give_upd {d : Nat} (c : Option LC) (hd : L d = none) {v v' L1} (hp : give L v = some (v', L1)) : give (upd L d c) v = some (v', upd L1 d c) ∧ L1 d = none := by
  unfold give at hp ⊢
  split at hp
  · rename_i id
    have hne : ∀ {x}, L id = some x → id ≠ d := fun h e => by rw [e, hd] at h; cases h
    split at hp
    · rename_i hid; cases hp; rw [upd_ne _ _ (hne hid)]; simp only [hid, upd_comm L _ _ (hne hid)]; exact ⟨trivial, by rw [upd_ne _ _ (Ne.symm (hne hid))]; exact hd⟩
    · rename_i hid; cases hp; rw [upd_ne _ _ (hne hid)]; simp only [hid]; exact ⟨trivial, hd⟩
    · rename_i hid; cases hp; rw [upd_ne _ _ (hne hid)]; simp only [hid, upd_comm L _ _ (hne hid)]; exact ⟨trivial, by rw [upd_ne _ _ (Ne.symm (hne hid))]; exact hd⟩
    · rename_i hid; cases hp; rw [upd_ne _ _ (hne hid)]; simp only [hid, upd_comm L _ _ (hne hid)]; exact ⟨trivial, by rw [upd_ne _ _ (Ne.symm (hne hid))]; exact hd⟩
    · cases hp
  · cases hp; exact ⟨rfl, hd⟩
  all_goals first | (cases hp; exact ⟨rfl, hd⟩) | cases hp
theorem absorb_upd {d : Nat} (c : Option LC) (hd : L d = none) {v v' L1} (hp : absorb L v = some (v', L1)) : absorb (upd L d c) v = some (v', upd L1 d c) ∧ L1 d = none := by
  unfold absorb at hp ⊢
  split at hp
  · rename_i id
    have hne : ∀ {x}, L id = some x → id ≠ d := fun h e => by rw [e, hd] at h; cases h
    split at hp
    · rename_i E l hid
      cases hE : flatE E with
      | false => simp only [hE] at hp; cases hp
      | true =>
        simp only [hE] at hp
        cases hp
        rw [upd_ne _ _ (hne hid)]; simp only [hid, hE, upd_comm L _ _ (hne hid)]; exact ⟨trivial, by rw [upd_ne _ _ (Ne.symm (hne hid))]; exact hd⟩
    · rename_i hid; cases hp; rw [upd_ne _ _ (hne hid)]; simp only [hid, upd_comm L _ _ (hne hid)]; exact ⟨trivial, by rw [upd_ne _ _ (Ne.symm (hne hid))]; exact hd⟩
    · cases hp
  · cases hp; exact ⟨rfl, hd⟩
  all_goals first | (cases hp; exact ⟨rfl, hd⟩) | cases hp
theorem absorbL_upd {d : Nat} (c : Option LC) : ∀ {vs vs' : List AV} {L L1 : Locs}, L d = none → absorbL L vs = some (vs', L1) → absorbL (upd L d c) vs = some (vs', upd L1 d c) ∧ L1 d = none
  | [], vs', L, L1, h, hp => by
    simp only [absorbL, Option.some.injEq, Prod.mk.injEq] at hp; obtain ⟨rfl, rfl⟩ := hp
    exact ⟨rfl, h⟩
  | v :: r, vs', L, L1, h, hp => by
    simp only [absorbL] at hp ⊢
    split at hp
    case h_2 => cases hp
    rename_i v' L2 h1
    split at hp
    case h_2 => cases hp
    rename_i r' L3 h2
    cases hp
    obtain ⟨h3, h4⟩ := absorb_upd c h h1
    obtain ⟨h5, h6⟩ := absorbL_upd c h4 h2
    simp only [h3, h5]
    exact ⟨trivial, h6⟩
theorem absorbS_upd {d : Nat} (c : Option LC) (hd : L d = none) {v v' L1} (hp : absorbS L v = some (v', L1)) : absorbS (upd L d c) v = some (v', upd L1 d c) ∧ L1 d = none := by
  unfold absorbS at hp ⊢
  split at hp
  · split at hp
    case h_2 => cases hp
    rename_i h1
    cases hp
    obtain ⟨h3, h4⟩ := absorbL_upd c hd h1
    simp only [h3]
    exact ⟨trivial, h4⟩
  · exact absorb_upd c hd hp
theorem persistL_upd {d : Nat} (c : Option LC) : ∀ {vs vs' : List AV} {L L1 : Locs}, L d = none → persistL L vs = some (vs', L1) → persistL (upd L d c) vs = some (vs', upd L1 d c) ∧ L1 d = none
  | [], vs', L, L1, h, hp => by
    simp only [persistL, Option.some.injEq, Prod.mk.injEq] at hp; obtain ⟨rfl, rfl⟩ := hp
    exact ⟨rfl, h⟩
  | v :: r, vs', L, L1, h, hp => by
    simp only [persistL] at hp ⊢
    split at hp
    case h_2 => cases hp
    rename_i v' L2 h1
    split at hp
    case h_2 => cases hp
    rename_i r' L3 h2
    cases hp
    obtain ⟨h3, h4⟩ := persist_upd c h h1
    obtain ⟨h5, h6⟩ := persistL_upd c h4 h2
    simp only [h3, h5]
    exact ⟨trivial, h6⟩
theorem giveL_upd {d : Nat} (c : Option LC) : ∀ {vs vs' : List AV} {L L1 : Locs}, L d = none → giveL L vs = some (vs', L1) → giveL (upd L d c) vs = some (vs', upd L1 d c) ∧ L1 d = none
  | [], vs', L, L1, h, hp => by
    simp only [giveL, Option.some.injEq, Prod.mk.injEq] at hp; obtain ⟨rfl, rfl⟩ := hp
    exact ⟨rfl, h⟩
  | v :: r, vs', L, L1, h, hp => by
    simp only [giveL] at hp ⊢
    split at hp
    case h_2 => cases hp
    rename_i v' L2 h1
    split at hp
    case h_2 => cases hp
    rename_i r' L3 h2
    cases hp
    obtain ⟨h3, h4⟩ := give_upd c h h1
    obtain ⟨h5, h6⟩ := giveL_upd c h4 h2
    simp only [h3, h5]
    exact ⟨trivial, h6⟩
theorem persistS_upd {d : Nat} (c : Option LC) (hd : L d = none) {v v' L1} (hp : persistS L v = some (v', L1)) : persistS (upd L d c) v = some (v', upd L1 d c) ∧ L1 d = none := by
  unfold persistS at hp ⊢
  split at hp
  · split at hp
    case h_2 => cases hp
    rename_i h1
    cases hp
    obtain ⟨h3, h4⟩ := persistL_upd c hd h1
    simp only [h3]
    exact ⟨trivial, h4⟩
  · exact persist_upd c hd hp
theorem giveS_upd {d : Nat} (c : Option LC) (hd : L d = none) {v v' L1} (hp : giveS L v = some (v', L1)) : giveS (upd L d c) v = some (v', upd L1 d c) ∧ L1 d = none := by
  unfold giveS at hp ⊢
  split at hp
  · split at hp
    case h_2 => cases hp
    rename_i h1
    cases hp
    obtain ⟨h3, h4⟩ := giveL_upd c hd h1
    simp only [h3]
    exact ⟨trivial, h4⟩
  · exact give_upd c hd hp
theorem pinC_upd {d : Nat} (c : Option LC) (hd : L d = none) {v v' L1} (hp : pinC L v = some (v', L1)) : pinC (upd L d c) v = some (v', upd L1 d c) ∧ L1 d = none := by
  unfold pinC at hp ⊢
  split at hp
  · rename_i id
    have hne : ∀ {x}, L id = some x → id ≠ d := fun h e => by rw [e, hd] at h; cases h
    split at hp
    case h_2 => cases hp
    rename_i hid
    split at hp
    case h_2 => cases hp
    rename_i hce
    cases hp
    rw [upd_ne _ _ (hne hid)]
    simp only [hid, hce]
    exact ⟨by rw [upd_comm _ _ _ (hne hid)], by rw [upd_ne _ _ (Ne.symm (hne hid))]; exact hd⟩
  · cases hp; exact ⟨rfl, hd⟩
  · cases hp
theorem pinL_upd {d : Nat} (c : Option LC) : ∀ {vs vs' : List AV} {L L1 : Locs}, L d = none → pinL L vs = some (vs', L1) → pinL (upd L d c) vs = some (vs', upd L1 d c) ∧ L1 d = none
  | [], vs', L, L1, h, hp => by
    simp only [pinL, Option.some.injEq, Prod.mk.injEq] at hp; obtain ⟨rfl, rfl⟩ := hp
    exact ⟨rfl, h⟩
  | v :: r, vs', L, L1, h, hp => by
    simp only [pinL] at hp ⊢
    split at hp
    case h_2 => cases hp
    rename_i v' L2 h1
    split at hp
    case h_2 => cases hp
    rename_i r' L3 h2
    cases hp
    obtain ⟨h3, h4⟩ := pinC_upd c h h1
    obtain ⟨h5, h6⟩ := pinL_upd c h4 h2
    simp only [h3, h5]
    exact ⟨trivial, h6⟩
theorem arg_upd {d : Nat} (c : Option LC) (hd : L d = none) {own : Md} {v v' L1} (hp : arg own L v = some (v', L1)) : arg own (upd L d c) v = some (v', upd L1 d c) ∧ L1 d = none ∧ v ≠ .lp d 0 := by
  unfold arg at hp ⊢
  split at hp
  · rename_i id
    have hne : ∀ {x}, L id = some x → id ≠ d := fun h e => by rw [e, hd] at h; cases h
    split at hp
    · rename_i cs hid
      split at hp
      case h_2 => cases hp
      rename_i h1
      cases hp
      obtain ⟨h3, h4⟩ := giveL_upd c hd h1
      rw [upd_ne _ _ (hne hid)]
      simp only [hid, h3]
      refine ⟨by rw [upd_comm _ _ _ (hne hid)], by rw [upd_ne _ _ (Ne.symm (hne hid))]; exact h4, fun e => hne hid (by cases e; rfl)⟩
    · rename_i b hid
      cases hp
      rw [upd_ne _ _ (hne hid)]
      simp only [hid]
      refine ⟨by rw [upd_comm _ _ _ (hne hid)], by rw [upd_ne _ _ (Ne.symm (hne hid))]; exact hd, fun e => hne hid (by cases e; rfl)⟩
    · cases hp
  · cases hp; exact ⟨rfl, hd, by intro e; cases e⟩
  · split at hp
    case h_2 => cases hp
    rename_i h1
    cases hp
    obtain ⟨h3, h4⟩ := pinL_upd c hd h1
    simp only [h3]
    exact ⟨trivial, h4, by intro e; cases e⟩
  · cases hp; exact ⟨rfl, hd, by intro e; cases e⟩
  · cases hp
  · rename_i hne1 _ _ _ _
    split at hp
    · obtain ⟨h1, h2⟩ := giveS_upd c hd hp
      exact ⟨h1, h2, fun e => hne1 d e⟩
    · obtain ⟨h1, h2⟩ := persistS_upd c hd hp
      exact ⟨h1, h2, fun e => hne1 d e⟩
    · split at hp
      case h_2 => cases hp
      rename_i hg
      cases hp
      obtain ⟨h1, h2⟩ := giveS_upd c hd hg
      simp only [h1]
      exact ⟨trivial, h2, fun e => hne1 d e⟩
theorem give_ne {d : Nat} (hd : L d = none) {v v' L1} (h : give L v = some (v', L1)) : v ≠ .ls d ∧ v ≠ .lp d 0 ∧ IVal v' := by
  unfold give at h
  split at h
  · rename_i id
    have hne : ∀ {x}, L id = some x → AV.ls id ≠ .ls d := fun h e => by cases e; rw [hd] at h; cases h
    split at h
    · rename_i h1; cases h; exact ⟨hne h1, by intro e; (cases e), trivial⟩
    · rename_i h1; cases h; exact ⟨hne h1, by intro e; (cases e), trivial⟩
    · rename_i h1; cases h; exact ⟨hne h1, by intro e; (cases e), trivial⟩
    · rename_i h1; cases h; exact ⟨hne h1, by intro e; (cases e), trivial⟩
    · cases h
  all_goals first | (cases h; exact ⟨by intro e; (cases e), by intro e; (cases e), trivial⟩) | cases h
theorem giveL_ne {d : Nat} : ∀ {vs vs' : List AV} {L L1 : Locs}, L d = none → giveL L vs = some (vs', L1) → ∀ v ∈ vs, v ≠ .ls d ∧ v ≠ .lp d 0
  | [], _, _, _, _, _ => by simp
  | v :: r, vs', L, L1, hd, hp => by
    simp only [giveL] at hp
    split at hp
    case h_2 => cases hp
    rename_i v' L2 h1
    split at hp
    case h_2 => cases hp
    rename_i r' L3 h2
    obtain ⟨h3, h4, -⟩ := give_ne hd h1
    have h5 := giveL_ne (give_upd none hd h1).2 h2
    intro u hu
    rcases List.mem_cons.1 hu with rfl | hu
    · exact ⟨h3, h4⟩
    · exact h5 u hu
theorem tgtC_sub : ∀ {cs vs : List AV} {u : AV}, u ∈ tgtC cs vs → u ∈ cs
  | [], vs, u, h => by simp [tgtC] at h
  | c :: cs, [], u, h => by simp [tgtC] at h
  | c :: cs, v :: vs, u, h => by
    have key : u ∈ tgtC cs vs → u ∈ c :: cs := fun h => List.mem_cons_of_mem _ (tgtC_sub h)
    cases v with
    | own E l =>
      simp only [tgtC, List.mem_cons] at h
      rcases h with rfl | h
      · exact List.mem_cons_self
      · exact key h
    | dp E l =>
      simp only [tgtC, List.mem_cons] at h
      rcases h with rfl | h
      · exact List.mem_cons_self
      · exact key h
    | wr E l =>
      simp only [tgtC, List.mem_cons] at h
      rcases h with rfl | h
      · exact List.mem_cons_self
      · exact key h
    | _ => exact key h
theorem tgtV_sub {v u x : AV} (h : x ∈ tgtV v u) : x = v ∨ ∃ cs, v = .st cs ∧ x ∈ cs := by
  unfold tgtV at h
  split at h
  · simp at h; exact .inl h
  · simp at h; exact .inl h
  · simp at h; exact .inl h
  · exact .inr ⟨_, rfl, tgtC_sub h⟩
  · simp at h
theorem giveS_ne {d : Nat} (hd : L d = none) {v v' L1} (h : giveS L v = some (v', L1)) : (v ≠ .ls d ∧ v ≠ .lp d 0 ∧ ∀ cs, v = .st cs → ∀ x ∈ cs, x ≠ .ls d ∧ x ≠ .lp d 0) ∧ IVal v' := by
  unfold giveS at h
  split at h
  · split at h
    case h_2 => cases h
    rename_i h1
    cases h
    exact ⟨⟨by intro e; (cases e), by intro e; (cases e), fun cs e => by cases e; exact giveL_ne hd h1⟩, trivial⟩
  · rename_i hst
    obtain ⟨h1, h2, h3⟩ := give_ne hd h
    exact ⟨⟨h1, h2, fun cs e => absurd e (hst cs)⟩, h3⟩
theorem persistS_val {v v' L1} (h : persistS L v = some (v', L1)) : IVal v' := by
  unfold persistS at h
  split at h
  · split at h
    case h_2 => cases h
    cases h; trivial
  · exact (persist_closed h).1.val
theorem tgt_val {v v' : AV} {vs vs' : List AV} (h : IVal v') : tgt (v :: vs) (v' :: vs') = tgt vs vs' := by
  cases v' <;> first | exact h.elim | rfl
theorem arg_ne {d : Nat} (hd : L d = none) {own : Md} {v v' L1} (hp : arg own L v = some (v', L1)) {vs vs' : List AV} {u : AV} (hu : u ∈ tgt (v :: vs) (v' :: vs')) : (u ≠ .ls d ∧ u ≠ .lp d 0) ∨ u ∈ tgt vs vs' := by
  unfold arg at hp
  split at hp
  · rename_i id
    have hne : ∀ {x}, L id = some x → AV.lp id 0 ≠ .ls d ∧ AV.lp id 0 ≠ .lp d 0 := fun h => ⟨by intro e; (cases e), fun e => by cases e; rw [hd] at h; cases h⟩
    split at hp
    · rename_i h1
      split at hp
      case h_2 => cases hp
      cases hp
      rcases List.mem_cons.1 hu with rfl | hu
      · exact .inl (hne h1)
      · exact .inr hu
    · rename_i h1
      cases hp
      rcases List.mem_cons.1 hu with rfl | hu
      · exact .inl (hne h1)
      · exact .inr hu
    · cases hp
  · cases hp; exact .inr hu
  · split at hp
    case h_2 => cases hp
    cases hp; exact .inr hu
  · cases hp; exact .inr hu
  · cases hp
  · split at hp
    · obtain ⟨-, h2⟩ := giveS_ne hd hp
      rw [tgt_val h2] at hu; exact .inr hu
    · rw [tgt_val (persistS_val hp)] at hu; exact .inr hu
    · split at hp
      case h_2 => cases hp
      rename_i v0 L0 hg
      cases hp
      obtain ⟨⟨h1, h2, h3⟩, h4⟩ := giveS_ne hd hg
      have key : ∀ {w : AV}, u ∈ tgtV v w ++ tgt vs vs' → (u ≠ .ls d ∧ u ≠ .lp d 0) ∨ u ∈ tgt vs vs' := by
        intro w hu
        rcases List.mem_append.1 hu with hu | hu
        · rcases tgtV_sub hu with rfl | ⟨cs, e, hx⟩
          · exact .inl ⟨h1, h2⟩
          · exact .inl (h3 cs e u hx)
        · exact .inr hu
      unfold lendV at hu
      split at hu
      · exact key hu
      · exact key hu
      · exact key hu
      · split at hu
        · exact key hu
        · exact .inr hu
      · rw [tgt_val h4] at hu; exact .inr hu
theorem argL_ne {d : Nat} {own : Md} : ∀ {vs vs' : List AV} {L L1 : Locs}, L d = none → argL own L vs = some (vs', L1) → ∀ u ∈ tgt vs vs', u ≠ .ls d ∧ u ≠ .lp d 0
  | [], vs', L, L1, h, hp => by
    simp only [argL, Option.some.injEq, Prod.mk.injEq] at hp; obtain ⟨rfl, rfl⟩ := hp
    simp [tgt]
  | v :: r, vs', L, L1, h, hp => by
    simp only [argL] at hp
    split at hp
    case h_2 => cases hp
    rename_i v' L2 h1
    split at hp
    case h_2 => cases hp
    rename_i r' L3 h2
    cases hp
    intro u hu
    rcases arg_ne h h1 hu with h3 | h3
    · exact h3
    · exact argL_ne (arg_upd none h h1).2.1 h2 u h3
theorem argL_upd {d : Nat} (c : Option LC) {own : Md} : ∀ {vs vs' : List AV} {L L1 : Locs}, L d = none → argL own L vs = some (vs', L1) → argL own (upd L d c) vs = some (vs', upd L1 d c) ∧ L1 d = none ∧ ∀ v ∈ vs, v ≠ .lp d 0
  | [], vs', L, L1, h, hp => by
    simp only [argL, Option.some.injEq, Prod.mk.injEq] at hp; obtain ⟨rfl, rfl⟩ := hp
    exact ⟨rfl, h, by simp⟩
  | v :: r, vs', L, L1, h, hp => by
    simp only [argL] at hp ⊢
    split at hp
    case h_2 => cases hp
    rename_i v' L2 h1
    split at hp
    case h_2 => cases hp
    rename_i r' L3 h2
    cases hp
    obtain ⟨h3, h4, h5⟩ := arg_upd c h h1
    obtain ⟨h6, h7, h8⟩ := argL_upd c h4 h2
    simp only [h3, h6]
    refine ⟨trivial, h7, fun u hu => ?_⟩
    simp at hu
    rcases hu with rfl | hu
    · exact h5
    · exact h8 u hu
theorem take_upd {d n n' : Nat} {U U' : Nat → Bool} (c : Option LC) (hn : d < n) {v v' L1} (hp : take L U n v = some (v', L1, U', n')) : take (upd L d c) (upd U d true) n v = some (v', upd L1 d c, upd U' d true, n') ∧ L1 d = L d ∧ U' d = U d ∧ n ≤ n' := by
  unfold take at hp ⊢
  have hne : n ≠ d := by omega
  split at hp
  · split at hp
    · rename_i hu
      cases hp
      rw [upd_ne _ _ hne]
      simp only [hu]
      refine ⟨by rw [upd_comm L _ _ hne, upd_comm U _ _ hne], upd_ne _ _ (Ne.symm hne), upd_ne _ _ (Ne.symm hne), by omega⟩
    · cases hp
  · split at hp
    · rename_i hu
      cases hp
      rw [upd_ne _ _ hne]
      simp only [hu]
      refine ⟨by rw [upd_comm L _ _ hne, upd_comm U _ _ hne], upd_ne _ _ (Ne.symm hne), upd_ne _ _ (Ne.symm hne), by omega⟩
    · cases hp
  · split at hp
    · rename_i hu
      cases hp
      rw [upd_ne _ _ hne]
      simp only [hu]
      refine ⟨by rw [upd_comm L _ _ hne, upd_comm U _ _ hne], upd_ne _ _ (Ne.symm hne), upd_ne _ _ (Ne.symm hne), by omega⟩
    · cases hp
  all_goals first | (cases hp; exact ⟨rfl, rfl, rfl, Nat.le_refl _⟩) | cases hp
theorem takeL_upd {d : Nat} (c : Option LC) : ∀ {vs vs' : List AV} {L L1 : Locs} {U U' : Nat → Bool} {n n' : Nat}, d < n → takeL L U n vs = some (vs', L1, U', n') → takeL (upd L d c) (upd U d true) n vs = some (vs', upd L1 d c, upd U' d true, n') ∧ L1 d = L d ∧ U' d = U d ∧ n ≤ n'
  | [], vs', L, L1, U, U', n, n', h, hp => by
    simp only [takeL, Option.some.injEq, Prod.mk.injEq] at hp; obtain ⟨rfl, rfl, rfl, rfl⟩ := hp
    exact ⟨rfl, rfl, rfl, Nat.le_refl _⟩
  | v :: r, vs', L, L1, U, U', n, n', h, hp => by
    simp only [takeL] at hp ⊢
    split at hp
    case h_2 => cases hp
    rename_i h1
    split at hp
    case h_2 => cases hp
    rename_i h2
    cases hp
    obtain ⟨h3, h4, h5, h6⟩ := take_upd c h h1
    obtain ⟨h7, h8, h9, h10⟩ := takeL_upd c (Nat.lt_of_lt_of_le h h6) h2
    simp only [h3, h7]
    exact ⟨trivial, h8.trans h4, h9.trans h5, by omega⟩
theorem takeS_upd {d n n' : Nat} {U U' : Nat → Bool} (c : Option LC) (hn : d < n) {v v' L1} (hp : takeS L U n v = some (v', L1, U', n')) : takeS (upd L d c) (upd U d true) n v = some (v', upd L1 d c, upd U' d true, n') ∧ L1 d = L d ∧ U' d = U d ∧ n ≤ n' := by
  unfold takeS at hp ⊢
  split at hp
  · split at hp
    case h_2 => cases hp
    rename_i h1
    cases hp
    obtain ⟨h3, h4⟩ := takeL_upd c hn h1
    simp only [h3]
    exact ⟨trivial, h4⟩
  · exact take_upd c hn hp
theorem takeT_upd {d : Nat} (c : Option LC) : ∀ {vs vs' : List AV} {L L1 : Locs} {U U' : Nat → Bool} {n n' : Nat}, d < n → takeT L U n vs = some (vs', L1, U', n') → takeT (upd L d c) (upd U d true) n vs = some (vs', upd L1 d c, upd U' d true, n') ∧ L1 d = L d ∧ U' d = U d ∧ n ≤ n'
  | [], vs', L, L1, U, U', n, n', h, hp => by
    simp only [takeT, Option.some.injEq, Prod.mk.injEq] at hp; obtain ⟨rfl, rfl, rfl, rfl⟩ := hp
    exact ⟨rfl, rfl, rfl, Nat.le_refl _⟩
  | v :: r, vs', L, L1, U, U', n, n', h, hp => by
    simp only [takeT] at hp ⊢
    split at hp
    case h_2 => cases hp
    rename_i h1
    split at hp
    case h_2 => cases hp
    rename_i h2
    cases hp
    obtain ⟨h3, h4, h5, h6⟩ := takeS_upd c h h1
    obtain ⟨h7, h8, h9, h10⟩ := takeT_upd c (Nat.lt_of_lt_of_le h h6) h2
    simp only [h3, h7]
    exact ⟨trivial, h8.trans h4, h9.trans h5, by omega⟩
theorem takeR_upd {d n n' : Nat} {U U' : Nat → Bool} (c : Option LC) (hn : d < n) {v v' L1} (hp : takeR L U n v = some (v', L1, U', n')) : takeR (upd L d c) (upd U d true) n v = some (v', upd L1 d c, upd U' d true, n') ∧ L1 d = L d ∧ U' d = U d ∧ n ≤ n' := by
  unfold takeR at hp ⊢
  split at hp
  · split at hp
    case h_2 => cases hp
    rename_i h1
    cases hp
    obtain ⟨h3, h4⟩ := takeT_upd c hn h1
    simp only [h3]
    exact ⟨trivial, h4⟩
  · split at hp
    case h_2 => cases hp
    rename_i L2 U2 n2 h1
    split at hp
    case h_2 => cases hp
    rename_i hU
    cases hp
    obtain ⟨h3, h4, h5, h6⟩ := takeL_upd c (Nat.lt_succ_of_lt hn) h1
    have hne : n ≠ d := by omega
    have e1 : upd U2 d true n = false := by rw [upd_ne _ _ hne]; exact hU
    simp only [h3, e1]
    refine ⟨by rw [upd_comm _ _ _ hne, upd_comm _ _ _ hne], ?_, ?_, by omega⟩
    · rw [upd_ne _ _ (Ne.symm hne)]; exact h4
    · rw [upd_ne _ _ (Ne.symm hne)]; exact h5
  · exact takeS_upd c hn hp
theorem backL_upd {d : Nat} (c : Option LC) : ∀ {args rs : List AV} {L L1 : Locs} {U U' : Nat → Bool} {n : Nat}, d < n → (∀ v ∈ args, v ≠ .ls d ∧ v ≠ .lp d 0) → backL L U n args rs = some (L1, U') → backL (upd L d c) (upd U d true) n args rs = some (upd L1 d c, upd U' d true) ∧ L1 d = L d ∧ U' d = U d
  | [], rs, L, L1, U, U', n, h, hne, hp => by
    cases rs with
    | nil =>
      simp only [backL, Option.some.injEq, Prod.mk.injEq] at hp; obtain ⟨rfl, rfl⟩ := hp
      exact ⟨rfl, rfl, rfl⟩
    | cons r rs => simp [backL] at hp
  | v :: args, rs, L, L1, U, U', n, h, hne, hp => by
    have hne' : ∀ v ∈ args, v ≠ .ls d ∧ v ≠ .lp d 0 := fun u hu => hne u (by simp [hu])
    cases v with
    | lp id off =>
      cases off with
      | succ k => cases rs <;> simp [backL] at hp
      | zero =>
        have hid : id ≠ d := fun e => (hne (.lp id 0) (by simp)).2 (by rw [e])
        cases rs with
        | nil => simp [backL] at hp
        | cons r rs =>
          cases r with
          | ref cs =>
            simp only [backL] at hp ⊢
            split at hp
            case h_2 => cases hp
            rename_i h1
            obtain ⟨h3, h4, h5, h6⟩ := takeL_upd c h h1
            simp only [h3]
            rw [← upd_comm _ _ _ hid]
            obtain ⟨h7, h8, h9⟩ := backL_upd c (Nat.lt_of_lt_of_le h h6) hne' hp
            exact ⟨h7, by rw [h8, upd_ne _ _ (Ne.symm hid), h4], h9.trans h5⟩
          | rb b =>
            simp only [backL] at hp ⊢
            rw [← upd_comm _ _ _ hid]
            obtain ⟨h7, h8, h9⟩ := backL_upd c h hne' hp
            exact ⟨h7, by rw [h8, upd_ne _ _ (Ne.symm hid)], h9⟩
          | _ => simp [backL] at hp
    | ls id =>
      have hid : id ≠ d := fun e => (hne (.ls id) (by simp)).1 (by rw [e])
      cases rs with
      | nil => simp [backL] at hp
      | cons r rs =>
        cases r with
        | own E l =>
          simp only [backL] at hp ⊢
          rw [← upd_comm _ _ _ hid]
          obtain ⟨h7, h8, h9⟩ := backL_upd c h hne' hp
          exact ⟨h7, by rw [h8, upd_ne _ _ (Ne.symm hid)], h9⟩
        | dp E l =>
          simp only [backL] at hp ⊢
          rw [← upd_comm _ _ _ hid]
          obtain ⟨h7, h8, h9⟩ := backL_upd c h hne' hp
          exact ⟨h7, by rw [h8, upd_ne _ _ (Ne.symm hid)], h9⟩
        | wr E l =>
          simp only [backL] at hp ⊢
          rw [← upd_comm _ _ _ hid]
          obtain ⟨h7, h8, h9⟩ := backL_upd c h hne' hp
          exact ⟨h7, by rw [h8, upd_ne _ _ (Ne.symm hid)], h9⟩
        | ps E l =>
          simp only [backL] at hp ⊢
          rw [← upd_comm _ _ _ hid]
          obtain ⟨h7, h8, h9⟩ := backL_upd c h hne' hp
          exact ⟨h7, by rw [h8, upd_ne _ _ (Ne.symm hid)], h9⟩
        | _ => simp [backL] at hp
    | nils E0 =>
      cases rs with
      | nil => simp [backL] at hp
      | cons r rs =>
        cases r with
        | ps E l =>
          simp only [backL] at hp ⊢
          exact backL_upd c h hne' hp
        | own E l =>
          simp only [backL] at hp ⊢
          exact backL_upd c h hne' hp
        | _ => simp [backL] at hp
    | _ => cases rs <;> (try (rename_i r rs; cases r)) <;> simp [backL] at hp
end Go.Rs
end
section
namespace Go.Rs
variable {P : Program} {L L' : Locs}
def AS.addL (s : AS) (d : Nat) (u : AV) (c : LC) : AS := (s.setD (some d) ⟨[], u⟩).mem (upd s.locs d (some c)) (upd s.used d true)
theorem persistS_const (v : Value) : ∃ r : Option AV, ∀ L : Locs, persistS L (ofConst v) = r.map fun u => (u, L) := by
  unfold ofConst
  split
  · exact ⟨some _, fun _ => rfl⟩
  · exact ⟨some _, fun _ => rfl⟩
  · split
    · rw [seqB_eq]; exact ⟨some _, fun _ => rfl⟩
    · exact ⟨none, fun _ => rfl⟩
  · exact ⟨some _, fun _ => rfl⟩
  · exact ⟨some _, fun _ => rfl⟩
  · exact ⟨some _, fun _ => rfl⟩
  · exact ⟨none, fun _ => rfl⟩
theorem partsOf_const : ∀ (parts : List (Nat × Operand)) (k : Nat) (E : El), allC parts = true → ∃ r : Option (List (ElT E)), ∀ (s : AS) (L : Locs), partsOf s k L parts E = r.map fun u => (u, L)
  | [], k, E, _ => ⟨some [], fun s L => rfl⟩
  | (i, x) :: p, k, E, h => by
    simp only [allC, Bool.and_eq_true] at h
    obtain ⟨r, hr⟩ := partsOf_const p (k + 1) E h.2
    cases x with
    | const v =>
      obtain ⟨q, hq⟩ := persistS_const v
      cases hb : Nat.beq i k with
      | false => exact ⟨none, fun s L => by simp [partsOf, hb]⟩
      | true =>
        cases q with
        | none => exact ⟨none, fun s L => by simp [partsOf, hb, AS.rd, hq]⟩
        | some v' =>
          cases hd : dec E (cellsOf v') with
          | none => exact ⟨none, fun s L => by simp [partsOf, hb, AS.rd, hq, seqV_eq, hd]⟩
          | some y =>
            cases r with
            | none => exact ⟨none, fun s L => by simp [partsOf, hb, AS.rd, hq, seqV_eq, hd, hr]⟩
            | some ys => exact ⟨some (y :: ys), fun s L => by simp [partsOf, hb, AS.rd, hq, seqV_eq, hd, hr]⟩
    | _ => simp [isCst] at h
theorem okParts_const {s : AS} : ∀ {parts : List (Nat × Operand)}, allC parts = true → okOpnds s [] (parts.map (·.2)) = true
  | [], _ => rfl
  | (i, x) :: p, h => by
    simp only [allC, Bool.and_eq_true] at h
    have := okParts_const (s := s) h.2
    cases x with
    | const v => simp only [List.map_cons, okOpnds, okOpnd, this]; rfl
    | _ => simp [isCst] at h
theorem lval_a {T : Tab} {o : Oper} {s : AS} {d : Nat} (ho : allocO o = true) (hd : o.dst = some d) (hg : o.guard = none) :
    lval T s o = (aRes T o d).bind fun p => fresh s d (some (none, p.1, upd s.locs d (some p.2), upd s.used d true)) := by
  obtain ⟨dst, op, type, pos, after, guard⟩ := o
  simp only at hd hg
  subst hd; subst hg
  unfold allocO at ho
  simp only at ho
  split at ho
  · rename_i t
    simp only [lval, lAlloc, seqV_eq, aRes]
    cases hz : zeroOf (T t) with
    | nil => simp [isB]
    | cons c r => cases hB : isB t (c :: r) <;> simp [zLC, hB]
  · rename_i t n parts
    have h0 : lBuildSlice s d (T t) n parts.toList = lBuildSlice0 s d (T t) n parts.toList := by
      unfold lBuildSlice
      split
      · rw [ho, Bool.not_true, Bool.and_false]
      · rfl
    simp only [lval, h0, lBuildSlice0, aRes]
    cases hT : T t <;> simp only [ho] <;> try rfl
    rename_i E
    obtain ⟨r, hr⟩ := partsOf_const parts.toList 0 E ho
    rw [hr, hr]
    cases r with
    | none => rfl
    | some l =>
      simp only [Option.map_some]
      cases Nat.beq l.length n <;> cases Nat.ble n 1000 <;> rfl
  · cases ho
theorem al_alloc {E : Ctx} {o : Oper} {s : AS} {K : AS → Prop} {d : Nat} (ho : allocO o = true) (hd : o.dst = some d) (hg : o.guard = none) : al E o s K ↔ ∃ u c, aRes E.T o d = some (u, c) ∧ s.used d = false ∧ s.locs d = none ∧ Nat.blt d E.N = true ∧ K (s.addL d u c) := by
  have hok : okOps s [] o = true := by
    obtain ⟨dst, op, type, pos, after, guard⟩ := o
    unfold allocO at ho
    simp only at ho
    split at ho
    · rfl
    · rename_i t n parts
      have := okParts_const (s := s) ho
      simp only [okOps, Op.operands]
      simpa using this
    · cases ho
  have hc : callOf s o = none := by
    obtain ⟨dst, op, type, pos, after, guard⟩ := o
    unfold allocO at ho
    simp only at ho
    split at ho <;> first | rfl | cases ho
  have hq : qval E.T s o = none := by
    obtain ⟨dst, op, type, pos, after, guard⟩ := o
    unfold allocO at ho
    simp only at ho
    split at ho <;> first | rfl | cases ho
  unfold al
  rw [hg, hok, hc, hq, lval_a ho hd hg]
  simp only
  cases ha : aRes E.T o d with
  | none => simp
  | some p =>
    obtain ⟨u, c⟩ := p
    simp only [Option.bind_some, fresh]
    cases hu : s.used d <;> cases hl : s.locs d <;> simp only
    · rw [hd, ob_iff, setM_iff]
      simp only [Option.some.injEq, forall_eq']
      constructor
      · rintro ⟨-, h1, h2⟩; exact ⟨u, c, rfl, trivial, trivial, h1, h2⟩
      · rintro ⟨u', c', e, -, -, h1, h2⟩; cases e; exact ⟨by simp, h1, h2⟩
    all_goals simp
theorem addL_sub {s : AS} {d : Nat} {u : AV} {c : LC} (hd : s.locs d = none) : LSub s.locs (s.addL d u c).locs := by
  intro id x h
  show upd s.locs d (some c) id = some x
  rw [upd_ne]
  · exact h
  · intro e; rw [e, hd] at h; cases h
theorem addL_env {s : AS} {W : List Nat} {d : Nat} {u : AV} {c : LC} (hF : Unmen s W) (hd : d ∈ W) (t : Nat) : (s.addL d u c).env t = if t = d then ⟨[], u⟩ else s.env t := by
  show (s.setD (some d) ⟨[], u⟩).env t = _
  rw [setD_env hF (fun d' e => by cases e; exact hd)]
  by_cases h : t = d
  · subst h; simp
  · simp [h, Ne.symm h]
theorem addL_ne {s : AS} {W : List Nat} {d : Nat} {u : AV} {c : LC} (hF : Unmen s W) (hd : d ∈ W) {t : Nat} (h : t ≠ d) : (s.addL d u c).env t = s.env t := by rw [addL_env hF hd, if_neg h]
theorem addL_setD {s : AS} {W : List Nat} {d : Nat} {u : AV} {c : LC} {dx : Option Nat} {e : Ent} (hF : Unmen s W) (hd : d ∈ W) (hx : ∀ d', dx = some d' → d' ∈ W) (hne : dx ≠ some d) (he : ∀ y ∈ e.g, y.1 ∉ W) :
    (s.addL d u c).setD dx e = (s.setD dx e).addL d u c := by
  unfold AS.addL
  rw [mem_setD, setD_comm hF (fun d' h => by cases h; exact hd) hx (fun d' h => by cases h; exact hne) (by simp) he]
  simp only [AS.mem, setD_locs, setD_used]
theorem addL_setD_mem {s : AS} {W : List Nat} {d : Nat} {u : AV} {c : LC} {dx : Option Nat} {v : AV} {L U} (hF : Unmen s W) (hd : d ∈ W) (hx : ∀ d', dx = some d' → d' ∈ W) (hne : dx ≠ some d) :
    ((s.addL d u c).setD dx ⟨[], v⟩).mem (upd L d (some c)) (upd U d true) = ((s.setD dx ⟨[], v⟩).mem L U).addL d u c := by
  rw [addL_setD hF hd hx hne (by simp)]
  have hF2 : Unmen (s.setD dx ⟨[], v⟩) W := hF.setD hx (by simp)
  refine AS.ext' (fun t => ?_) rfl rfl
  have hF3 : Unmen ((s.setD dx ⟨[], v⟩).mem L U) W := hF2
  show ((s.setD dx ⟨[], v⟩).addL d u c).env t = (((s.setD dx ⟨[], v⟩).mem L U).addL d u c).env t
  rw [addL_env hF2 hd, addL_env hF3 hd]
  rfl
theorem aq_add {E : Ctx} {ops : List Oper} {x : Oper} {s : AS} {W : List Nat} {K K' : AS → Prop} {d : Nat} {u : AV} {c : LC} (hF : Unmen s W) (hd : d ∈ W) (hl : s.locs d = none) (hx : ∀ d', x.dst = some d' → d' ∈ W) (hne : x.dst ≠ some d)
    (hlk : d ∉ looks ops x) (hs : ∀ t ∈ slotOf ops x, t ∉ W) (h : aq E ops x s K) (hK : ∀ g v, guardsOf ops s x = some g → K (s.setD x.dst ⟨g, v⟩) → K' ((s.setD x.dst ⟨g, v⟩).addL d u c)) : aq E ops x (s.addL d u c) K' := by
  refine aq_move (s := s) (fun t ht => addL_ne hF hd (fun e => hlk (by rw [← e]; exact ht))) (addL_sub hl) (fun g hg y hy => addL_ne hF hd (fun e => guards_out hF hs hg y hy (by rw [e]; exact hd))) h ?_
  intro g v hg hk
  rw [addL_setD hF hd hx hne (guards_out hF hs hg)]
  exact hK g v hg hk
def isCallV (o : Oper) : Prop := ∃ cl f, o.op = .call cl ∧ cl.callee = .value f
def isApp (o : Oper) : Prop := (∃ cl, o.op = .call cl ∧ cl.callee = .builtin .append) ∨ ∃ t n parts, o.op = .buildSlice t n parts
theorem partsOf_add {s s' : AS} {d : Nat} (c : Option LC) : ∀ (parts : List (Nat × Operand)) (k : Nat) (L L1 : Locs) (E : El) (l), (∀ p ∈ parts, s'.rd p.2 = s.rd p.2) → L d = none → partsOf s k L parts E = some (l, L1) →
    partsOf s' k (upd L d c) parts E = some (l, upd L1 d c) ∧ L1 d = none
  | [], k, L, L1, E, l, _, hd, h => by simp only [partsOf, Option.some.injEq, Prod.mk.injEq] at h; obtain ⟨rfl, rfl⟩ := h; exact ⟨rfl, hd⟩
  | (i, x) :: r, k, L, L1, E, l, hr, hd, h => by
    have e : s'.rd x = s.rd x := hr (i, x) (by simp)
    simp only [partsOf, e] at h ⊢
    split at h
    case h_2 => cases h
    split at h
    case h_2 => cases h
    rename_i v L2 hp
    obtain ⟨h1, h2⟩ := persistS_upd c hd hp
    rw [h1]
    simp only
    rw [seqV_eq] at h ⊢
    split at h
    case h_2 => cases h
    split at h
    case h_2 => cases h
    rename_i ys L3 hy
    obtain ⟨h3, h4⟩ := partsOf_add c r (k + 1) L2 L3 E ys (fun p hp => hr p (by simp [hp])) h2 hy
    simp only [Option.some.injEq, Prod.mk.injEq] at h
    obtain ⟨rfl, rfl⟩ := h
    rw [h3]
    exact ⟨rfl, h4⟩
theorem partsT_add {s s' : AS} {d : Nat} (c : Option LC) : ∀ (parts : List (Nat × Operand)) (k : Nat) (L L1 : Locs) (E : El) (l), (∀ p ∈ parts, s'.rd p.2 = s.rd p.2) → L d = none → partsT s k L parts E = some (l, L1) →
    partsT s' k (upd L d c) parts E = some (l, upd L1 d c) ∧ L1 d = none
  | [], k, L, L1, E, l, _, hd, h => by simp only [partsT, Option.some.injEq, Prod.mk.injEq] at h; obtain ⟨rfl, rfl⟩ := h; exact ⟨rfl, hd⟩
  | (i, x) :: r, k, L, L1, E, l, hr, hd, h => by
    have e : s'.rd x = s.rd x := hr (i, x) (by simp)
    simp only [partsT, e] at h ⊢
    split at h
    case h_2 => cases h
    split at h
    case h_2 => cases h
    rename_i v L2 hp
    obtain ⟨h1, h2⟩ := absorbS_upd c hd hp
    rw [h1]
    simp only
    rw [seqV_eq] at h ⊢
    split at h
    case h_2 => cases h
    split at h
    case h_2 => cases h
    rename_i ys L3 hy
    obtain ⟨h3, h4⟩ := partsT_add c r (k + 1) L2 L3 E ys (fun p hp => hr p (by simp [hp])) h2 hy
    simp only [Option.some.injEq, Prod.mk.injEq] at h
    obtain ⟨rfl, rfl⟩ := h
    rw [h3]
    exact ⟨rfl, h4⟩
theorem lBuild0_add {s s' : AS} {d x : Nat} {c : LC} {t : TI} {n : Nat} {parts : List (Nat × Operand)} {O : Option Prop} {v : AV} {L : Locs} {U : Nat → Bool} (hL : s'.locs = upd s.locs d (some c)) (hU : s'.used = upd s.used d true) (hl : s.locs d = none) (hu : s.used d = false) (hne : x ≠ d)
    (hr : ∀ p ∈ parts, s'.rd p.2 = s.rd p.2) (h : lBuildSlice0 s x t n parts = some (O, v, L, U)) : lBuildSlice0 s' x t n parts = some (O, v, upd L d (some c), upd U d true) ∧ L d = none ∧ U d = false := by
  unfold lBuildSlice0 at h ⊢
  split at h
  case h_2 => cases h
  split at h
  case h_2 => cases h
  rename_i E l L1 hp
  obtain ⟨h1, h2⟩ := partsOf_add (some c) _ _ _ _ _ _ hr hl hp
  rw [hL, h1]
  simp only
  split at h
  case h_2 => cases h
  unfold fresh at h ⊢
  rw [hL, hU, upd_ne _ _ hne, upd_ne _ _ hne]
  split at h
  case h_2 => cases h
  rename_i hu2 hl2
  simp only [Option.some.injEq, Prod.mk.injEq] at h
  obtain ⟨rfl, rfl, rfl, rfl⟩ := h
  refine ⟨by rw [upd_comm L1 _ _ (Ne.symm hne), upd_comm s.used _ _ (Ne.symm hne)], by rw [upd_ne _ _ (Ne.symm hne)]; exact h2, by rw [upd_ne _ _ (Ne.symm hne)]; exact hu⟩
theorem isD_add {s s' : AS} {d : Nat} (hU : s'.used = upd s.used d true) (hd1 : d < 1000) : isD s' = isD s := by
  unfold isD
  rw [hU, upd_ne _ _ (by unfold DF; omega)]
theorem lBuild_add {s s' : AS} {d x : Nat} {c : LC} {t : TI} {n : Nat} {parts : List (Nat × Operand)} {O : Option Prop} {v : AV} {L : Locs} {U : Nat → Bool} (hL : s'.locs = upd s.locs d (some c)) (hU : s'.used = upd s.used d true) (hl : s.locs d = none) (hu : s.used d = false) (hne : x ≠ d) (hd1 : d < 1000)
    (hr : ∀ p ∈ parts, s'.rd p.2 = s.rd p.2) (h : lBuildSlice s x t n parts = some (O, v, L, U)) : lBuildSlice s' x t n parts = some (O, v, upd L d (some c), upd U d true) ∧ L d = none ∧ U d = false := by
  have old := fun h => lBuild0_add (t := t) (n := n) (O := O) (v := v) (L := L) (U := U) hL hU hl hu hne hr h
  unfold lBuildSlice at h ⊢
  rw [isD_add hU hd1]
  split at h
  · rename_i E hD
    split at h
    · rename_i hdE
      split at h
      case h_2 => cases h
      rename_i l L1 hp
      obtain ⟨h1, h2⟩ := partsT_add (some c) _ _ _ _ _ _ hr hl hp
      try simp only [hD, hdE]
      rw [hL, h1]
      simp only
      split at h
      case h_2 => cases h
      unfold fresh at h ⊢
      rw [hL, hU, upd_ne _ _ hne, upd_ne _ _ hne]
      split at h
      case h_2 => cases h
      rename_i hu2 hl2
      simp only [Option.some.injEq, Prod.mk.injEq] at h
      obtain ⟨rfl, rfl, rfl, rfl⟩ := h
      refine ⟨by rw [upd_comm L1 _ _ (Ne.symm hne), upd_comm s.used _ _ (Ne.symm hne)], by rw [upd_ne _ _ (Ne.symm hne)]; exact h2, by rw [upd_ne _ _ (Ne.symm hne)]; exact hu⟩
    · rename_i hdE
      try simp only [hD, hdE]
      exact old h
  · exact old h
theorem rdSl_add {L : Locs} {d : Nat} {c : LC} (hl : L d = none) {v r} (h : rdSl L v = some r) : rdSl (upd L d (some c)) v = some r := by
  refine rdSl_mono (fun id x hx => ?_) h
  rw [upd_ne]
  · exact hx
  · intro e; rw [e, hl] at hx; cases hx
theorem lAppend0_add {s s' : AS} {d x : Nat} {c : LC} {tx : TI} {a b : AV} {O : Option Prop} {v : AV} {L : Locs} {U : Nat → Bool} (hL : s'.locs = upd s.locs d (some c)) (hU : s'.used = upd s.used d true) (hl : s.locs d = none) (hu : s.used d = false) (hne : x ≠ d)
    (h : lAppend0 s x tx a b = some (O, v, L, U)) : lAppend0 s' x tx a b = some (O, v, upd L d (some c), upd U d true) ∧ L d = none ∧ U d = false := by
  unfold lAppend0 at h ⊢
  split at h
  case h_2 => cases h
  rename_i E E' m hrd
  rw [hL, rdSl_add hl hrd]
  simp only
  split at h
  case h_2 => cases h
  rename_i m' hm
  have hfx : ∀ {k : LR}, fresh s x k = some (O, v, L, U) → fresh s' x = fun k => k := by
    intro k hk
    funext k'
    unfold fresh at hk ⊢
    rw [hL, hU, upd_ne _ _ hne, upd_ne _ _ hne]
    split at hk
    · first | rfl | (rename_i h1 h2; rw [h1, h2])
    · cases hk
  have hfs : ∀ {k : LR}, fresh s x k = some (O, v, L, U) → k = some (O, v, L, U) := by
    intro k hk
    unfold fresh at hk
    split at hk
    · exact hk
    · cases hk
  split at h
  · rename_i E0
    cases hE : decide (E0 = E) with
    | false => simp only [hE] at h; cases h
    | true =>
    simp only [hE] at h ⊢
    rw [hfx h]
    have := hfs h
    cases this
    exact ⟨by rw [hU, upd_comm _ _ _ (Ne.symm hne), upd_comm s.used _ _ (Ne.symm hne)], by rw [upd_ne _ _ (Ne.symm hne)]; exact hl, by rw [upd_ne _ _ (Ne.symm hne)]; exact hu⟩
  · rename_i id
    split at h
    case h_2 => cases h
    rename_i E0 l hid
    have hidd : id ≠ d := by intro e; rw [e, hl] at hid; cases hid
    rw [upd_ne _ _ hidd, hid]
    simp only
    split at h
    case h_2 => cases h
    rw [hfx h]
    have := hfs h
    cases this
    refine ⟨?_, ?_, ?_⟩
    · rw [hU, upd_comm s.used _ _ (Ne.symm hne), upd_comm s.locs _ _ (Ne.symm hidd), upd_comm (upd s.locs id none) _ _ (Ne.symm hne)]
    · rw [upd_ne _ _ (Ne.symm hne), upd_ne _ _ (Ne.symm hidd)]; exact hl
    · rw [upd_ne _ _ (Ne.symm hne)]; exact hu
  · cases h
theorem lAppendT_add {s s' : AS} {d x : Nat} {c : LC} {tx : TI} {a : AV} {id2 : Nat} {O : Option Prop} {v : AV} {L : Locs} {U : Nat → Bool} (hL : s'.locs = upd s.locs d (some c)) (hU : s'.used = upd s.used d true) (hl : s.locs d = none) (hu : s.used d = false) (hne : x ≠ d)
    (h : lAppendT s x tx a id2 = some (O, v, L, U)) : lAppendT s' x tx a id2 = some (O, v, upd L d (some c), upd U d true) ∧ L d = none ∧ U d = false := by
  unfold lAppendT at h ⊢
  split at h
  case h_2 => cases h
  rename_i E E' m hid2
  have hne2 : id2 ≠ d := by intro e; rw [e, hl] at hid2; cases hid2
  rw [hL, upd_ne _ _ hne2, hid2]
  simp only
  split at h
  case h_2 => cases h
  rename_i m' hm
  have hfx : ∀ {k : LR}, fresh s x k = some (O, v, L, U) → fresh s' x = fun k => k := by
    intro k hk
    funext k'
    unfold fresh at hk ⊢
    rw [hL, hU, upd_ne _ _ hne, upd_ne _ _ hne]
    split at hk
    · first | rfl | (rename_i h1 h2; rw [h1, h2])
    · cases hk
  have hfs : ∀ {k : LR}, fresh s x k = some (O, v, L, U) → k = some (O, v, L, U) := by
    intro k hk
    unfold fresh at hk
    split at hk
    · exact hk
    · cases hk
  split at h
  · rename_i E0
    cases hE : decide (E0 = E) with
    | false => simp only [hE] at h; cases h
    | true =>
    simp only [hE] at h ⊢
    rw [hfx h]
    have := hfs h
    cases this
    refine ⟨?_, ?_, ?_⟩
    · rw [hU, upd_comm s.used _ _ (Ne.symm hne), upd_comm s.locs _ _ (Ne.symm hne2), upd_comm (upd s.locs id2 none) _ _ (Ne.symm hne)]
    · rw [upd_ne _ _ (Ne.symm hne), upd_ne _ _ (Ne.symm hne2)]; exact hl
    · rw [upd_ne _ _ (Ne.symm hne)]; exact hu
  · rename_i id
    split at h
    case h_2 => cases h
    rename_i E0 l hid
    have hidd : id ≠ d := by
      intro e
      rcases upd_cases hid with ⟨_, h'⟩ | ⟨_, h'⟩
      · cases h'
      · rw [e, hl] at h'; cases h'
    rw [upd_comm s.locs _ _ (Ne.symm hne2), upd_ne _ _ hidd, hid]
    simp only
    split at h
    case h_2 => cases h
    rw [hfx h]
    have := hfs h
    cases this
    refine ⟨?_, ?_, ?_⟩
    · rw [hU, upd_comm s.used _ _ (Ne.symm hne), upd_comm (upd s.locs id2 none) _ _ (Ne.symm hidd), upd_comm (upd (upd s.locs id2 none) id none) _ _ (Ne.symm hne)]
    · rw [upd_ne _ _ (Ne.symm hne), upd_ne _ _ (Ne.symm hidd), upd_ne _ _ (Ne.symm hne2)]; exact hl
    · rw [upd_ne _ _ (Ne.symm hne)]; exact hu
  · cases h
theorem lAppend_add {s s' : AS} {d x : Nat} {c : LC} {tx : TI} {a b : AV} {O : Option Prop} {v : AV} {L : Locs} {U : Nat → Bool} (hL : s'.locs = upd s.locs d (some c)) (hU : s'.used = upd s.used d true) (hl : s.locs d = none) (hu : s.used d = false) (hne : x ≠ d)
    (h : lAppend s x tx a b = some (O, v, L, U)) : lAppend s' x tx a b = some (O, v, upd L d (some c), upd U d true) ∧ L d = none ∧ U d = false := by
  have old := fun h => lAppend0_add (tx := tx) (a := a) (b := b) (O := O) (v := v) (L := L) (U := U) hL hU hl hu hne h
  unfold lAppend at h ⊢
  split at h
  · rename_i id2
    have hdom : id2 ≠ d := by
      rintro rfl
      split at h
      · rename_i ht
        simp [isTree, hl] at ht
      · unfold lAppend0 at h
        simp only [rdSl, hl] at h
        cases tx <;> cases h
    have et : isTree s'.locs id2 = isTree s.locs id2 := by unfold isTree; rw [hL, upd_ne _ _ hdom]
    simp only [et]
    split at h
    · rename_i ht
      try simp only [ht]
      exact lAppendT_add hL hU hl hu hne h
    · rename_i ht
      try simp only [ht]
      exact old h
  · exact old h
theorem lval_app_add {T : Tab} {o : Oper} {s : AS} {d : Nat} {u : AV} {c : LC} {O : Option Prop} {v : AV} {L : Locs} {U : Nat → Bool} (ha : isApp o) (hl : s.locs d = none) (hu : s.used d = false) (hne : o.dst ≠ some d) (hd1 : d < 1000)
    (hr : ∀ x ∈ o.op.operands.toList, (s.addL d u c).rd x = s.rd x) (h : lval T s o = some (O, v, L, U)) : lval T (s.addL d u c) o = some (O, v, upd L d (some c), upd U d true) ∧ L d = none ∧ U d = false := by
  obtain ⟨dst, op, type, pos, after, guard⟩ := o
  rcases ha with ⟨cl, hc, hf⟩ | ⟨t, n, parts, hc⟩
  case inr =>
    simp only at hc hne hr
    subst hc
    cases dst with
    | none => simp [lval] at h
    | some x =>
      have hxd : x ≠ d := fun e => hne (by rw [e])
      simp only [lval] at h ⊢
      exact lBuild_add rfl rfl hl hu hxd hd1 (fun p hp => hr p.2 (by simp [Op.operands]; exact ⟨p.1, by simpa using hp⟩)) h
  simp only at hc hne hr
  subst hc
  cases dst with
  | none => simp [lval] at h
  | some x =>
    have hxd : x ≠ d := fun e => hne (by rw [e])
    simp only [lval, hf] at h ⊢
    split at h
    · rename_i a b tx ty h0 he ht
      have hra : (s.addL d u c).rd a = s.rd a := hr a (by
        have : a ∈ cl.args.toList := by rw [he]; simp
        simp only [Op.operands, Call.operands, hf]
        simpa using this)
      have hrb : (s.addL d u c).rd b = s.rd b := hr b (by
        have : b ∈ cl.args.toList := by rw [he]; simp
        simp only [Op.operands, Call.operands, hf]
        simpa using this)
      rw [hra, hrb]
      cases hE : decide (tx = ty) with
      | false => simp only [hE] at h; cases h
      | true =>
        simp only [hE] at h ⊢
        exact lAppend_add rfl rfl hl hu hxd h
    all_goals first | (rename_i hf2 _ _; cases hf2; done) | (cases h; done)
theorem al_add {E : Ctx} {ops : List Oper} {x : Oper} {s : AS} {W : List Nat} {K K' : AS → Prop} {d : Nat} {u : AV} {c : LC} (hm : CtxMono E) (hF : Unmen s W) (hd : d ∈ W) (hd1 : d < 1000) (hl : s.locs d = none) (hu : s.used d = false) (hx : ∀ d', x.dst = some d' → d' ∈ W) (hne : x.dst ≠ some d)
    (hlk : d ∉ looks ops x) (hxk : isCallV x ∨ isApp x) (h : al E x s K) (hK : ∀ v L U, L d = none → U d = false → K ((s.setD x.dst ⟨[], v⟩).mem L U) → K' (((s.setD x.dst ⟨[], v⟩).mem L U).addL d u c)) : al E x (s.addL d u c) K' := by
  have hlook : ∀ t ∈ looks ops x, (s.addL d u c).env t = s.env t := fun t ht => addL_ne hF hd (fun e => hlk (by rw [← e]; exact ht))
  unfold al at h ⊢
  rw [okOps_congr hlook, callOf_congr (rd_of_looks hlook)]
  split at h
  case h_2 => exact h.elim
  split at h
  case h_2 => exact h.elim
  split at h
  · split at h
    · rename_i own C hC
      split at h
      case h_2 => exact h.elim
      rename_i as L1 harg
      obtain ⟨h1, h2, h3⟩ := argL_upd (some c) hl harg
      show match argL own (upd s.locs d (some c)) _ with
        | some (as, L) => C as fun r rs => match takeR L (upd s.used d true) (1000 * (x.dst.getD 0 + 1)) r with
          | some (v, L', U', n') => match backL L' U' n' (tgt _ as) rs with
            | some (L'', U'') => setM E.N (s.addL d u c) x.dst v L'' U'' K'
            | none => False
          | none => False
        | none => False
      rw [h1]
      refine hm _ _ _ hC _ _ _ (fun r rs hk => ?_) h
      split at hk
      case h_2 => exact hk.elim
      rename_i v L2 U2 n2 ht
      split at hk
      case h_2 => exact hk.elim
      rename_i L3 U3 hb
      have hlt : d < 1000 * (x.dst.getD 0 + 1) := by omega
      obtain ⟨h4, h5, h6, h7⟩ := takeR_upd (some c) hlt ht
      obtain ⟨h8, h9, h10⟩ := backL_upd (some c) (by omega) (argL_ne hl harg) hb
      rw [h4]
      simp only [h8]
      obtain ⟨h11, h12⟩ := setM_iff.1 hk
      refine setM_iff.2 ⟨h11, ?_⟩
      rw [addL_setD_mem hF hd hx hne]
      exact hK v L3 U3 (by rw [h9, h5, h2]) (by rw [h10, h6, hu]) h12
    · exact h.elim
  · rcases hxk with ⟨cl, f, hc, hf⟩ | hxa
    · exfalso
      have hq : qval E.T s x = none := by
        unfold qval; rw [hc]; simp only [hf]
      have hlv : lval E.T s x = none := by
        unfold lval; rw [hc]
        cases x.dst with
        | none => rfl
        | some d => simp only [hf]
      rw [hq, hlv] at h
      exact h
    · have hq : ∀ s', qval E.T s' x = none := by
        intro s'
        rcases hxa with ⟨cl, hc, hf⟩ | ⟨t, n, parts, hc⟩
        · unfold qval; rw [hc]; simp only [hf]
        · unfold qval; rw [hc]
      rw [hq] at h ⊢
      simp only at h ⊢
      split at h
      case h_2 => exact h.elim
      rename_i O v L2 U2 hlv
      obtain ⟨h1, h2, h3⟩ := lval_app_add (u := u) (c := c) hxa hl hu hne hd1 (rd_of_looks hlook) hlv
      rw [h1]
      simp only
      rw [ob_iff] at h ⊢
      refine ⟨h.1, ?_⟩
      obtain ⟨h11, h12⟩ := setM_iff.1 h.2
      refine setM_iff.2 ⟨h11, ?_⟩
      rw [addL_setD_mem hF hd hx hne]
      exact hK v L2 U2 h2 h3 h12
theorem RC_add {E : Ctx} {ops : List Oper} {x : Oper} {s : AS} {W : List Nat} {d : Nat} {u : AV} {c : LC} (hF : Unmen s W) (hd : d ∈ W) (hl : s.locs d = none) (hne : x.dst ≠ some d) (hlk : d ∉ looks ops x) (h : RC E x s) : RC E x (s.addL d u c) := by
  obtain ⟨d', O, v, h1, h2, h3, h4⟩ := h
  have hne' : d' ≠ d := fun e => hne (by rw [h1, e])
  refine ⟨d', O, v, h1, qeval_mono (rd_of_looks (ops := ops) fun t ht => addL_ne hF hd (fun e => hlk (by rw [← e]; exact ht))) (addL_sub hl) h2, ?_, by rw [addL_ne hF hd hne']; exact h4⟩
  rw [addL_ne hF hd hne']
  exact fun hg => h3 ((gHolds_congr fun y hy => addL_ne hF hd (fun e => hF d' y hy (by rw [e]; exact hd))).1 hg)
end Go.Rs
end
section
namespace Go.Rs
variable {P : Program} {L L' : Locs}
def DI.ix : DI → Nat
  | .q i | .l i _ | .a i => i
def VR (E : Ctx) (ops : List Oper) : List DI → AS → (AS → Prop) → Prop
  | [], s, K => K s
  | .q i :: r, s, K => ∃ o, nthO ops i = some o ∧ aq E ops o s fun s' => VR E ops r s' K
  | .l i re :: r, s, K => ∃ o, nthO ops i = some o ∧ al E o s fun s' => (∀ j ∈ re, ∃ o', nthO ops j = some o' ∧ RC E o' s') ∧ VR E ops r s' K
  | .a i :: r, s, K => ∃ o, nthO ops i = some o ∧ al E o s fun s' => VR E ops r s' K
theorem aq_mono {E : Ctx} {ops : List Oper} {o : Oper} {s : AS} {K K' : AS → Prop} (h : aq E ops o s K) (hK : ∀ s', K s' → K' s') : aq E ops o s K' :=
  aq_move (fun _ _ => rfl) (LSub.refl _) (fun _ _ _ _ => rfl) h fun _ _ _ hk => hK _ hk
def dstD (ops : List Oper) (x : DI) : Option Nat := (nthO ops x.ix).bind (·.dst)
def WD (ops : List Oper) (l : List DI) : List Nat := l.filterMap (dstD ops)
theorem mem_WD {ops : List Oper} {l : List DI} {x : DI} {o : Oper} {d : Nat} (hx : x ∈ l) (ho : nthO ops x.ix = some o) (hd : o.dst = some d) : d ∈ WD ops l :=
  List.mem_filterMap.2 ⟨x, hx, by simp [dstD, ho, hd]⟩
theorem of_WD {ops : List Oper} {l : List DI} {d : Nat} (h : d ∈ WD ops l) : ∃ x ∈ l, ∃ o, nthO ops x.ix = some o ∧ o.dst = some d := by
  obtain ⟨x, hx, hd⟩ := List.mem_filterMap.1 h
  cases ho : nthO ops x.ix with
  | none => simp [dstD, ho] at hd
  | some o => exact ⟨x, hx, o, ho, by simpa [dstD, ho] using hd⟩
def preds (o : Oper) : List Nat := (o.after.toList.filter fun e => Region.binds .any e).map (·.on)
inductive Anc (ops : List Oper) : Nat → Nat → Prop
  | one {p i : Nat} {o : Oper} (ho : nthO ops i = some o) (hp : p ∈ preds o) : Anc ops p i
  | step {x p i : Nat} {o : Oper} (h : Anc ops x p) (ho : nthO ops i = some o) (hp : p ∈ preds o) : Anc ops x i
def HopK (ops : List Oper) : DI → DI → Prop
  | .q _, .q _ => True
  | .q i, .l _ re => (∀ ox, nthO ops i = some ox → envOnly ox = true ∨ i ∈ re) ∧ ∀ j ∈ re, j ≠ i → Anc ops i j ∨ ∀ oj ox, nthO ops j = some oj → nthO ops i = some ox → ∀ d, ox.dst = some d → d ∉ looks ops oj ∧ oj.dst ≠ some d
  | .q _, .a _ => True
  | .l i re, .a k => (∀ ox, nthO ops i = some ox → isCallV ox ∨ isApp ox) ∧ ∀ j ∈ re, ∀ oj ok, nthO ops j = some oj → nthO ops k = some ok → ∀ d, ok.dst = some d → d ∉ looks ops oj ∧ oj.dst ≠ some d
  | .a _, .a _ => True
  | _, _ => False
structure Hop (ops : List Oper) (x y : DI) : Prop where
  apart : ∀ ox oy, nthO ops x.ix = some ox → nthO ops y.ix = some oy → (∀ d, ox.dst = some d → d ∉ looks ops oy) ∧ (∀ d, oy.dst = some d → d ∉ looks ops ox)
  kind : HopK ops x y
def Good (ops : List Oper) : List DI → Prop
  | [] => True
  | x :: r => (∀ o, nthO ops x.ix = some o → (∀ t ∈ slotOf ops o, t ∉ WD ops (x :: r)) ∧ (∀ d, o.dst = some d → d ∉ WD ops r ∧ d ∉ looks ops o)) ∧ (∀ y ∈ r, x.ix ≠ y.ix) ∧ Good ops r
theorem Good.drop {ops : List Oper} {l1 l2 : List DI} {x : DI} (h : Good ops (l1 ++ x :: l2)) : Good ops (l1 ++ l2) := by
  have sub : ∀ {l1 : List DI} {d}, d ∈ WD ops (l1 ++ l2) → d ∈ WD ops (l1 ++ x :: l2) := by
    intro l1 d hd
    obtain ⟨y, hy, o, ho, hd⟩ := of_WD hd
    exact mem_WD (by simp at hy ⊢; rcases hy with h | h <;> simp [h]) ho hd
  induction l1 with
  | nil => exact h.2.2
  | cons y l1 ih =>
    obtain ⟨h1, h0, h2⟩ := h
    refine ⟨fun o ho => ?_, fun z hz => h0 z (by simp at hz ⊢; rcases hz with h | h <;> simp [h]), ih h2⟩
    obtain ⟨h3, h4⟩ := h1 o ho
    exact ⟨fun t ht hm => h3 t ht (sub (l1 := y :: l1) hm), fun d hd => ⟨fun hm => (h4 d hd).1 (sub hm), (h4 d hd).2⟩⟩
theorem Good.tail {ops : List Oper} {x : DI} {l : List DI} (h : Good ops (x :: l)) : Good ops l := h.2.2
theorem Unmen.sub {s : AS} {W W' : List Nat} (h : Unmen s W) (hs : ∀ d ∈ W', d ∈ W) : Unmen s W' := fun t y hy hm => h t y hy (hs _ hm)
theorem WD_cons {ops : List Oper} {x : DI} {l : List DI} : ∀ d ∈ WD ops l, d ∈ WD ops (x :: l) := by
  intro d hd
  obtain ⟨y, hy, o, ho, hd⟩ := of_WD hd
  exact mem_WD (by simp [hy]) ho hd
theorem pair_apart {ops : List Oper} {x I : DI} {l1 l2 : List DI} {ox oI : Oper} (hG : Good ops (x :: l1 ++ I :: l2)) (hH : ∀ y ∈ x :: l1, Hop ops y I) (hox : nthO ops x.ix = some ox) (hoI : nthO ops I.ix = some oI) :
    Apart ops (WD ops (x :: l1 ++ I :: l2)) ox oI := by
  have hgI : ∀ t ∈ slotOf ops oI, t ∉ WD ops (x :: l1 ++ I :: l2) := by
    intro t ht hm
    obtain ⟨y, hy, o, ho, hd⟩ := of_WD hm
    rcases List.mem_append.1 hy with hy | hy
    · exact ((hH y hy).apart o oI ho hoI).1 t hd (by simp [looks, ht])
    · have : ∀ {l : List DI}, Good ops (l ++ I :: l2) → Good ops (I :: l2) := by
        intro l
        induction l with
        | nil => exact fun h => h
        | cons z l ih => exact fun h => ih h.2.2
      have hGI := this hG
      exact (hGI.1 oI hoI).1 t ht (mem_WD hy ho hd)
  have hx := hG.1 ox hox
  refine ⟨fun d hd => mem_WD (by simp) hox hd, fun d hd => mem_WD (x := I) (by simp) hoI hd, ((hH x (by simp)).apart ox oI hox hoI).1, ((hH x (by simp)).apart ox oI hox hoI).2, fun d hd e => ?_, fun d hd => (hx.2 d hd).2, hx.1, hgI⟩
  exact (hx.2 d hd).1 (mem_WD (x := I) (by simp) hoI e)
end Go.Rs
end
section
namespace Go.Rs
variable {P : Program} {L L' : Locs}
theorem Unmen.next {ops : List Oper} {x : DI} {l : List DI} {ox : Oper} {s : AS} {g v} (hG : Good ops (x :: l)) (hF : Unmen s (WD ops (x :: l))) (hox : nthO ops x.ix = some ox) (hg : guardsOf ops s ox = some g) :
    Unmen (s.setD ox.dst ⟨g, v⟩) (WD ops l) := by
  have h1 := guards_out hF (hG.1 ox hox).1 hg
  exact (hF.setD (fun d hd => mem_WD (by simp) hox hd) h1).sub WD_cons
theorem bub_q {E : Ctx} {ops : List Oper} {i : Nat} {l2 : List DI} {K : AS → Prop} : ∀ (l1 : List DI) (s : AS), Good ops (l1 ++ .q i :: l2) → (∀ x ∈ l1, Hop ops x (.q i)) → Unmen s (WD ops (l1 ++ .q i :: l2)) → VR E ops (l1 ++ .q i :: l2) s K →
    ∃ o, nthO ops i = some o ∧ aq E ops o s fun s' => VR E ops (l1 ++ l2) s' K
  | [], s, hG, hH, hF, h => h
  | .q x :: l1, s, hG, hH, hF, h => by
    obtain ⟨ox, hox, h1⟩ := h
    have hex : ∃ oi, nthO ops i = some oi := by
      obtain ⟨g, O, v, hg, -, -, -, -, h2⟩ := aq_iff.1 h1
      obtain ⟨o, ho, -⟩ := bub_q l1 _ hG.tail (fun y hy => hH y (by simp [hy])) (Unmen.next hG hF hox hg) h2
      exact ⟨o, ho⟩
    obtain ⟨oi, hoi⟩ := hex
    refine ⟨oi, hoi, ?_⟩
    have ha := pair_apart hG hH hox hoi
    have h2 : aq E ops ox s fun s1 => aq E ops oi s1 fun s2 => VR E ops (l1 ++ l2) s2 K := by
      obtain ⟨g, O, v, hg, h3, h4, h5, h6, h7⟩ := aq_iff.1 h1
      refine aq_iff.2 ⟨g, O, v, hg, h3, h4, h5, h6, ?_⟩
      obtain ⟨o, ho, h8⟩ := bub_q l1 _ hG.tail (fun y hy => hH y (by simp [hy])) (Unmen.next hG hF hox hg) h7
      rw [hoi] at ho; cases ho
      exact h8
    exact aq_mono (aq_aq ha hF h2) fun s' h => ⟨ox, hox, h⟩
  | .l x re :: l1, s, hG, hH, hF, h => False.elim (hH (.l x re) (by simp)).kind
  | .a x :: l1, s, hG, hH, hF, h => False.elim (hH (.a x) (by simp)).kind
theorem RC_setD {E : Ctx} {ops : List Oper} {o : Oper} {s : AS} {W : List Nat} {d : Option Nat} {e : Ent} (hF : Unmen s W) (hd : ∀ d', d = some d' → d' ∈ W) (hlk : ∀ d', d = some d' → d' ∉ looks ops o ∧ o.dst ≠ some d')
    (hg : ∀ d', o.dst = some d' → ∀ y ∈ (s.env d').g, y.1 ∉ W) (h : RC E o (s.setD d e)) : RC E o s := by
  have e1 : ∀ t, d ≠ some t → (s.setD d e).env t = s.env t := fun t ht => by rw [setD_env hF hd, if_neg ht]
  obtain ⟨d', O, v, h1, h2, h3, h4⟩ := h
  have hne : d ≠ some d' := fun e => (hlk d' e).2 h1
  rw [e1 d' hne] at h3 h4
  refine ⟨d', O, v, h1, qeval_mono (s := s.setD d e) (rd_of_looks (ops := ops) fun t ht => (e1 t (fun e => (hlk t e).1 ht)).symm) (by rw [setD_locs]; exact LSub.refl _) h2, ?_, h4⟩
  exact fun hg' => h3 ((gHolds_congr fun y hy => e1 y.1 (fun e => hg d' h1 y hy (hd _ e))).2 hg')
theorem bub_l {E : Ctx} (hm : CtxMono E) {ops : List Oper} {i : Nat} {re : List Nat} {l2 : List DI} {K : AS → Prop} : ∀ (l1 : List DI) (s : AS), Good ops (l1 ++ .l i re :: l2) → (∀ x ∈ l1, Hop ops x (.l i re)) → (∀ x ∈ l1, ∀ j ∈ re, Anc ops x.ix j → ∃ y ∈ l1, j = y.ix) → l1.Pairwise (fun a b => ¬ Anc ops b.ix a.ix) → Unmen s (WD ops (l1 ++ .l i re :: l2)) →
    VR E ops (l1 ++ .l i re :: l2) s K → ∃ o, nthO ops i = some o ∧ al E o s fun s' => (∀ j ∈ re, (∀ x ∈ l1, j ≠ x.ix) → ∃ o', nthO ops j = some o' ∧ RC E o' s') ∧ VR E ops (l1 ++ l2) s' K
  | [], s, hG, hH, hO, hT, hF, h => by
    obtain ⟨o, ho, h⟩ := h
    exact ⟨o, ho, al_mono hm h fun v L U h => ⟨fun j hj _ => h.1 j hj, h.2⟩⟩
  | .q x :: l1, s, hG, hH, hO, hT, hF, h => by
    obtain ⟨ox, hox, h1⟩ := h
    have hH' : ∀ y ∈ l1, Hop ops y (.l i re) := fun y hy => hH y (by simp [hy])
    have hT' := (List.pairwise_cons.1 hT).2
    have hO' : ∀ y ∈ l1, ∀ j ∈ re, Anc ops y.ix j → ∃ z ∈ l1, j = z.ix := by
      intro y hy j hj ha
      obtain ⟨z, hz, e⟩ := hO y (by simp [hy]) j hj ha
      simp at hz
      rcases hz with rfl | hz
      · exact absurd (e ▸ ha) ((List.pairwise_cons.1 hT).1 y hy)
      · exact ⟨z, hz, e⟩
    have hex : ∃ oi, nthO ops i = some oi := by
      obtain ⟨g, O, v, hg, -, -, -, -, h2⟩ := aq_iff.1 h1
      obtain ⟨o, ho, -⟩ := bub_l hm l1 _ hG.tail hH' hO' hT' (Unmen.next hG hF hox hg) h2
      exact ⟨o, ho⟩
    obtain ⟨oi, hoi⟩ := hex
    refine ⟨oi, hoi, ?_⟩
    have ha := pair_apart hG hH hox hoi
    obtain ⟨hk1, hk2⟩ := (hH (.q x) (by simp)).kind
    have hdist : ∀ y ∈ l1, x ≠ y.ix := fun y hy => hG.2.1 y (by simp [hy])
    let R : AS → Prop := fun s2 => (∀ j ∈ re, (∀ y ∈ l1, j ≠ y.ix) → ∃ o', nthO ops j = some o' ∧ RC E o' s2)
    have h2 : aq E ops ox s fun s1 => al E oi s1 fun s2 => R s2 ∧ VR E ops (l1 ++ l2) s2 K := by
      obtain ⟨g, O, v, hg, h3, h4, h5, h6, h7⟩ := aq_iff.1 h1
      refine aq_iff.2 ⟨g, O, v, hg, h3, h4, h5, h6, ?_⟩
      obtain ⟨o, ho, h8⟩ := bub_l hm l1 _ hG.tail hH' hO' hT' (Unmen.next hG hF hox hg) h7
      rw [hoi] at ho; cases ho
      exact h8
    have h3 := aq_al hm ha hF (R := R) (fun s2 hr => by
      rcases hk1 ox hox with h | h
      · exact .inl h
      · obtain ⟨o', ho', hrc⟩ := hr x h hdist
        have e : nthO ops x = some ox := hox
        rw [e] at ho'; cases ho'
        exact .inr (.inl hrc)) h2
    refine al_mono hm h3 fun v L U h => ?_
    obtain ⟨g, O, v', hg, h4, h5, h6, h7, h8, h9⟩ := aq_iff.1 h
    have hF2 : Unmen ((s.setD oi.dst ⟨[], v⟩).mem L U) (WD ops (.q x :: l1 ++ .l i re :: l2)) := hF.setD ha.yw (by simp)
    refine ⟨fun j hj hne => ?_, ox, hox, aq_iff.2 ⟨g, O, v', hg, h4, h5, h6, h7, h9⟩⟩
    obtain ⟨o', ho', hrc⟩ := h8 j hj (fun y hy => hne y (by simp [hy]))
    have hdis : ∀ oj ox, nthO ops j = some oj → nthO ops x = some ox → ∀ d, ox.dst = some d → d ∉ looks ops oj ∧ oj.dst ≠ some d := by
      rcases hk2 j hj (hne (.q x) (by simp)) with hanc | hd
      · obtain ⟨z, hz, e⟩ := hO (.q x) (by simp) j hj hanc
        exact absurd e (hne z hz)
      · exact hd
    refine ⟨o', ho', RC_setD (ops := ops) hF2 ha.xw (fun d hd => hdis o' ox ho' hox d hd) (fun d hd y hy => hF2 d y hy) hrc⟩
  | .l x re' :: l1, s, hG, hH, hO, hT, hF, h => False.elim (hH (.l x re') (by simp)).kind
  | .a x :: l1, s, hG, hH, hO, hT, hF, h => False.elim (hH (.a x) (by simp)).kind
end Go.Rs
end
section
namespace Go.Rs
variable {P : Program} {L L' : Locs}
def AllocOK (ops : List Oper) (l : List DI) : Prop := ∀ k, .a k ∈ l → ∀ o, nthO ops k = some o → ∃ d, allocO o = true ∧ o.dst = some d ∧ o.guard = none
theorem addL_Unmen {s : AS} {W : List Nat} {d : Nat} {u : AV} {c : LC} (hF : Unmen s W) (hd : d ∈ W) : Unmen (s.addL d u c) W := by
  intro t y hy
  rw [addL_env hF hd] at hy
  split at hy
  · simp at hy
  · exact hF t y hy
theorem addL_comm {s : AS} {W : List Nat} {d d' : Nat} {u u' : AV} {c c' : LC} (hF : Unmen s W) (hd : d ∈ W) (hd' : d' ∈ W) (hne : d' ≠ d) : (s.addL d' u' c').addL d u c = (s.addL d u c).addL d' u' c' := by
  refine AS.ext' (fun t => ?_) ?_ ?_
  · rw [addL_env (addL_Unmen hF hd') hd, addL_env (addL_Unmen hF hd) hd', addL_env hF hd, addL_env hF hd']
    by_cases h1 : t = d
    · subst h1; simp [Ne.symm hne]
    · simp [h1]
  · exact upd_comm _ _ _ hne
  · exact upd_comm _ _ _ hne
theorem add_a {E : Ctx} (hm : CtxMono E) {ops : List Oper} {i : Nat} {l2 : List DI} {K : AS → Prop} {oi : Oper} {d : Nat} {u : AV} {c : LC} (hoi : nthO ops i = some oi) (ht : allocO oi = true) (hd : oi.dst = some d) (hg : oi.guard = none) (hd1 : d < 1000) (hz : aRes E.T oi d = some (u, c)) :
    ∀ (l1 : List DI) (s : AS), Good ops (l1 ++ .a i :: l2) → (∀ x ∈ l1, Hop ops x (.a i)) → AllocOK ops l1 → Unmen s (WD ops (l1 ++ .a i :: l2)) → s.used d = false → s.locs d = none → VR E ops (l1 ++ .a i :: l2) s K → VR E ops (l1 ++ l2) (s.addL d u c) K
  | [], s, hG, hH, hA, hF, hu, hl, h => by
    obtain ⟨o, ho, h⟩ := h
    rw [hoi] at ho; cases ho
    obtain ⟨c', r', h1, -, -, -, h2⟩ := (al_alloc ht hd hg).1 h
    rw [hz] at h1; cases h1
    exact h2
  | .q x :: l1, s, hG, hH, hA, hF, hu, hl, h => by
    obtain ⟨ox, hox, h1⟩ := h
    have ha := pair_apart hG hH hox hoi
    refine ⟨ox, hox, aq_add hF (ha.yw d hd) hl ha.xw (fun e => ha.ne d e hd) (ha.yx d hd) ha.gx h1 fun g v hgd hk => ?_⟩
    exact add_a hm hoi ht hd hg hd1 hz l1 _ hG.tail (fun y hy => hH y (by simp [hy])) (fun k hk => hA k (by simp [hk])) (Unmen.next hG hF hox hgd) (by rw [setD_used]; exact hu) (by rw [setD_locs]; exact hl) hk
  | .l x re :: l1, s, hG, hH, hA, hF, hu, hl, h => by
    obtain ⟨ox, hox, h1⟩ := h
    have ha := pair_apart hG hH hox hoi
    obtain ⟨hk1, hk2⟩ := (hH (.l x re) (by simp)).kind
    refine ⟨ox, hox, al_add (ops := ops) hm hF (ha.yw d hd) hd1 hl hu ha.xw (fun e => ha.ne d e hd) (ha.yx d hd) (hk1 ox hox) h1 ?_⟩
    rintro v L U hL hU ⟨hrc, hk⟩
    have hF1 : Unmen ((s.setD ox.dst ⟨[], v⟩).mem L U) (WD ops (.l x re :: l1 ++ .a i :: l2)) := hF.setD ha.xw (by simp)
    refine ⟨fun j hj => ?_, ?_⟩
    · obtain ⟨o', ho', hr⟩ := hrc j hj
      have h3 := hk2 j hj o' oi ho' hoi d hd
      exact ⟨o', ho', RC_add (ops := ops) hF1 (ha.yw d hd) hL h3.2 h3.1 hr⟩
    · exact add_a hm hoi ht hd hg hd1 hz l1 _ hG.tail (fun y hy => hH y (by simp [hy])) (fun k hk => hA k (by simp [hk])) (hF1.sub WD_cons) hU hL hk
  | .a x :: l1, s, hG, hH, hA, hF, hu, hl, h => by
    obtain ⟨ox, hox, h1⟩ := h
    have ha := pair_apart hG hH hox hoi
    obtain ⟨dx, htx, hdx, hgx⟩ := hA x (by simp) ox hox
    obtain ⟨c', r', h2, h3, h4, h5, h6⟩ := (al_alloc htx hdx hgx).1 h1
    have hne : dx ≠ d := fun e => ha.ne dx hdx (by rw [hd, e])
    have hdW := ha.yw d hd
    have hxW := ha.xw dx hdx
    refine ⟨ox, hox, (al_alloc htx hdx hgx).2 ⟨c', r', h2, ?_, ?_, h5, ?_⟩⟩
    · show upd s.used d true dx = false
      rw [upd_ne _ _ hne]; exact h3
    · show upd s.locs d _ dx = none
      rw [upd_ne _ _ hne]; exact h4
    · rw [← addL_comm hF hdW hxW hne]
      refine add_a hm hoi ht hd hg hd1 hz l1 _ hG.tail (fun y hy => hH y (by simp [hy])) (fun k hk => hA k (by simp [hk])) ((addL_Unmen hF hxW).sub WD_cons) ?_ ?_ h6
      · show upd s.used dx true d = false
        rw [upd_ne _ _ (Ne.symm hne)]; exact hu
      · show upd s.locs dx _ d = none
        rw [upd_ne _ _ (Ne.symm hne)]; exact hl
end Go.Rs
end
section
namespace Go.Rs
variable {P : Program} {L L' : Locs}
theorem persist_none {d : Nat} (hd : L d = none) {v v' L1} (hp : persist L v = some (v', L1)) : L1 d = none := (persist_upd none hd hp).2
theorem persistS_none {d : Nat} (hd : L d = none) {v v' L1} (hp : persistS L v = some (v', L1)) : L1 d = none := (persistS_upd none hd hp).2
theorem partsOf_none {s : AS} {d : Nat} : ∀ (parts : List (Nat × Operand)) (k : Nat) (L L1 : Locs) (E : El) (l), L d = none → partsOf s k L parts E = some (l, L1) → L1 d = none
  | [], k, L, L1, E, l, hd, h => by simp only [partsOf, Option.some.injEq, Prod.mk.injEq] at h; rw [← h.2]; exact hd
  | (i, x) :: r, k, L, L1, E, l, hd, h => by
    simp only [partsOf, seqV_eq] at h
    split at h
    case h_2 => cases h
    split at h
    case h_2 => cases h
    rename_i h1
    split at h
    case h_2 => cases h
    split at h
    case h_2 => cases h
    rename_i h2
    cases h
    exact partsOf_none r _ _ _ _ _ (persistS_none hd h1) h2
theorem fresh_none {s : AS} {d0 d : Nat} {O : Option Prop} {v : AV} {L1 : Locs} {c : LC} {r} (h : fresh s d0 (some (O, v, upd L1 d0 (some c), upd s.used d0 true)) = some r) (hne : d0 ≠ d) (hl : L1 d = none) (hu : s.used d = false) :
    r.2.2.1 d = none ∧ r.2.2.2 d = false := by
  obtain ⟨-, h⟩ := fresh_some h
  cases h
  exact ⟨(upd_ne L1 _ (Ne.symm hne)).trans hl, (upd_ne s.used _ (Ne.symm hne)).trans hu⟩
theorem upd_none {d id : Nat} {c : Option LC} {x} (hid : L id = some x) (hd : L d = none) : upd L id c d = none := by
  rw [upd_ne]; exact hd; intro e; rw [e, hid] at hd; cases hd
theorem absorbS_none {d : Nat} (hd : L d = none) {v v' L1} (hp : absorbS L v = some (v', L1)) : L1 d = none := (absorbS_upd none hd hp).2
theorem partsT_none {s : AS} {d : Nat} : ∀ (parts : List (Nat × Operand)) (k : Nat) (L L1 : Locs) (E : El) (l), L d = none → partsT s k L parts E = some (l, L1) → L1 d = none
  | [], k, L, L1, E, l, hd, h => by simp only [partsT, Option.some.injEq, Prod.mk.injEq] at h; rw [← h.2]; exact hd
  | (i, x) :: r, k, L, L1, E, l, hd, h => by
    simp only [partsT, seqV_eq] at h
    split at h
    case h_2 => cases h
    split at h
    case h_2 => cases h
    rename_i h1
    split at h
    case h_2 => cases h
    split at h
    case h_2 => cases h
    rename_i h2
    cases h
    exact partsT_none r _ _ _ _ _ (absorbS_none hd h1) h2
theorem upd_none2 {d id : Nat} (hd : L d = none) : upd L id none d = none := by
  by_cases e : d = id
  · subst e; exact upd_same _ _ _
  · rw [upd_ne _ _ e]; exact hd
theorem lBuild_none {s : AS} {d0 d n : Nat} {t : TI} {parts : List (Nat × Operand)} {r} (h : lBuildSlice s d0 t n parts = some r) (hne : d0 ≠ d) (hl : s.locs d = none) (hu : s.used d = false) : r.2.2.1 d = none ∧ r.2.2.2 d = false := by
  have old : lBuildSlice0 s d0 t n parts = some r → r.2.2.1 d = none ∧ r.2.2.2 d = false := by
    intro h
    unfold lBuildSlice0 at h
    split at h
    case h_2 => cases h
    split at h
    case h_2 => cases h
    rename_i hp
    split at h
    case h_2 => cases h
    exact fresh_none h hne (partsOf_none _ _ _ _ _ _ hl hp) hu
  unfold lBuildSlice at h
  split at h
  · split at h
    · split at h
      case h_2 => cases h
      rename_i hp
      split at h
      case h_2 => cases h
      exact fresh_none h hne (partsT_none _ _ _ _ _ _ hl hp) hu
    · exact old h
  · exact old h
theorem lStoreT_none {s : AS} {t : TI} {E : El} {id : Nat} {i : Int} {off : Nat} {v : AV} {d : Nat} {r} (h : lStoreT s t E id i off v = some r) (hl : s.locs d = none) (hu : s.used d = false) : r.2.2.1 d = none ∧ r.2.2.2 d = false := by
  simp only [lStoreT, seqV_eq] at h
  split at h
  case h_2 => cases h
  rename_i hp
  split at h
  case h_2 => cases h
  rename_i hid
  split at h
  case h_2 => cases h
  split at h
  case h_2 => cases h
  split at h
  case h_2 => cases h
  cases h
  exact ⟨upd_none hid (absorbS_none hl hp), hu⟩
theorem lSlice_none {s : AS} {t : TI} {v : AV} {lo hi : Option Operand} {d : Nat} {r} (h : lSlice s t v lo hi = some r) (hl : s.locs d = none) (hu : s.used d = false) : r.2.2.1 d = none ∧ r.2.2.2 d = false := by
  simp only [lSlice] at h
  split at h
  case h_2 => cases h
  rename_i hp
  split at h
  case h_2 => cases h
  cases h
  exact ⟨persist_none hl hp, hu⟩
theorem lSliceD_none {s : AS} {d0 : Nat} {t : TI} {v : AV} {lo hi : Option Operand} {d : Nat} {r} (h : lSliceD s d0 t v lo hi = some r) (hne : d0 ≠ d) (hl : s.locs d = none) (hu : s.used d = false) : r.2.2.1 d = none ∧ r.2.2.2 d = false := by
  unfold lSliceD at h
  split at h
  · split at h
    · split at h
      · exact fresh_none h hne (upd_none2 hl) hu
      · exact lSlice_none h hl hu
    · exact lSlice_none h hl hu
  · split at h
    case h_2 => cases h
    cases h
    exact ⟨hl, hu⟩
  · exact lSlice_none h hl hu
theorem lAppend_none {s : AS} {d0 : Nat} {tx : TI} {x y : AV} {d : Nat} {r} (h : lAppend s d0 tx x y = some r) (hne : d0 ≠ d) (hl : s.locs d = none) (hu : s.used d = false) : r.2.2.1 d = none ∧ r.2.2.2 d = false := by
  have old : lAppend0 s d0 tx x y = some r → r.2.2.1 d = none ∧ r.2.2.2 d = false := by
    intro h
    simp only [lAppend0] at h
    split at h
    case h_2 => cases h
    split at h
    case h_2 => cases h
    split at h
    · split at h
      case h_2 => cases h
      exact fresh_none h hne hl hu
    · split at h
      case h_2 => cases h
      rename_i hid
      split at h
      case h_2 => cases h
      exact fresh_none h hne (upd_none hid hl) hu
    · cases h
  unfold lAppend at h
  split at h
  · split at h
    · simp only [lAppendT] at h
      split at h
      case h_2 => cases h
      split at h
      case h_2 => cases h
      split at h
      · split at h
        case h_2 => cases h
        exact fresh_none h hne (upd_none2 hl) hu
      · split at h
        case h_2 => cases h
        split at h
        case h_2 => cases h
        exact fresh_none h hne (upd_none2 (upd_none2 hl)) hu
      · cases h
    · exact old h
  · exact old h
theorem lval_none {T : Tab} {s : AS} {o : Oper} {r} {d : Nat} (h : lval T s o = some r) (hne : o.dst ≠ some d) (hl : s.locs d = none) (hu : s.used d = false) : r.2.2.1 d = none ∧ r.2.2.2 d = false := by
  obtain ⟨dst, op, type, pos, after, guard⟩ := o
  unfold lval at h
  simp only at h hne
  split at h
  · rename_i t x d0
    simp only [lBox, seqV_eq] at h
    split at h
    · cases h
    · exact fresh_none h (fun e => hne (by rw [e])) hl hu
  · rename_i t d0
    simp only [lAlloc, seqV_eq] at h
    split at h
    · exact fresh_none h (fun e => hne (by rw [e])) hl hu
    split at h
    · cases h
    · exact fresh_none h (fun e => hne (by rw [e])) hl hu
  · rename_i t n parts d0
    exact lBuild_none h (fun e => hne (by rw [e])) hl hu
  · rename_i t x y
    simp only [lStore, seqV_eq] at h
    split at h
    · split at h
      case h_2 => cases h
      rename_i hid
      split at h
      case h_2 => cases h
      cases h
      exact ⟨upd_none hid hl, hu⟩
    · split at h
      · exact lStoreT_none h hl hu
      split at h
      case h_2 => cases h
      rename_i hp
      split at h
      case h_2 => cases h
      rename_i hid
      split at h
      case h_2 => cases h
      split at h
      case h_2 => cases h
      split at h
      case h_2 => cases h
      cases h
      exact ⟨upd_none hid (persistS_none hl hp), hu⟩
    · cases h
  · rename_i t x y d0
    simp only [lMake] at h
    split at h
    case h_2 => cases h
    split at h
    · exact fresh_none h (fun e => hne (by rw [e])) hl hu
    · exact fresh_none h (fun e => hne (by rw [e])) hl hu
  · rename_i t x lo hi d0
    exact lSliceD_none h (fun e => hne (by rw [e])) hl hu
  · rename_i c d0
    split at h
    · split at h
      case h_2 => cases h
      exact lAppend_none h (fun e => hne (by rw [e])) hl hu
    · simp only [lCopy] at h
      split at h
      case h_2 => cases h
      split at h
      case h_2 => cases h
      split at h
      case h_2 => cases h
      rename_i hid
      split at h
      case h_2 => cases h
      cases h
      exact ⟨upd_none hid hl, hu⟩
    · cases h
  · rename_i t d0
    simp only [lMakeMap] at h
    split at h
    case h_2 => cases h
    exact fresh_none h (fun e => hne (by rw [e])) hl hu
  · rename_i t m k v
    simp only [lMapSet] at h
    split at h
    case h_2 => cases h
    split at h
    case h_2 => cases h
    rename_i hid
    cases h
    exact ⟨upd_none hid hl, hu⟩
  · cases h
theorem al_none {E : Ctx} {o : Oper} {s : AS} {K : AS → Prop} (hm : CtxMono E) (h : al E o s K) : al E o s fun s' => K s' ∧ ∀ d : Nat, d < 1000 → o.dst ≠ some d → s.locs d = none → s.used d = false → s'.locs d = none ∧ s'.used d = false := by
  unfold al at h ⊢
  split at h
  case h_2 => exact h.elim
  split at h
  case h_2 => exact h.elim
  split at h
  · split at h
    · rename_i own C hC
      split at h
      case h_2 => exact h.elim
      rename_i as L1 harg
      refine hm _ _ _ hC _ _ _ (fun r rs hk => ?_) h
      split at hk
      case h_2 => exact hk.elim
      rename_i v L2 U2 n2 ht
      split at hk
      case h_2 => exact hk.elim
      rename_i L3 U3 hb
      obtain ⟨h11, h12⟩ := setM_iff.1 hk
      refine setM_iff.2 ⟨h11, h12, fun d hd hne hl hu => ?_⟩
      obtain ⟨h1, h2, h3⟩ := argL_upd (none : Option LC) hl harg
      have hlt : d < 1000 * (o.dst.getD 0 + 1) := by omega
      obtain ⟨h4, h5, h6, h7⟩ := takeR_upd (none : Option LC) hlt ht
      obtain ⟨h8, h9, h10⟩ := backL_upd (none : Option LC) (Nat.lt_of_lt_of_le hlt h7) (argL_ne hl harg) hb
      exact ⟨by show L3 d = none; rw [h9, h5, h2], by show U3 d = false; rw [h10, h6, hu]⟩
    · exact h.elim
  · split at h
    · exact h.elim
    · rename_i hq
      split at h
      case h_2 => exact h.elim
      rename_i O v L U hl
      refine ob_iff.2 ⟨(ob_iff.1 h).1, ?_⟩
      obtain ⟨h11, h12⟩ := setM_iff.1 (ob_iff.1 h).2
      exact setM_iff.2 ⟨h11, h12, fun d hd hne h1 h2 => lval_none hl hne h1 h2⟩
end Go.Rs
end
section
namespace Go.Rs
variable {P : Program} {B : Base} {L L' : Locs}
def Shut (ops : List Oper) (D : Nat → Prop) : Prop := ∀ i, D i → ∀ o, nthO ops i = some o → ∀ p ∈ preds o, D p
theorem Anc.listed {ops : List Oper} {D : Nat → Prop} {x i : Nat} (hD : Shut ops D) (h : Anc ops x i) : ∀ o, nthO ops i = some o → (∀ p ∈ preds o, D p) → D x := by
  induction h with
  | one ho hp => intro o ho' h; rw [ho] at ho'; cases ho'; exact h _ hp
  | step hanc ho hp ih =>
    intro o' ho' h
    rw [ho] at ho'; cases ho'
    have hDp := h _ hp
    have hex : ∀ {x p}, Anc ops x p → ∃ op, nthO ops p = some op := by
      intro x p hanc
      cases hanc with
      | one h1 _ => exact ⟨_, h1⟩
      | step _ h1 _ => exact ⟨_, h1⟩
    obtain ⟨op, hop⟩ := hex hanc
    exact ih op hop (hD _ hDp op hop)
structure Left (ops : List Oper) (l : List DI) : Prop where
  good : Good ops l
  pair : l.Pairwise fun x y => Anc ops x.ix y.ix ∨ Hop ops x y
  alloc : AllocOK ops l
  ex : ∀ x ∈ l, ∃ o, nthO ops x.ix = some o
  reOut : ∀ l1 i re l2, l = l1 ++ .l i re :: l2 → ∀ j ∈ re, ∀ y ∈ l2, j ≠ y.ix
  topo : ∀ l1 x l2, l = l1 ++ x :: l2 → ∀ o, nthO ops x.ix = some o → ∀ p ∈ preds o, p < ops.length ∧ ∀ y ∈ x :: l2, y.ix ≠ p
theorem split_in {β : Type} {l1 l2 a b : List β} {x y : β} (e : l1 ++ l2 = a ++ y :: b) : ∃ a' b', l1 ++ x :: l2 = a' ++ y :: b' ∧ ∀ z ∈ b, z ∈ b' := by
  rcases List.append_eq_append_iff.1 e with ⟨m, h1, h2⟩ | ⟨m, h1, h2⟩
  · subst h1
    exact ⟨l1 ++ x :: m, b, by rw [h2]; simp, fun z hz => hz⟩
  · cases m with
    | nil =>
      simp at h1 h2
      exact ⟨l1 ++ [x], b, by rw [← h2]; simp, fun z hz => hz⟩
    | cons z m =>
      simp at h2
      obtain ⟨rfl, rfl⟩ := h2
      subst h1
      exact ⟨a, m ++ x :: l2, by simp, fun u hu => by simp at hu ⊢; rcases hu with h | h <;> simp [h]⟩
theorem Left.drop {ops : List Oper} {l1 l2 : List DI} {x : DI} (h : Left ops (l1 ++ x :: l2)) : Left ops (l1 ++ l2) := by
  refine ⟨h.good.drop, ?_, fun k hk => h.alloc k (by simp at hk ⊢; rcases hk with h | h <;> simp [h]), fun y hy => h.ex y (by simp at hy ⊢; rcases hy with h | h <;> simp [h]), ?_, ?_⟩
  · refine List.Pairwise.sublist ?_ h.pair
    exact List.Sublist.append (List.Sublist.refl l1) (List.sublist_cons_self x l2)
  · intro a i re b e j hj y hy
    obtain ⟨a', b', e', hb⟩ := split_in (x := x) e
    exact h.reOut a' i re b' e' j hj y (hb y hy)
  · intro a y b e o ho p hp
    obtain ⟨a', b', e', hb⟩ := split_in (x := x) e
    obtain ⟨h3, h4⟩ := h.topo a' y b' e' o ho p hp
    exact ⟨h3, fun z hz => h4 z (by simp at hz ⊢; exact hz.imp (fun h => h) (hb z))⟩
theorem Left.noBack {ops : List Oper} {l : List DI} (h : Left ops l) {D : Nat → Prop} (hD : Shut ops D) (hDl : ∀ x ∈ l, ¬ D x.ix) (hout : ∀ i o, nthO ops i = some o → (∀ x ∈ l, x.ix ≠ i) → D i) : l.Pairwise fun a b => ¬ Anc ops b.ix a.ix := by
  have key : ∀ {x i : Nat}, Anc ops x i → ∀ l1 a l2, l = l1 ++ a :: l2 → i = a.ix → (∃ y ∈ l2, y.ix = x) → False := by
    intro x i hanc
    induction hanc with
    | one ho hp =>
      rintro l1 a l2 e rfl ⟨y, hy, rfl⟩
      exact (h.topo l1 a l2 e _ ho _ hp).2 y (by simp [hy]) rfl
    | @step p i o hanc ho hp ih =>
      rintro l1 a l2 e rfl ⟨y, hy, rfl⟩
      obtain ⟨hlt, hne⟩ := h.topo l1 a l2 e _ ho _ hp
      by_cases hin : ∃ z ∈ l, z.ix = p
      · obtain ⟨z, hz, rfl⟩ := hin
        rw [e] at hz
        simp at hz
        have hz1 : z ∈ l1 := by
          rcases hz with hz | rfl | hz
          · exact hz
          · exact absurd rfl (hne z (by simp))
          · exact absurd rfl (hne z (by simp [hz]))
        obtain ⟨m1, m2, rfl⟩ := List.append_of_mem hz1
        exact ih m1 z (m2 ++ a :: l2) (by rw [e]; simp) rfl ⟨y, by simp [hy], rfl⟩
      · obtain ⟨op, hop⟩ : ∃ op, nthO ops p = some op := by
          cases hanc with
          | one h1 _ => exact ⟨_, h1⟩
          | step _ h1 _ => exact ⟨_, h1⟩
        have hDp : D p := hout p op hop fun z hz e' => hin ⟨z, hz, e'⟩
        have hDy : D y.ix := Anc.listed hD hanc op hop (hD p hDp op hop)
        exact hDl y (by rw [e]; simp [hy]) hDy
  have gen : ∀ (l2 l1 : List DI), l = l1 ++ l2 → l2.Pairwise fun a b => ¬ Anc ops b.ix a.ix := by
    intro l2
    induction l2 with
    | nil => intro _ _; exact .nil
    | cons a l2 ih =>
      intro l1 e
      exact List.pairwise_cons.2 ⟨fun b hb hanc => key hanc l1 a l2 e rfl ⟨b, hb, rfl⟩, ih (l1 ++ [a]) (by simp [e])⟩
  exact gen l [] rfl
theorem nthO_get {ops : Array Oper} {i : Nat} : nthO ops.toList i = ops[i]? := by
  rw [nthO_drop]; simp
end Go.Rs
end
section
namespace Go.Rs
variable {P : Program} {B : Base} {L L' : Locs}
theorem aq_aop {E : Ctx} {ops : List Oper} {o : Oper} {s : AS} {K : AS → Prop} (h : aq E ops o s K) : aop E ops o s K := by
  unfold aq at h
  unfold aop
  split at h
  case h_2 => exact h.elim
  rename_i g hg
  split at h
  case h_2 => exact h.elim
  rename_i hok
  split at h
  case h_2 => exact h.elim
  rename_i O v hq
  unfold qeval at hq
  rw [hg]
  cases g with
  | nil =>
    simp only [hok]
    split at hq
    · rename_i f args hc
      split at hq
      case h_2 => cases hq
      rename_i F hC
      split at hq
      case h_2 => cases hq
      rename_i as L1 ha hn
      simp only [hc, acall, hC, ha, hn, hq]
      exact h
    · rename_i hc
      simp only [hc, hq]
      exact h
  | cons x g' =>
    simp only [hok]
    split at hq
    · rename_i f args hc
      split at hq
      case h_2 => cases hq
      rename_i F hC
      split at hq
      case h_2 => cases hq
      rename_i as L1 ha hn
      simp only [hc, hC, ha, hn, hq]
      exact h
    · rename_i hc
      simp only [hc, hq]
      exact h
theorem al_aop {E : Ctx} {ops : List Oper} {o : Oper} {s : AS} {K : AS → Prop} (h : al E o s K) : aop E ops o s K := by
  unfold al at h
  unfold aop
  split at h
  case h_2 => exact h.elim
  rename_i hg
  have hgo : guardsOf ops s o = some [] := by unfold guardsOf; rw [hg]
  split at h
  case h_2 => exact h.elim
  rename_i hok
  simp only [hgo, hok]
  split at h
  · rename_i f args hc
    split at h
    · rename_i own C hC
      simp only [hc, acall, hC]
      exact h
    · exact h.elim
  · rename_i hc
    split at h
    · exact h.elim
    · rename_i hq
      simp only [hq]
      exact h
end Go.Rs
end
section
namespace Go.Rs
variable {P : Program} {B : Base} {L L' : Locs}
structure MI (E : Ctx) (ops : List Oper) (K : AS → Prop) (s0 : AS) (l : List DI) (s : AS) : Prop where
  left : Left ops l
  un : Unmen s (WD ops l)
  pend : ∀ k, .a k ∈ l → ∀ o, nthO ops k = some o → ∀ d, o.dst = some d → d < 1000 ∧ Nat.blt d E.N = true ∧ s.used d = false ∧ s.locs d = none ∧ ∃ u c, aRes E.T o d = some (u, c)
  vr : VR E ops l s K
  ag : AgreeW (dsts ops) s0 s
theorem slots_out {ops : List Oper} {I : DI} {l1 l2 : List DI} {oI : Oper} (hG : Good ops (l1 ++ I :: l2)) (hH : ∀ y ∈ l1, Hop ops y I) (hoI : nthO ops I.ix = some oI) : ∀ t ∈ slotOf ops oI, t ∉ WD ops (l1 ++ I :: l2) := by
  intro t ht hm
  obtain ⟨y, hy, o, ho, hd⟩ := of_WD hm
  rcases List.mem_append.1 hy with hy | hy
  · exact ((hH y hy).apart o oI ho hoI).1 t hd (by simp [looks, ht])
  · have : ∀ {l : List DI}, Good ops (l ++ I :: l2) → Good ops (I :: l2) := by
      intro l
      induction l with
      | nil => exact fun h => h
      | cons z l ih => exact fun h => ih h.2.2
    exact ((this hG).1 oI hoI).1 t ht (mem_WD hy ho hd)
theorem dsts_mem {ops : List Oper} {i : Nat} {o : Oper} {d : Nat} (ho : nthO ops i = some o) (hd : o.dst = some d) : d ∈ dsts ops := by
  rw [nthO_drop] at ho
  have : o ∈ ops := by
    have h1 : o ∈ ops.drop i := List.mem_of_mem_head? (by rw [ho]; rfl)
    exact List.mem_of_mem_drop h1
  exact List.mem_filterMap.2 ⟨o, this, hd⟩
theorem WD_drop {ops : List Oper} {l1 l2 : List DI} {x : DI} : ∀ d ∈ WD ops (l1 ++ l2), d ∈ WD ops (l1 ++ x :: l2) := by
  intro d hd
  obtain ⟨y, hy, o, ho, hd⟩ := of_WD hd
  exact mem_WD (by simp at hy ⊢; rcases hy with h | h <;> simp [h]) ho hd
theorem dst_out {ops : List Oper} {I : DI} {l1 l2 : List DI} {oI : Oper} {d : Nat} (hG : Good ops (l1 ++ I :: l2)) (hoI : nthO ops I.ix = some oI) (hd : oI.dst = some d) : d ∉ WD ops (l1 ++ l2) := by
  induction l1 with
  | nil => exact ((hG.1 oI hoI).2 d hd).1
  | cons y l1 ih =>
    intro hm
    obtain ⟨z, hz, o, ho, hdz⟩ := of_WD hm
    simp at hz
    have hin : d ∈ WD ops (l1 ++ l2) → False := fun h => ih hG.2.2 h
    rcases hz with rfl | hz | hz
    · exact ((hG.1 o ho).2 d hdz).1 (mem_WD (x := I) (by simp) hoI hd)
    · exact hin (mem_WD (by simp [hz]) ho hdz)
    · exact hin (mem_WD (by simp [hz]) ho hdz)
theorem MI.step {E : Ctx} (hm : CtxMono E) {ops : List Oper} {K : AS → Prop} {s0 s : AS} {I : DI} {l1 l2 : List DI} (h : MI E ops K s0 (l1 ++ I :: l2) s) (hH : ∀ x ∈ l1, Hop ops x I)
    {D : Nat → Prop} (hD : Shut ops D) (hDl : ∀ x ∈ l1 ++ I :: l2, ¬ D x.ix) (hout : ∀ i o, nthO ops i = some o → (∀ x ∈ l1 ++ I :: l2, x.ix ≠ i) → D i) (hI : ∀ o, nthO ops I.ix = some o → ∀ p ∈ preds o, D p) :
    ∃ oI, nthO ops I.ix = some oI ∧ aop E ops oI s fun s' => MI E ops K s0 (l1 ++ l2) s' := by
  have hleft := h.left.drop
  -- the state that follows
  have next : ∀ {oI : Oper} {s' : AS} {g : List (Nat × Bool)} {v : AV} {L U}, nthO ops I.ix = some oI → s' = (s.setD oI.dst ⟨g, v⟩).mem L U → (∀ y ∈ g, y.1 ∉ WD ops (l1 ++ I :: l2)) →
      (∀ d : Nat, d < 1000 → oI.dst ≠ some d → s.locs d = none → s.used d = false → L d = none ∧ U d = false) → VR E ops (l1 ++ l2) s' K → MI E ops K s0 (l1 ++ l2) s' := by
    intro oI s' g v L U hoI hs hg hp hv
    subst hs
    have hw : ∀ d, oI.dst = some d → d ∈ WD ops (l1 ++ I :: l2) := fun d hd => mem_WD (x := I) (by simp) hoI hd
    refine ⟨hleft, ?_, fun k hk o ho d hd => ?_, hv, ?_⟩
    · exact Unmen.sub (s := (s.setD oI.dst ⟨g, v⟩).mem L U) (h.un.setD hw hg) WD_drop
    · obtain ⟨p1, p2, p3, p4, p5⟩ := h.pend k (by simp at hk ⊢; rcases hk with h | h <;> simp [h]) o ho d hd
      have hne : oI.dst ≠ some d := fun e => dst_out h.left.good hoI e (mem_WD (x := .a k) (by simpa using hk) ho hd)
      obtain ⟨q1, q2⟩ := hp d p1 hne p4 p3
      exact ⟨p1, p2, q2, q1, p5⟩
    · intro t ht hgt
      show (s.setD oI.dst ⟨g, v⟩).env t = _
      rw [setD_env h.un hw, if_neg (fun e => ht (dsts_mem hoI e))]
      exact h.ag t ht hgt
  cases I with
  | q i =>
    obtain ⟨oI, hoI, hq⟩ := bub_q l1 s h.left.good hH h.un h.vr
    refine ⟨oI, hoI, aq_aop (aq_move (fun _ _ => rfl) (LSub.refl _) (fun _ _ _ _ => rfl) hq fun g v hg hk => ?_)⟩
    exact next (L := s.locs) (U := s.used) hoI (AS.ext' (fun _ => rfl) setD_locs setD_used) (guards_out h.un (slots_out h.left.good hH hoI) hg) (fun d _ _ h1 h2 => ⟨h1, h2⟩) hk
  | l i re =>
    have hT := (List.pairwise_append.1 (h.left.noBack hD hDl hout)).1
    have hO : ∀ x ∈ l1, ∀ j ∈ re, Anc ops x.ix j → ∃ y ∈ l1, j = y.ix := by
      intro x hx j hj hanc
      obtain ⟨oj, hoj⟩ : ∃ o, nthO ops j = some o := by
        cases hanc with
        | one h1 _ => exact ⟨_, h1⟩
        | step _ h1 _ => exact ⟨_, h1⟩
      have hxD : ¬ D x.ix := hDl x (by simp [hx])
      by_cases hin : ∃ y ∈ l1 ++ .l i re :: l2, y.ix = j
      · obtain ⟨y, hy, rfl⟩ := hin
        simp at hy
        rcases hy with hy | rfl | hy
        · exact ⟨y, hy, rfl⟩
        · exact absurd (Anc.listed hD hanc oj hoj (hI oj hoj)) hxD
        · exact absurd rfl (h.left.reOut l1 i re l2 rfl _ hj y hy)
      · have hDj : D j := hout j oj hoj fun z hz e => hin ⟨z, hz, e⟩
        exact absurd (Anc.listed hD hanc oj hoj (hD j hDj oj hoj)) hxD
    obtain ⟨oI, hoI, hl⟩ := bub_l hm l1 s h.left.good hH hO hT h.un h.vr
    refine ⟨oI, hoI, al_aop (al_mono hm (al_none hm hl) fun v L U hk => ?_)⟩
    exact next hoI rfl (by simp) (fun d hd hne h1 h2 => hk.2 d hd hne h1 h2) hk.1.2
  | a i =>
    obtain ⟨oI, hoI⟩ := h.left.ex (.a i) (by simp)
    obtain ⟨d, ht, hd, hg⟩ := h.left.alloc i (by simp) oI hoI
    obtain ⟨p1, p2, p3, p4, u, c, hz⟩ := h.pend i (by simp) oI hoI d hd
    have hdW : d ∈ WD ops (l1 ++ .a i :: l2) := mem_WD (x := .a i) (by simp) hoI hd
    refine ⟨oI, hoI, al_aop ((al_alloc ht hd hg).2 ⟨u, c, hz, p3, p4, p2, hleft, (addL_Unmen h.un hdW).sub WD_drop, fun k hk o ho d' hd' => ?_, ?_, fun x hu hgu => ?_⟩)⟩
    · obtain ⟨q1, q2, q3, q4, q5⟩ := h.pend k (by simp at hk ⊢; rcases hk with h | h <;> simp [h]) o ho d' hd'
      have hne : d' ≠ d := fun e => dst_out h.left.good hoI hd (mem_WD (x := .a k) (by simpa using hk) ho (by rw [hd', e]))
      exact ⟨q1, q2, (upd_ne s.used _ hne).trans q3, (upd_ne s.locs _ hne).trans q4, q5⟩
    · exact add_a hm hoI ht hd hg p1 hz l1 s h.left.good hH (fun k hk => h.left.alloc k (by simp [hk])) h.un p3 p4 h.vr
    · rw [addL_ne h.un hdW (fun e => hu (by rw [e]; exact dsts_mem hoI hd))]
      exact h.ag x hu hgu
end Go.Rs
end
section
namespace Go.Rs
variable {P : Program} {B : Base} {L L' : Locs}
theorem ready_mem {ops : Array Oper} {listed : Array Bool} {i : Nat} : i ∈ Region.ready .any ops listed ↔ i < ops.size ∧ listed.getD i true = false ∧ ∀ o, nthO ops.toList i = some o → ∀ p ∈ preds o, listed.getD p false = true := by
  unfold Region.ready
  rw [List.mem_filter, List.mem_range, nthO_get]
  constructor
  · rintro ⟨h1, h2⟩
    simp only [Bool.and_eq_true, Bool.not_eq_true'] at h2
    refine ⟨h1, h2.1, fun o ho p hp => ?_⟩
    have h3 := h2.2
    rw [ho] at h3
    simp only [Option.map_some, Option.getD_some, Array.all_eq_true_iff_forall_mem] at h3
    unfold preds at hp
    simp only [List.mem_map, List.mem_filter] at hp
    obtain ⟨e, ⟨he, hb⟩, rfl⟩ := hp
    have := h3 e (by simpa using he)
    rw [hb] at this
    simpa using this
  · rintro ⟨h1, h2, h3⟩
    refine ⟨h1, ?_⟩
    have ho : ops[i]? = some ops[i] := by simp [h1]
    rw [h2, ho]
    simp only [Bool.not_false, Bool.true_and, Option.map_some, Option.getD_some, Array.all_eq_true_iff_forall_mem]
    intro e he
    cases hb : Region.binds .any e with
    | false => rfl
    | true =>
      have := h3 ops[i] ho e.on (by
        unfold preds
        simp only [List.mem_map, List.mem_filter]
        exact ⟨e, ⟨by simpa using he, hb⟩, rfl⟩)
      simpa using this
end Go.Rs
end
section
namespace Go.Rs
variable {P : Program} {B : Base} {L L' : Locs}
theorem any_sound {E : Ctx} (hE : CtxOK P E) (hm : CtxMono E) {ops : Array Oper} {Q : Exit → Act → World → Prop} {K : AS → Prop} {s0 : AS} (hQ : ∀ s a w, K s → AgreeW (dsts ops.toList) s0 s → St B E.N s a w → Q .normal a w) :
    ∀ (fuel : Nat) (listed : Array Bool) (l : List DI) (s : AS) (a : Act) (w : World), listed.size = ops.size → l.length ≤ fuel → (∀ i, i < ops.size → (listed.getD i true = false ↔ ∃ x ∈ l, x.ix = i)) →
      Shut ops.toList (fun i => i < ops.size ∧ ∀ x ∈ l, x.ix ≠ i) → MI E ops.toList K s0 l s → St B E.N s a w → wpAny P .any ops Q fuel listed a w := by
  -- nothing ready: nothing left
  have done : ∀ {listed : Array Bool} {l : List DI} {s : AS}, listed.size = ops.size → (∀ i, i < ops.size → (listed.getD i true = false ↔ ∃ x ∈ l, x.ix = i)) → MI E ops.toList K s0 l s → Region.ready .any ops listed = [] → l = [] := by
    intro listed l s hsz hli hMI hr
    cases l with
    | nil => rfl
    | cons x r =>
      exfalso
      obtain ⟨o, ho⟩ := hMI.left.ex x (by simp)
      have hlt : x.ix < ops.size := by
        rw [nthO_get] at ho
        exact (Array.getElem?_eq_some_iff.1 ho).1
      have : x.ix ∈ Region.ready .any ops listed := by
        refine ready_mem.2 ⟨hlt, (hli _ hlt).2 ⟨x, by simp, rfl⟩, fun o' ho' p hp => ?_⟩
        obtain ⟨h1, h2⟩ := hMI.left.topo [] x r rfl o' ho' p hp
        have hp' : p < ops.size := by simpa using h1
        have h3 : ¬ (listed.getD p true = false) := fun h => by
          obtain ⟨y, hy, e⟩ := (hli p hp').1 h
          exact h2 y hy e
        have hps : p < listed.size := by omega
        simp only [Array.getD_eq_getD_getElem?, Array.getElem?_eq_getElem hps, Option.getD_some] at h3 ⊢
        simpa using h3
      rw [hr] at this
      simp at this
  have fin : ∀ {s : AS} {a w}, MI E ops.toList K s0 [] s → St B E.N s a w → Q .normal a w := fun h hs => hQ _ _ _ h.vr h.ag hs
  intro fuel
  induction fuel with
  | zero =>
    intro listed l s a w hsz hlen hli hsh hMI hS
    have : l = [] := List.length_eq_zero_iff.1 (by omega)
    subst this
    refine ⟨?_, fin hMI hS⟩
    rw [List.eq_nil_iff_forall_not_mem]
    intro i hi
    obtain ⟨h1, h2, -⟩ := ready_mem.1 hi
    obtain ⟨x, hx, -⟩ := (hli i h1).1 h2
    simp at hx
  | succ fuel ih =>
    intro listed l s a w hsz hlen hli hsh hMI hS
    refine ⟨fun hr => ?_, fun i hi => ?_⟩
    · have := done hsz hli hMI hr
      subst this
      exact fin hMI hS
    · obtain ⟨h1, h2, h3⟩ := ready_mem.1 hi
      obtain ⟨I, hI, rfl⟩ := (hli i h1).1 h2
      obtain ⟨l1, l2, rfl⟩ := List.append_of_mem hI
      have hD : ∀ p, p < ops.size → listed.getD p false = true → ∀ x ∈ l1 ++ I :: l2, x.ix ≠ p := by
        intro p hp hl x hx e
        have := (hli p hp).2 ⟨x, hx, e⟩
        have hps : p < listed.size := by omega
        simp only [Array.getD_eq_getD_getElem?, Array.getElem?_eq_getElem hps, Option.getD_some] at this hl
        rw [hl] at this; cases this
      have hpl : ∀ o, nthO ops.toList I.ix = some o → ∀ p ∈ preds o, p < ops.size ∧ ∀ x ∈ l1 ++ I :: l2, x.ix ≠ p := by
        intro o ho p hp
        have hl := h3 o ho p hp
        have hps : p < ops.size := by
          rcases Nat.lt_or_ge p listed.size with h | h
          · omega
          · simp [Array.getD_eq_getD_getElem?, Array.getElem?_eq_none h] at hl
        exact ⟨hps, hD p hps hl⟩
      have hH : ∀ x ∈ l1, Hop ops.toList x I := by
        intro x hx
        have hp := List.pairwise_append.1 hMI.left.pair
        rcases hp.2.2 x hx I (by simp) with h | h
        · obtain ⟨o, ho⟩ := hMI.left.ex I (by simp)
          exact absurd rfl ((h.listed hsh o ho (hpl o ho)).2 x (by simp [hx]))
        · exact h
      obtain ⟨oI, hoI, hop⟩ := hMI.step hm hH hsh (fun x hx hd => hd.2 x hx rfl) (fun j o ho hne => ⟨by rw [nthO_get] at ho; exact (Array.getElem?_eq_some_iff.1 ho).1, hne⟩) (fun o ho p hp => hpl o ho p hp)
      obtain ⟨ν, γ, hS'⟩ := hS
      have hget : ops[I.ix]? = some oI := by rw [← nthO_get]; exact hoI
      have hne : ∀ x ∈ l1 ++ l2, x.ix ≠ I.ix := by
        have hg := hMI.left.good
        intro x hx
        have key : ∀ {l1 : List DI}, Good ops.toList (l1 ++ I :: l2) → ∀ x ∈ l1 ++ l2, x.ix ≠ I.ix := by
          intro l1
          induction l1 with
          | nil => intro hg x hx; exact (hg.2.1 x hx).symm
          | cons y l1 ih =>
            intro hg x hx
            simp at hx
            rcases hx with rfl | hx | hx
            · exact hg.2.1 I (by simp)
            · exact ih hg.2.2 x (by simp [hx])
            · exact ih hg.2.2 x (by simp [hx])
        exact key hg x hx
      have hnext : ∀ a w, Next B E.N s oI.dst (fun s' => MI E ops.toList K s0 (l1 ++ l2) s') a w → wpAny P .any ops Q fuel (listed.setIfInBounds I.ix true) a w := by
        rintro a w ⟨s', hMI', -, hS''⟩
        refine ih _ (l1 ++ l2) s' a w (by simp [hsz]) (by simp at hlen ⊢; omega) (fun j hj => ?_) ?_ hMI' hS''
        · by_cases e : j = I.ix
          · subst e
            have hjs : I.ix < listed.size := by omega
            simp only [Array.getD_eq_getD_getElem?]
            rw [Array.getElem?_setIfInBounds_self_of_lt hjs]
            simp only [Option.getD_some, Bool.true_eq_false, false_iff]
            rintro ⟨x, hx, e⟩
            exact hne x hx e
          · simp only [Array.getD_eq_getD_getElem?]
            rw [Array.getElem?_setIfInBounds_ne (Ne.symm e)]
            have := hli j hj
            simp only [Array.getD_eq_getD_getElem?] at this
            rw [this]
            constructor
            · rintro ⟨x, hx, rfl⟩
              simp at hx
              rcases hx with hx | rfl | hx
              · exact ⟨x, by simp [hx], rfl⟩
              · exact absurd rfl e
              · exact ⟨x, by simp [hx], rfl⟩
            · rintro ⟨x, hx, rfl⟩
              simp at hx
              exact ⟨x, by simp; rcases hx with h | h <;> simp [h], rfl⟩
        · rintro j ⟨hj, hjl⟩ o ho p hp
          by_cases e : j = I.ix
          · subst e
            obtain ⟨q1, q2⟩ := hpl o ho p hp
            exact ⟨q1, fun x hx => q2 x (by simp at hx ⊢; rcases hx with h | h <;> simp [h])⟩
          · obtain ⟨q1, q2⟩ := hsh j ⟨hj, fun x hx => by
              simp at hx
              rcases hx with hx | rfl | hx
              · exact hjl x (by simp [hx])
              · exact Ne.symm e
              · exact hjl x (by simp [hx])⟩ o ho p hp
            exact ⟨q1, fun x hx => q2 x (by simp at hx ⊢; rcases hx with h | h <;> simp [h])⟩
      have hres := aop_sound (Q := Q) hE hS' hop hnext
      unfold wpOp
      rw [hget]
      simp only
      split
      · rename_i hw; rw [if_pos hw] at hres; exact .inl hres
      · rename_i hw; rw [if_neg hw] at hres; exact hres
end Go.Rs
end
section
namespace Go.Rs
variable {P : Program} {B : Base} {L L' : Locs}
def closeC (C : List AV → (AV → List AV → Prop) → Prop) : List AV → (AV → List AV → Prop) → Prop := fun as K => ∃ K0, C as K0 ∧ ∀ r rs, K0 r rs → K r rs
theorem closeC_mono (C) : Mono (closeC C) := fun _ _ _ h ⟨K0, h1, h2⟩ => ⟨K0, h1, fun r rs hk => h r rs (h2 r rs hk)⟩
theorem Snd.close {f : Nat} {C} (h : Snd P f C) : Snd P f (closeC C) := by
  rintro args K ⟨K0, h1, h2⟩ w γ S xs hi hn hf ht hs
  refine Calls.mono (h args K0 h1 w γ S xs hi hn hf ht hs) ?_
  rintro e w' ⟨r, rs, x, γ', Sr, Sq, hk, rest⟩
  exact ⟨r, rs, x, γ', Sr, Sq, h2 r rs hk, rest⟩
def closeCtr : Ctr → Ctr
  | .pure F => .pure F
  | .gen own C => .gen own (closeC C)
def Ctx.close (E : Ctx) : Ctx := { E with C := fun f => (E.C f).map closeCtr }
theorem CtxOK.close {E : Ctx} (h : CtxOK P E) : CtxOK P E.close := by
  refine ⟨h.tab, fun f c hc => ?_⟩
  simp only [Ctx.close, Option.map_eq_some_iff] at hc
  obtain ⟨c0, h1, rfl⟩ := hc
  obtain ⟨h2, h3⟩ := h.ctr f c0 h1
  refine ⟨?_, h3⟩
  cases c0 with
  | pure F => exact h2
  | gen own C => exact Snd.close h2
theorem Ctx.close_mono (E : Ctx) : CtxMono E.close := by
  intro f own C hc
  simp only [Ctx.close, Option.map_eq_some_iff] at hc
  obtain ⟨c0, h1, h2⟩ := hc
  cases c0 with
  | pure F => cases h2
  | gen own' C' => cases h2; exact closeC_mono C'
theorem qeval_close {E : Ctx} {s : AS} {o : Oper} {r} (h : qeval E s o = some r) : qeval E.close s o = some r := by
  unfold qeval at h ⊢
  split at h
  · split at h
    · rename_i F hC
      simp only [Ctx.close, hC, Option.map_some, closeCtr]
      exact h
    · cases h
  · exact h
theorem aq_close {E : Ctx} {ops : List Oper} {o : Oper} {s : AS} {K : AS → Prop} (h : aq E ops o s K) : aq E.close ops o s K := by
  obtain ⟨g, O, v, h1, h2, h3, h4⟩ := aq_iff.1 h
  exact aq_iff.2 ⟨g, O, v, h1, h2, qeval_close h3, h4⟩
theorem al_close {E : Ctx} {o : Oper} {s : AS} {K : AS → Prop} (h : al E o s K) : al E.close o s K := by
  unfold al at h ⊢
  split at h
  case h_2 => exact h.elim
  split at h
  case h_2 => exact h.elim
  split at h
  · split at h
    · rename_i own C hC
      simp only [Ctx.close, hC, Option.map_some, closeCtr]
      split at h
      · exact ⟨_, h, fun r rs hk => hk⟩
      · exact h
    · exact h.elim
  · exact h
theorem RC_close {E : Ctx} {o : Oper} {s : AS} (h : RC E o s) : RC E.close o s := by
  obtain ⟨d, O, v, h1, h2, h3⟩ := h
  exact ⟨d, O, v, h1, qeval_close h2, h3⟩
theorem VR_close {E : Ctx} {ops : List Oper} {K : AS → Prop} : ∀ (l : List DI) (s : AS), adraw E ops l s K → VR E.close ops l s K
  | [], s, h => h
  | .q i :: r, s, h => by
    simp only [adraw] at h
    split at h
    · rename_i o ho; exact ⟨o, ho, aq_mono (aq_close h) fun s' h => VR_close r s' h⟩
    · exact h.elim
  | .l i re :: r, s, h => by
    simp only [adraw] at h
    split at h
    · rename_i o ho
      exact ⟨o, ho, al_mono E.close_mono (al_close h) fun v L U h => ⟨fun j hj => (rechk_all h).2 j hj |>.imp fun o h => ⟨h.1, RC_close h.2⟩, VR_close r _ (rechk_all h).1⟩⟩
    · exact h.elim
  | .a i :: r, s, h => by
    simp only [adraw] at h
    split at h
    · rename_i o ho; exact ⟨o, ho, al_mono E.close_mono (al_close h) fun v L U h => VR_close r _ h⟩
    · exact h.elim
end Go.Rs
end
section
namespace Go.Rs
variable {P : Program} {B : Base} {L L' : Locs}
def maskAt (acc : List Nat) : List Nat → Nat
  | [] => 0
  | p :: r => (match Nat.blt p acc.length with
    | true => Nat.lor (acc.getD p 0) (Nat.shiftLeft 1 p)
    | false => 0) ||| maskAt acc r
def masks : List Oper → List Nat → List Nat
  | [], acc => acc
  | o :: r, acc => masks r (acc ++ [maskAt acc (preds o)])
theorem maskAt_spec {acc : List Nat} {x : Nat} : ∀ {l : List Nat}, (maskAt acc l).testBit x = true → ∃ p ∈ l, p < acc.length ∧ (x = p ∨ (acc.getD p 0).testBit x = true)
  | [], h => by simp [maskAt] at h
  | p :: r, h => by
    simp only [maskAt, Nat.testBit_or, Bool.or_eq_true] at h
    rcases h with h | h
    · split at h
      · rename_i hb
        have h' : ((acc.getD p 0) ||| (1 <<< p)).testBit x = true := h
        simp only [Nat.testBit_or, Bool.or_eq_true] at h'
        refine ⟨p, by simp, Nat.lt_of_succ_le (Nat.le_of_ble_eq_true hb), ?_⟩
        rcases h' with h' | h'
        · exact .inr h'
        · left
          rw [Nat.testBit_shiftLeft] at h'
          simp only [Bool.and_eq_true, decide_eq_true_eq] at h'
          obtain ⟨h1, h2⟩ := h'
          have : x - p = 0 := by
            cases hx : x - p with
            | zero => rfl
            | succ k => rw [hx] at h2; rw [Nat.testBit_succ] at h2; simp at h2
          omega
      · simp at h
    · obtain ⟨q, hq, h1⟩ := maskAt_spec h
      exact ⟨q, by simp [hq], h1⟩
def MaskOK (ops : List Oper) (acc : List Nat) : Prop := ∀ i, i < acc.length → ∀ x, (acc.getD i 0).testBit x = true → Anc ops x i
theorem masks_spec {ops : List Oper} : ∀ (r : List Oper) (acc : List Nat), ops.drop acc.length = r → MaskOK ops acc → MaskOK ops (masks r acc)
  | [], acc, h, hi => hi
  | o :: r, acc, h, hi => by
    have ho : nthO ops acc.length = some o := by rw [nthO_drop, h]; rfl
    refine masks_spec r (acc ++ [maskAt acc (preds o)]) ?_ ?_
    · have : ops.drop (acc.length + 1) = r := by
        rw [← List.drop_drop, h]; rfl
      simpa using this
    · intro i hlt x hx
      simp at hlt
      by_cases e : i = acc.length
      · subst e
        simp only [List.getD_eq_getElem?_getD, List.getElem?_append_right (Nat.le_refl _), Nat.sub_self, List.getElem?_cons_zero, Option.getD_some] at hx
        obtain ⟨p, hp, hpl, h2⟩ := maskAt_spec hx
        rcases h2 with rfl | h2
        · exact .one ho hp
        · exact .step (hi p hpl x h2) ho hp
      · have hlt' : i < acc.length := by omega
        refine hi i hlt' x ?_
        simpa only [List.getD_eq_getElem?_getD, List.getElem?_append_left hlt'] using hx
def ancB (M : List Nat) (x y : Nat) : Bool := (M.getD y 0).testBit x
theorem ancB_anc {ops : List Oper} {x y : Nat} (h : ancB (masks ops []) x y = true) : Anc ops x y := by
  have hs := masks_spec ops [] (ops := ops) (by simp) (by intro i hi; simp at hi)
  unfold ancB at h
  rcases Nat.lt_or_ge y (masks ops []).length with hy | hy
  · exact hs y hy x h
  · rw [List.getD_eq_getElem?_getD, List.getElem?_eq_none hy] at h
    simp at h
end Go.Rs
end
section
namespace Go.Rs
variable {P : Program} {B : Base} {L L' : Locs}
theorem mem_of_memN {l : List Nat} {t : Nat} : memN l t = true ↔ t ∈ l := by
  induction l with
  | nil => simp [memN]
  | cons k r ih =>
    simp only [memN]
    split
    · rename_i h; simp [(Nat.eq_of_beq_eq_true h)]
    · rename_i h
      rw [ih]
      have : t ≠ k := fun e => by subst e; rw [Nat.beq_refl] at h; cases h
      simp [this]
def out (l : List Nat) (d : Nat) : Bool := !memN l d
theorem out_iff {l : List Nat} {d : Nat} : out l d = true ↔ d ∉ l := by
  unfold out
  cases h : memN l d with
  | true => simp [mem_of_memN.1 h]
  | false => simp; intro hm; rw [mem_of_memN.2 hm] at h; cases h
def optAll (o : Option Nat) (f : Nat → Bool) : Bool := match o with | some d => f d | none => true
theorem optAll_iff {o : Option Nat} {f : Nat → Bool} : optAll o f = true ↔ ∀ d, o = some d → f d = true := by
  cases o <;> simp [optAll]
def isCallB (o : Oper) : Bool := match o.op with | .call c => (match c.callee with | .value _ => true | .builtin .append => true | _ => false) | .buildSlice _ _ _ => true | _ => false
theorem isCallB_v {o : Oper} (h : isCallB o = true) : isCallV o ∨ isApp o := by
  unfold isCallB at h
  split at h
  · rename_i c hc
    split at h
    · rename_i f hf; exact .inl ⟨c, f, hc, hf⟩
    · rename_i hf; exact .inr (.inl ⟨c, hc, hf⟩)
    · cases h
  · rename_i t n parts hc; exact .inr (.inr ⟨t, n, parts, hc⟩)
  · cases h
def neD (o : Option Nat) (d : Nat) : Bool := match o with | some k => !Nat.beq k d | none => true
theorem neD_iff {o : Option Nat} {d : Nat} (h : neD o d = true) : o ≠ some d := by
  intro e; subst e; simp [neD] at h
def okRe (ops : List Oper) (M : List Nat) (o : Oper) (i : Nat) : List Nat → Bool
  | [] => true
  | j :: r => (Nat.beq j i || ancB M i j || (match nthO ops j with | some oj => optAll o.dst fun d => out (looks ops oj) d && neD oj.dst d | none => true)) && okRe ops M o i r
theorem okRe_iff {ops : List Oper} {o : Oper} {i : Nat} : ∀ {re : List Nat}, okRe ops (masks ops []) o i re = true → ∀ j ∈ re, j ≠ i → Anc ops i j ∨ ∀ oj, nthO ops j = some oj → ∀ d, o.dst = some d → d ∉ looks ops oj ∧ oj.dst ≠ some d
  | [], h => by simp
  | k :: r, h => by
    simp only [okRe, Bool.and_eq_true, Bool.or_eq_true] at h
    intro j hj hne
    simp at hj
    rcases hj with rfl | hj
    · rcases h.1 with (h1 | h1) | h1
      · exact absurd (Nat.eq_of_beq_eq_true h1) hne
      · exact .inl (ancB_anc h1)
      · refine .inr fun oj hoj d hd => ?_
        rw [hoj] at h1
        simp only at h1
        have := optAll_iff.1 h1 d hd
        simp only [Bool.and_eq_true] at this
        exact ⟨out_iff.1 this.1, neD_iff this.2⟩
    · exact okRe_iff h.2 j hj hne
def okRe0 (ops : List Oper) (o : Oper) (i : Nat) : List Nat → Bool
  | [] => true
  | j :: r => (Nat.beq j i || (match nthO ops j with | some oj => optAll o.dst fun d => out (looks ops oj) d && neD oj.dst d | none => true)) && okRe0 ops o i r
theorem okRe0_iff {ops : List Oper} {o : Oper} {i : Nat} : ∀ {re : List Nat}, okRe0 ops o i re = true → ∀ j ∈ re, j ≠ i → ∀ oj, nthO ops j = some oj → ∀ d, o.dst = some d → d ∉ looks ops oj ∧ oj.dst ≠ some d
  | [], h => by simp
  | k :: r, h => by
    simp only [okRe0, Bool.and_eq_true, Bool.or_eq_true] at h
    intro j hj hne oj hoj d hd
    simp at hj
    rcases hj with rfl | hj
    · rcases h.1 with h1 | h1
      · exact absurd (Nat.eq_of_beq_eq_true h1) hne
      · rw [hoj] at h1
        simp only at h1
        have := optAll_iff.1 h1 d hd
        simp only [Bool.and_eq_true] at this
        exact ⟨out_iff.1 this.1, neD_iff this.2⟩
    · exact okRe0_iff h.2 j hj hne oj hoj d hd
end Go.Rs
end
section
namespace Go.Rs
variable {P : Program} {B : Base} {L L' : Locs}
def kindB (ops : List Oper) (M : List Nat) (x y : DI) (ox oy : Oper) : Bool :=
  match x, y with
  | .q _, .q _ => true
  | .q i, .l _ re => (envOnly ox || memN re i) && okRe ops M ox i re
  | .q _, .a _ => true
  | .l _ re, .a k => isCallB ox && (out re k && okRe0 ops oy k re)
  | .a _, .a _ => true
  | _, _ => false
def hopB (ops : List Oper) (M : List Nat) (x y : DI) : Bool :=
  match nthO ops x.ix, nthO ops y.ix with
  | some ox, some oy => (optAll ox.dst fun d => out (looks ops oy) d) && (optAll oy.dst fun d => out (looks ops ox) d) && kindB ops M x y ox oy
  | _, _ => false
theorem hopB_hop {ops : List Oper} {x y : DI} (h : hopB ops (masks ops []) x y = true) : Hop ops x y := by
  unfold hopB at h
  split at h
  · rename_i ox oy hox hoy
    simp only [Bool.and_eq_true] at h
    obtain ⟨⟨h1, h2⟩, h3⟩ := h
    refine ⟨fun ox' oy' hx hy => ?_, ?_⟩
    · rw [hox] at hx; rw [hoy] at hy; cases hx; cases hy
      exact ⟨fun d hd => out_iff.1 (optAll_iff.1 h1 d hd), fun d hd => out_iff.1 (optAll_iff.1 h2 d hd)⟩
    · unfold kindB at h3
      split at h3
      · trivial
      · rename_i i k re
        simp only [Bool.and_eq_true, Bool.or_eq_true] at h3
        have hox' : nthO ops i = some ox := hox
        refine ⟨fun ox' hx => ?_, fun j hj hne => (okRe_iff h3.2 j hj hne).imp (fun h => h) fun h oj ox' hoj hx d hd => ?_⟩
        · rw [hox'] at hx; cases hx
          exact h3.1.imp (fun h => h) mem_of_memN.1
        · rw [hox'] at hx; cases hx
          exact h oj hoj d hd
      · trivial
      · rename_i i re k
        simp only [Bool.and_eq_true] at h3
        have hox' : nthO ops i = some ox := hox
        have hoy' : nthO ops k = some oy := hoy
        refine ⟨fun ox' hx => ?_, fun j hj oj ok' hoj hk d hd => ?_⟩
        · rw [hox'] at hx; cases hx
          exact isCallB_v h3.1
        · rw [hoy'] at hk; cases hk
          exact okRe0_iff h3.2.2 j hj (fun e => out_iff.1 h3.2.1 (e ▸ hj)) oj hoj d hd
      · trivial
      · cases h3
  · cases h
def pairsB (ops : List Oper) (M : List Nat) (x : DI) : List DI → Bool
  | [] => true
  | y :: r => (ancB M x.ix y.ix || hopB ops M x y) && (!Nat.beq x.ix y.ix) && pairsB ops M x r
theorem pairsB_all {ops : List Oper} {x : DI} : ∀ {l : List DI}, pairsB ops (masks ops []) x l = true → ∀ y ∈ l, (Anc ops x.ix y.ix ∨ Hop ops x y) ∧ x.ix ≠ y.ix
  | [], h => by simp
  | z :: r, h => by
    simp only [pairsB, Bool.and_eq_true, Bool.or_eq_true] at h
    intro y hy
    simp at hy
    rcases hy with rfl | hy
    · refine ⟨h.1.1.imp ancB_anc hopB_hop, fun e => ?_⟩
      have := h.1.2
      rw [e, Nat.beq_refl] at this; cases this
    · exact pairsB_all h.2 y hy
def outs (W : List Nat) : List Nat → Bool
  | [] => true
  | t :: r => out W t && outs W r
theorem outs_iff {W : List Nat} : ∀ {l : List Nat}, outs W l = true → ∀ t ∈ l, t ∉ W
  | [], h => by simp
  | a :: r, h => by
    simp only [outs, Bool.and_eq_true] at h
    intro t ht
    simp at ht
    rcases ht with rfl | ht
    · exact out_iff.1 h.1
    · exact outs_iff h.2 t ht
def reB (x : DI) (r : List DI) : Bool := match x with
  | .l _ re => outs (r.map (·.ix)) re
  | _ => true
def allocB (x : DI) (o : Oper) : Bool :=
  match x with
  | .a _ => match allocO o, o.dst, o.guard with
    | true, some _, none => true
    | _, _, _ => false
  | _ => true
def predsB (n : Nat) (ixs : List Nat) : List Nat → Bool
  | [] => true
  | p :: r => Nat.blt p n && out ixs p && predsB n ixs r
theorem predsB_iff {n : Nat} {ixs : List Nat} : ∀ {l : List Nat}, predsB n ixs l = true → ∀ p ∈ l, p < n ∧ p ∉ ixs
  | [], h => by simp
  | a :: r, h => by
    simp only [predsB, Bool.and_eq_true] at h
    intro t ht
    simp at ht
    rcases ht with rfl | ht
    · exact ⟨Nat.lt_of_succ_le (Nat.le_of_ble_eq_true h.1.1), out_iff.1 h.1.2⟩
    · exact predsB_iff h.2 t ht
def leftB (ops : List Oper) (M : List Nat) : List DI → Bool
  | [] => true
  | x :: r => match nthO ops x.ix with
    | some o => outs (WD ops (x :: r)) (slotOf ops o) && (optAll o.dst fun d => out (WD ops r) d && out (looks ops o) d) && pairsB ops M x r && allocB x o && reB x r && predsB ops.length ((x :: r).map (·.ix)) (preds o) && leftB ops M r
    | none => false
end Go.Rs
end
section
namespace Go.Rs
variable {P : Program} {B : Base} {L L' : Locs}
theorem allocB_ok {x : DI} {o : Oper} (h : allocB x o = true) {k : Nat} (hx : x = .a k) : ∃ d, allocO o = true ∧ o.dst = some d ∧ o.guard = none := by
  subst hx
  unfold allocB at h
  simp only at h
  split at h
  · rename_i d h1 h2 h3; exact ⟨d, h1, h2, h3⟩
  · cases h
theorem leftB_left {ops : List Oper} : ∀ {l : List DI}, leftB ops (masks ops []) l = true → Left ops l
  | [], _ => ⟨trivial, .nil, fun k hk => by simp at hk, fun x hx => by simp at hx, fun l1 i re l2 e => by simp at e, fun l1 x l2 e => by simp at e⟩
  | x :: r, h => by
    simp only [leftB] at h
    split at h
    case h_2 => cases h
    rename_i o ho
    simp only [Bool.and_eq_true] at h
    obtain ⟨⟨⟨⟨⟨⟨h1, h2⟩, h3⟩, h4⟩, h40⟩, h5⟩, h6⟩ := h
    have hr := leftB_left h6
    have hp := pairsB_all h3
    refine ⟨⟨fun o' ho' => ?_, fun y hy => (hp y hy).2, hr.good⟩, List.pairwise_cons.2 ⟨fun y hy => (hp y hy).1, hr.pair⟩, fun k hk o' ho' => ?_, fun y hy => ?_, fun l1 i re l2 e j hj y hy => ?_, fun l1 y l2 e o' ho' p hpp => ?_⟩
    · rw [ho] at ho'; cases ho'
      refine ⟨outs_iff h1, fun d hd => ?_⟩
      have := optAll_iff.1 h2 d hd
      simp only [Bool.and_eq_true] at this
      exact ⟨out_iff.1 this.1, out_iff.1 this.2⟩
    · simp at hk
      rcases hk with hk | hk
      · have e : x = .a k := hk.symm
        rw [e] at ho
        have ho2 : nthO ops k = some o := ho
        rw [ho2] at ho'; cases ho'
        exact allocB_ok h4 e
      · exact hr.alloc k hk o' ho'
    · simp at hy
      rcases hy with rfl | hy
      · exact ⟨o, ho⟩
      · exact hr.ex y hy
    · cases l1 with
      | nil =>
        simp at e
        obtain ⟨rfl, rfl⟩ := e
        exact fun e => outs_iff h40 j hj (List.mem_map.2 ⟨y, hy, e.symm⟩)
      | cons z l1 =>
        simp at e
        exact hr.reOut l1 i re l2 e.2 j hj y hy
    · cases l1 with
      | nil =>
        simp at e
        obtain ⟨rfl, rfl⟩ := e
        rw [ho] at ho'; cases ho'
        obtain ⟨h7, h8⟩ := predsB_iff h5 p hpp
        exact ⟨h7, fun z hz e => h8 (List.mem_map.2 ⟨z, hz, e⟩)⟩
      | cons z l1 =>
        simp at e
        obtain ⟨rfl, e⟩ := e
        exact hr.topo l1 y l2 e o' ho' p hpp
def covers (ixs : List Nat) : Nat → Bool
  | 0 => true
  | n + 1 => memN ixs n && covers ixs n
theorem covers_iff {ixs : List Nat} : ∀ {n : Nat}, covers ixs n = true → ∀ i, i < n → i ∈ ixs
  | 0, _ => by simp
  | n + 1, h => by
    simp only [covers, Bool.and_eq_true] at h
    intro i hi
    by_cases e : i = n
    · subst e; exact mem_of_memN.1 h.1
    · exact covers_iff h.2 i (by omega)
def okDraw (ops : List Oper) (ord : List DI) : Bool := leftB ops (masks ops []) ord && covers (ord.map (·.ix)) ops.length && Nat.beq ord.length ops.length
theorem St.drawn {n : Nat} {s : AS} {a : Act} {w w' : World} (h : St B n s a w) (hh : w'.heap = w.heap) (ho : w'.os = w.os) (ht : w'.tape = w.tape) (hout : w'.output = w.output) : St B n s a w' := by
  obtain ⟨ν, γ, h⟩ := h
  have hc : ∀ b o, w'.cell? ⟨b, o, none⟩ = w.cell? ⟨b, o, none⟩ := fun b o => cell_eq (by rw [hh])
  have hk : Keeps γ w γ w' := ⟨fun _ => Nat.le_refl _, fun b o _ => hc b o⟩
  have hm : Mem B γ w' := ⟨ho.trans h.mem.os, ht.trans h.mem.tape, hout.trans h.mem.output, by rw [hh]; exact h.mem.size, fun b hb hn => by rw [hh]; exact h.mem.block b hb hn, fun b hb => h.mem.fresh b (by rw [← hh]; exact hb), h.mem.keeps.trans hk⟩
  have st : Step B s.used ν γ w s.used ν γ w' s.locs := ⟨hm, h.locs.keepAll hk (fun _ h => h) (fun _ _ => rfl) (fun _ _ b _ _ => ⟨by rw [hh], rfl⟩), hk, fun _ h => h, fun _ _ => rfl⟩
  exact ⟨ν, γ, h.turn st⟩
theorem St.dropG {n : Nat} {s : AS} {a : Act} {w : World} (h : St B n s a w) : St B n (dropG s) a w := by
  obtain ⟨ν, γ, h⟩ := h
  have key : ∀ t, ((Go.Rs.dropG s).env t).g = [] ∧ ((Go.Rs.dropG s).env t = s.env t ∨ ((Go.Rs.dropG s).env t).v = .opq) := by
    intro t
    simp only [Go.Rs.dropG]
    split
    · rename_i v hv; exact ⟨rfl, .inl hv.symm⟩
    · exact ⟨rfl, .inr rfl⟩
  refine ⟨ν, γ, h.defers, h.size, h.mem, fun t _ => ?_, h.locs, fun t x hx => by rw [(key t).1] at hx; simp at hx, fun t b _ => by rw [(key t).1]; trivial, h.pins⟩
  rcases (key t).2 with e | e
  · rw [e]; exact h.env t (by rw [← e, (key t).1]; trivial)
  · rw [e]; exact .opq _
theorem draw_sound {E : Ctx} (hE : CtxOK P E) {id : Nat} {ops : Array Oper} {ord : List DI} {Q : Exit → Act → World → Prop} {K : AS → Prop} {s : AS} {a : Act} {w : World} (hmix : P.follows .mixedOrders = true) (hok : okDraw ops.toList ord = true) (hp : pendOK E ops.toList s ord = true)
    (h : adraw E ops.toList ord (dropG s) K) (hS : St B E.N s a w) (hQ : ∀ s' a w, K s' → AgreeW (dsts ops.toList) s s' → St B E.N s' a w → Q .normal a w) : (Code.region id ops true).wp P Q a w := by
  simp only [okDraw, Bool.and_eq_true] at hok
  obtain ⟨⟨h1, h2⟩, h3⟩ := hok
  have hleft := leftB_left h1
  have hlen : ord.length = ops.size := by simpa using Nat.eq_of_beq_eq_true h3
  have hcov : ∀ i, i < ops.size → ∃ x ∈ ord, x.ix = i := fun i hi => by
    have := covers_iff h2 i (by simpa using hi)
    simpa using this
  have hg : ∀ t, ((dropG s).env t).g = [] := by
    intro t
    simp only [dropG]
    split <;> rfl
  have hpend : ∀ (l : List DI), pendOK E ops.toList s l = true → ∀ k, .a k ∈ l → ∀ o, nthO ops.toList k = some o → ∀ d, o.dst = some d → d < 1000 ∧ Nat.blt d E.N = true ∧ s.used d = false ∧ s.locs d = none ∧ ∃ u c, aRes E.T o d = some (u, c) := by
    intro l
    induction l with
    | nil => intro _ k hk; simp at hk
    | cons x r ih =>
      intro hp k hk o ho d hd
      cases x with
      | q i => exact ih hp k (by simpa using hk) o ho d hd
      | l i re => exact ih hp k (by simpa using hk) o ho d hd
      | a i =>
        simp only [pendOK] at hp
        split at hp
        case h_2 => cases hp
        rename_i o2 ho2
        split at hp
        case h_2 => cases hp
        rename_i d2 hd2
        split at hp
        case h_2 => cases hp
        rename_i p hz hb1 hb2 hu hl
        simp at hk
        rcases hk with rfl | hk
        · rw [ho2] at ho; cases ho
          rw [hd2] at hd; cases hd
          exact ⟨Nat.lt_of_succ_le (Nat.le_of_ble_eq_true hb2), hb1, hu, hl, p.1, p.2, hz⟩
        · exact ih hp k hk o ho d hd
  have hMI : MI E.close ops.toList K (dropG s) ord (dropG s) := ⟨hleft, fun t y hy => by rw [hg t] at hy; simp at hy, fun k hk o ho d hd => hpend ord hp k hk o ho d hd, VR_close ord _ h, .refl _ _⟩
  refine wp_region_any hmix ?_
  refine any_sound hE.close E.close_mono (K := K) (s0 := dropG s) (fun s' a w hk hag hs => hQ s' a w hk (fun t ht hgt => ?_) hs) ops.size _ ord (dropG s) a _ (by simp) (by omega) (fun i hi => ?_) ?_ hMI (St.dropG (St.drawn (w' := { w with drawn := w.drawn + 1 }) hS rfl rfl rfl rfl))
  · have e : (dropG s).env t = s.env t := by
      simp only [dropG]
      rcases h9 : s.env t with ⟨g, v⟩
      rw [h9] at hgt; simp only at hgt; subst hgt; rfl
    rw [hag t ht (hg t), e]
  · constructor
    · intro _; exact hcov i hi
    · intro _; simp [Array.getD_eq_getD_getElem?, hi]
  · rintro i ⟨hi, hn⟩
    obtain ⟨x, hx, e⟩ := hcov i hi
    exact absurd e (hn x hx)
end Go.Rs
end
