import Derived.Test.YtpiclhdjglelhaaDoorDA
set_option linter.all false
namespace Go.Rs
open Go.Proofs
set_option maxRecDepth 100000
set_option linter.unusedVariables false
set_option linter.unusedSimpArgs false
def txOf : AV → List Bs
  | .ps .str l => l
  | _ => []
def isTx : AV → Bool
  | .ps .str _ => true
  | .niln => true
  | _ => false
theorem isTx_or {x : AV} (h : isTx x = true) : x = .niln ∨ ∃ l, x = .ps .str l := by
  unfold isTx at h
  split at h
  · exact .inr ⟨_, rfl⟩
  · exact .inl rfl
  · cases h
noncomputable def c42 (l : List Opn) (a : Nd) (b : Nd) (x : AV) (K : AV → List AV → Prop) : Prop :=
    Obl (((okN a ∧ okN b) ∧ isTx x = true) ∧ l.length + dszM a b ≤ 1000000 ∧ (txOf x).length + depthM a ≤ 1000) (∀ l' : List Opn, l'.length = l.length + dszM a b → K (.tup []) [.ref [.own .opn l']])
noncomputable def m42 (l : List Opn) (a : Nd) (b : Nd) (x : AV) : Nat := 2 * SizeOf.sizeOf a + 1
noncomputable def C42 : List AV → (AV → List AV → Prop) → Prop
  | [.ref [.own .opn l], .st [.int .i64 a_0, .int .i64 a_1, .str a_2, .ps .str a_3, .ps .node a_4], .st [.int .i64 b_0, .int .i64 b_1, .str b_2, .ps .str b_3, .ps .node b_4], x], K => c42 l ⟨a_0, a_1, a_2, a_3, a_4⟩ ⟨b_0, b_1, b_2, b_3, b_4⟩ x K
  | _, _ => False
noncomputable def Ck42 (k : Nat) : List AV → (AV → List AV → Prop) → Prop
  | [.ref [.own .opn l], .st [.int .i64 a_0, .int .i64 a_1, .str a_2, .ps .str a_3, .ps .node a_4], .st [.int .i64 b_0, .int .i64 b_1, .str b_2, .ps .str b_3, .ps .node b_4], x], K => Obl (m42 l ⟨a_0, a_1, a_2, a_3, a_4⟩ ⟨b_0, b_1, b_2, b_3, b_4⟩ x < k) (c42 l ⟨a_0, a_1, a_2, a_3, a_4⟩ ⟨b_0, b_1, b_2, b_3, b_4⟩ x K)
  | _, _ => False
noncomputable def c75 (l : List Opn) (a : Nd) (b : Nd) (p : List Bs) (K : AV → List AV → Prop) : Prop :=
    Obl ((((okN a ∧ okN b) ∧ a.kind = 4 ∧ b.kind = 4) ∧ l.length + (dszM.goM b a.names a.kids + missM a b) ≤ 1000000) ∧ p.length + depthM a ≤ 1000) (∀ l' : List Opn, l'.length = l.length + (dszM.goM b a.names a.kids + missM a b) → K (.tup []) [.ref [.own .opn l']])
noncomputable def m75 (l : List Opn) (a : Nd) (b : Nd) (p : List Bs) : Nat := 2 * SizeOf.sizeOf a
noncomputable def C75 : List AV → (AV → List AV → Prop) → Prop
  | [.ref [.own .opn l], .st [.int .i64 a_0, .int .i64 a_1, .str a_2, .ps .str a_3, .ps .node a_4], .st [.int .i64 b_0, .int .i64 b_1, .str b_2, .ps .str b_3, .ps .node b_4], .ps .str p], K => c75 l ⟨a_0, a_1, a_2, a_3, a_4⟩ ⟨b_0, b_1, b_2, b_3, b_4⟩ p K
  | _, _ => False
noncomputable def Ck75 (k : Nat) : List AV → (AV → List AV → Prop) → Prop
  | [.ref [.own .opn l], .st [.int .i64 a_0, .int .i64 a_1, .str a_2, .ps .str a_3, .ps .node a_4], .st [.int .i64 b_0, .int .i64 b_1, .str b_2, .ps .str b_3, .ps .node b_4], .ps .str p], K => Obl (m75 l ⟨a_0, a_1, a_2, a_3, a_4⟩ ⟨b_0, b_1, b_2, b_3, b_4⟩ p < k) (c75 l ⟨a_0, a_1, a_2, a_3, a_4⟩ ⟨b_0, b_1, b_2, b_3, b_4⟩ p K)
  | _, _ => False
noncomputable def c76 (l : List Opn) (a : Nd) (b : Nd) (p : List Bs) (K : AV → List AV → Prop) : Prop :=
    Obl ((((okN a ∧ okN b) ∧ a.kind = 3 ∧ b.kind = 3) ∧ l.length + (dszM.goL a.kids b.kids + ((a.kids.length - b.kids.length) + (b.kids.length - a.kids.length))) ≤ 1000000) ∧ p.length + depthM a ≤ 1000) (∀ l' : List Opn, l'.length = l.length + (dszM.goL a.kids b.kids + ((a.kids.length - b.kids.length) + (b.kids.length - a.kids.length))) → K (.tup []) [.ref [.own .opn l']])
noncomputable def m76 (l : List Opn) (a : Nd) (b : Nd) (p : List Bs) : Nat := 2 * SizeOf.sizeOf a
noncomputable def C76 : List AV → (AV → List AV → Prop) → Prop
  | [.ref [.own .opn l], .st [.int .i64 a_0, .int .i64 a_1, .str a_2, .ps .str a_3, .ps .node a_4], .st [.int .i64 b_0, .int .i64 b_1, .str b_2, .ps .str b_3, .ps .node b_4], .ps .str p], K => c76 l ⟨a_0, a_1, a_2, a_3, a_4⟩ ⟨b_0, b_1, b_2, b_3, b_4⟩ p K
  | _, _ => False
noncomputable def Ck76 (k : Nat) : List AV → (AV → List AV → Prop) → Prop
  | [.ref [.own .opn l], .st [.int .i64 a_0, .int .i64 a_1, .str a_2, .ps .str a_3, .ps .node a_4], .st [.int .i64 b_0, .int .i64 b_1, .str b_2, .ps .str b_3, .ps .node b_4], .ps .str p], K => Obl (m76 l ⟨a_0, a_1, a_2, a_3, a_4⟩ ⟨b_0, b_1, b_2, b_3, b_4⟩ p < k) (c76 l ⟨a_0, a_1, a_2, a_3, a_4⟩ ⟨b_0, b_1, b_2, b_3, b_4⟩ p K)
  | _, _ => False
noncomputable def E42 (k : Nat) : Ctx := mkE tab [(74, .pure F74), (75, .gen .ps (Ck75 k)), (76, .gen .ps (Ck76 k)), (77, .gen .ps C77)]
noncomputable def O42 : Nat → List DI := ordL []
theorem a42 (k : Nat) (l : List Opn) (a : Nd) (b : Nd) (x : AV) (hm : m42 l a b x < k + 1) (hb : BdAs [.ref [.own .opn l], .st (ndC a), .st (ndC b), x]) (K : AV → List AV → Prop) (h : c42 l a b x K) : abody (E42 k) O42 .ps Tryd.f42 (Tryd.f42.body.getD .skip) [.ref [.own .opn l], .st (ndC a), .st (ndC b), x] K := by
  simp only [BdAs, BdA, BdL, BdC, MX, ndC, shC, itC, stC, opC, chC, nwC, flC, rqC, rsC, enc, List.cons_append, List.nil_append, and_true, true_and] at hb
  unfold c42 at h
  unfold m42 at hm
  obtain ⟨⟨⟨⟨ha, hb2⟩, hx⟩, hle, hpd⟩, hK⟩ := h
  have hd := dszM_eq a b
  have hdl := dsz_le ha hb2
  have hdp := depth_pos a
  have hsb := hb2.sm
  obtain e | ⟨p, e⟩ := isTx_or hx
  · subst e
    simp only [txOf] at hpd
    conv => whnf
    repeat' first
      | (refine Cnd.mk (fun h => ?_) (fun h => ?_) <;> (try simp [nd_eta, sh_eta, it_eta, sto_eta, op_eta, ch_eta, nw_eta, fl_eta, rq_eta, rs_eta, elDef, -List.getD_eq_getElem?_getD] at h) <;> conv => whnf)
      | (refine Obl.mk (by first | omega | rfl | exact inK_byte _ | (simp only [inK, Int.toNat_natCast, nd_eta, sh_eta, it_eta, sto_eta, op_eta, ch_eta, nw_eta, fl_eta, rq_eta, rs_eta, elDef, isTx, txOf, List.length_append, List.length_cons, List.length_nil, m42, m75, m76, o74, m75, m76] <;> first | omega | grind) | grind [inK, isTx, txOf, List.length_append, List.length_cons, List.length_nil, m42, m75, m76, o74, m75, m76]) ?_ <;> conv => whnf)
      | (refine OblG.mk (by conv => whnf
                            repeat (first | (refine Bx.mk ?_) | (intro h; (try simp [nd_eta, sh_eta, it_eta, sto_eta, op_eta, ch_eta, nw_eta, fl_eta, rq_eta, rs_eta, elDef, -List.getD_eq_getElem?_getD] at h); conv => whnf))
                            first | omega | rfl | exact inK_byte _ | (simp only [inK, Int.toNat_natCast, nd_eta, sh_eta, it_eta, sto_eta, op_eta, ch_eta, nw_eta, fl_eta, rq_eta, rs_eta, elDef, isTx, txOf, List.length_append, List.length_cons, List.length_nil, m42, m75, m76, o74, m75, m76] <;> first | omega | grind) | grind [inK, isTx, txOf, List.length_append, List.length_cons, List.length_nil, m42, m75, m76, o74, m75, m76]) ?_ <;> conv => whnf)
      | (refine Gd.mk (fun h => ?_) <;> (try simp [nd_eta, sh_eta, it_eta, sto_eta, op_eta, ch_eta, nw_eta, fl_eta, rq_eta, rs_eta, elDef, -List.getD_eq_getElem?_getD] at h) <;> conv => whnf)
      | (refine And.intro ?_ ?_ <;> conv => whnf)
      | exact True.intro
      | (intro; conv => whnf)
    · exact hK _ (by rw [hd, if_pos (by assumption)]; rfl)
    · rename_i h0 l' hl
      simp only [nd_eta] at hl
      exact hK _ (by rw [hd, if_neg h0, if_pos h]; exact hl)
    · rename_i h0 h1 l' hl
      simp only [nd_eta] at hl
      exact hK _ (by rw [hd, if_neg h0, if_neg (by omega), if_pos h]; exact hl)
    · rename_i h0 h1
      exact hK _ (by rw [hd, if_neg h0, if_neg (by omega), if_neg (by omega)]; simp)
  · subst e
    simp only [txOf] at hpd
    conv => whnf
    repeat' first
      | (refine Cnd.mk (fun h => ?_) (fun h => ?_) <;> (try simp [nd_eta, sh_eta, it_eta, sto_eta, op_eta, ch_eta, nw_eta, fl_eta, rq_eta, rs_eta, elDef, -List.getD_eq_getElem?_getD] at h) <;> conv => whnf)
      | (refine Obl.mk (by first | omega | rfl | exact inK_byte _ | (simp only [inK, Int.toNat_natCast, nd_eta, sh_eta, it_eta, sto_eta, op_eta, ch_eta, nw_eta, fl_eta, rq_eta, rs_eta, elDef, isTx, txOf, List.length_append, List.length_cons, List.length_nil, m42, m75, m76, o74, m75, m76] <;> first | omega | grind) | grind [inK, isTx, txOf, List.length_append, List.length_cons, List.length_nil, m42, m75, m76, o74, m75, m76]) ?_ <;> conv => whnf)
      | (refine OblG.mk (by conv => whnf
                            repeat (first | (refine Bx.mk ?_) | (intro h; (try simp [nd_eta, sh_eta, it_eta, sto_eta, op_eta, ch_eta, nw_eta, fl_eta, rq_eta, rs_eta, elDef, -List.getD_eq_getElem?_getD] at h); conv => whnf))
                            first | omega | rfl | exact inK_byte _ | (simp only [inK, Int.toNat_natCast, nd_eta, sh_eta, it_eta, sto_eta, op_eta, ch_eta, nw_eta, fl_eta, rq_eta, rs_eta, elDef, isTx, txOf, List.length_append, List.length_cons, List.length_nil, m42, m75, m76, o74, m75, m76] <;> first | omega | grind) | grind [inK, isTx, txOf, List.length_append, List.length_cons, List.length_nil, m42, m75, m76, o74, m75, m76]) ?_ <;> conv => whnf)
      | (refine Gd.mk (fun h => ?_) <;> (try simp [nd_eta, sh_eta, it_eta, sto_eta, op_eta, ch_eta, nw_eta, fl_eta, rq_eta, rs_eta, elDef, -List.getD_eq_getElem?_getD] at h) <;> conv => whnf)
      | (refine And.intro ?_ ?_ <;> conv => whnf)
      | exact True.intro
      | (intro; conv => whnf)
    · exact hK _ (by rw [hd, if_pos (by assumption)]; rfl)
    · rename_i h0 l' hl
      simp only [nd_eta] at hl
      exact hK _ (by rw [hd, if_neg h0, if_pos h]; exact hl)
    · rename_i h0 h1 l' hl
      simp only [nd_eta] at hl
      exact hK _ (by rw [hd, if_neg h0, if_neg (by omega), if_pos h]; exact hl)
    · rename_i h0 h1
      exact hK _ (by rw [hd, if_neg h0, if_neg (by omega), if_neg (by omega)]; simp)
noncomputable def E75 (k : Nat) : Ctx := mkE tab [(42, .gen .ps (Ck42 k)), (77, .gen .ps C77), (83, .pure F83), (99, .gen .ps C99)]
noncomputable def O75 : Nat → List DI := ordL [(6, [.q 0, .q 1, .q 2, .q 3, .q 4, .q 5, .q 6, .q 7, .q 8, .q 9, .q 10, .q 11, .q 12, .l 13 [2, 4, 5, 7, 9, 10], .l 14 []]), (14, [.q 0, .q 1, .q 2, .q 4, .q 5, .q 6, .q 7, .q 8, .l 3 [5, 7, 8], .l 9 []])]
theorem a75 (k : Nat) (l : List Opn) (a : Nd) (b : Nd) (p : List Bs) (hm : m75 l a b p < k + 1) (hb : BdAs [.ref [.own .opn l], .st (ndC a), .st (ndC b), .ps .str p]) (K : AV → List AV → Prop) (h : c75 l a b p K) : abody (E75 k) O75 .ps Tryd.f75 (Tryd.f75.body.getD .skip) [.ref [.own .opn l], .st (ndC a), .st (ndC b), .ps .str p] K := by
  simp only [BdAs, BdA, BdL, BdC, MX, ndC, shC, itC, stC, opC, chC, nwC, flC, rqC, rsC, enc, List.cons_append, List.nil_append, and_true, true_and] at hb
  unfold c75 at h
  unfold m75 at hm
  obtain ⟨⟨⟨⟨⟨ha, hb2⟩, hk1, hk2⟩, hle⟩, hpd⟩, hK⟩ := h
  have hna := (okN_names ha).2.1 hk1
  have hnb := (okN_names hb2).2.1 hk2
  have hka := okN_kids ha
  have hkb := okN_kids hb2
  have hdp := depth_pos a
  have hd5 := okN_depth ha
  have hg0 : dszM.goM b [] [] = 0 := by rw [dszM.goM]; intro _ _ _ _ e; cases e
  have hz := smN_zero
  have hsa := okN_sorted ha hk1
  have hsb := okN_sorted hb2 hk2
  conv => whnf
  refine aloop_intro (Nat × List Opn) (fun ⟨i, m⟩ => i ≤ a.names.length ∧ m.length = l.length + dszM.goM b (a.names.take i) (a.kids.take i)) (fun ⟨i, m⟩ => a.names.length - i) (fun ⟨i, m⟩ => [(19, .int .i64 i)]) (fun ⟨i, m⟩ => [(1000000, .box [.ls 900]), (900, .arr .opn m)]) [5, 6] (0, l) [(900, 1000001)] [] ?_ ?_ (by exact sgOk_of (by rfl)) ?_
  · first | (simp; done) | (simp; assumption) | (simp only; grind)
  · (conv => whnf); (repeat' (first | exact trivial | rfl | (refine nilEq ?_; first | rfl | (simp only [*]; done) | (simp [*]; done) | grind) | apply And.intro | ((first | refine intEq ?_ | refine boolEq ?_ | refine strEq ?_ | refine psEq ?_ | refine nilEq ?_ | refine arrEq ?_); (try simp only [Int.toNat_natCast, nd_eta, sh_eta, it_eta, sto_eta, op_eta, ch_eta, nw_eta, fl_eta, rq_eta, rs_eta, elDef]); first | done | omega | grind | (simp only [*]; done) | (simp [*]; done)))); (all_goals (conv => whnf)); (repeat' (first | exact trivial | rfl | (refine nilEq ?_; first | rfl | (simp only [*]; done) | (simp [*]; done) | grind) | apply And.intro | ((first | refine intEq ?_ | refine boolEq ?_ | refine strEq ?_ | refine psEq ?_ | refine nilEq ?_ | refine arrEq ?_); (try simp only [Int.toNat_natCast, nd_eta, sh_eta, it_eta, sto_eta, op_eta, ch_eta, nw_eta, fl_eta, rq_eta, rs_eta, elDef]); first | done | omega | grind | (simp only [*]; done) | (simp [*]; done)) | ((try simp only [Int.toNat_natCast, nd_eta, sh_eta, it_eta, sto_eta, op_eta, ch_eta, nw_eta, fl_eta, rq_eta, rs_eta, elDef]); first | done | omega | grind | (simp only [*]; done) | (simp [*]; done))))
  rintro ⟨i, m⟩ hinv
  dsimp only at hinv
  conv => whnf
  obtain ⟨hi, hl⟩ := hinv
  have hmi := goM_mono b hna (i := i) (by omega)
  have hst := fun h => goM_take b a.names a.kids i h (by omega)
  have hmi1 := fun (h : i < a.names.length) => goM_mono b hna (i := i + 1) (by omega)
  have hpl := placeM_ge b (a.names.getD i [])
  have hkm := kid_map (b := a.names.getD i []) hb2 hk2
  have hks := fun (h : i < a.kids.length) => kid_size h
  have hko := fun (h : i < a.kids.length) => okN_kid ha h
  have hkd := fun (h : i < a.kids.length) => depth_kid h
  have hkb2 := fun (h : lbI (nmI b.names) (a.names.getD i []) < b.kids.length) => okN_kid hb2 h
  repeat' first
    | (refine Cnd.mk (fun h => ?_) (fun h => ?_) <;> (try simp [nd_eta, sh_eta, it_eta, sto_eta, op_eta, ch_eta, nw_eta, fl_eta, rq_eta, rs_eta, elDef, -List.getD_eq_getElem?_getD] at h) <;> conv => whnf)
    | (refine Obl.mk (by first | omega | rfl | exact inK_byte _ | (simp only [inK, Int.toNat_natCast, nd_eta, sh_eta, it_eta, sto_eta, op_eta, ch_eta, nw_eta, fl_eta, rq_eta, rs_eta, elDef, isTx, txOf, List.length_append, List.length_cons, List.length_nil, m42, m75, m76, m42, o83] <;> first | omega | grind) | grind [inK, isTx, txOf, List.length_append, List.length_cons, List.length_nil, m42, m75, m76, m42, o83]) ?_ <;> conv => whnf)
    | (refine OblG.mk (by conv => whnf
                          repeat (first | (refine Bx.mk ?_) | (intro h; (try simp [nd_eta, sh_eta, it_eta, sto_eta, op_eta, ch_eta, nw_eta, fl_eta, rq_eta, rs_eta, elDef, -List.getD_eq_getElem?_getD] at h); conv => whnf))
                          first | omega | rfl | exact inK_byte _ | (simp only [inK, Int.toNat_natCast, nd_eta, sh_eta, it_eta, sto_eta, op_eta, ch_eta, nw_eta, fl_eta, rq_eta, rs_eta, elDef, isTx, txOf, List.length_append, List.length_cons, List.length_nil, m42, m75, m76, m42, o83] <;> first | omega | grind) | grind [inK, isTx, txOf, List.length_append, List.length_cons, List.length_nil, m42, m75, m76, m42, o83]) ?_ <;> conv => whnf)
    | (refine Gd.mk (fun h => ?_) <;> (try simp [nd_eta, sh_eta, it_eta, sto_eta, op_eta, ch_eta, nw_eta, fl_eta, rq_eta, rs_eta, elDef, -List.getD_eq_getElem?_getD] at h) <;> conv => whnf)
    | (refine And.intro ?_ ?_ <;> conv => whnf)
    | exact True.intro
    | (intro; conv => whnf)
  · rename_i l2 hl2
    simp only [nd_eta, elDef, Int.toNat_natCast] at hl2
    have e1 := hkm.2 (by assumption)
    have h1 := hst (by assumption)
    rw [e1, if_neg (by omega), Int.toNat_natCast] at h1
    exact ⟨(i + 1, l2), [(900, 47000)], [], ⟨by omega, by omega⟩, by show a.names.length - (i + 1) < a.names.length - i; omega, by (conv => whnf); (repeat' (first | exact trivial | rfl | (refine nilEq ?_; first | rfl | (simp only [*]; done) | (simp [*]; done) | grind) | apply And.intro | ((first | refine intEq ?_ | refine boolEq ?_ | refine strEq ?_ | refine psEq ?_ | refine nilEq ?_ | refine arrEq ?_); (try simp only [Int.toNat_natCast, nd_eta, sh_eta, it_eta, sto_eta, op_eta, ch_eta, nw_eta, fl_eta, rq_eta, rs_eta, elDef]); first | done | omega | grind | (simp only [*]; done) | (simp [*]; done)))); (all_goals (conv => whnf)); (repeat' (first | exact trivial | rfl | (refine nilEq ?_; first | rfl | (simp only [*]; done) | (simp [*]; done) | grind) | apply And.intro | ((first | refine intEq ?_ | refine boolEq ?_ | refine strEq ?_ | refine psEq ?_ | refine nilEq ?_ | refine arrEq ?_); (try simp only [Int.toNat_natCast, nd_eta, sh_eta, it_eta, sto_eta, op_eta, ch_eta, nw_eta, fl_eta, rq_eta, rs_eta, elDef]); first | done | omega | grind | (simp only [*]; done) | (simp [*]; done)) | ((try simp only [Int.toNat_natCast, nd_eta, sh_eta, it_eta, sto_eta, op_eta, ch_eta, nw_eta, fl_eta, rq_eta, rs_eta, elDef]); first | done | omega | grind | (simp only [*]; done) | (simp [*]; done)))), (by exact sgOk_of (by rfl))⟩
  · have e1 : placeM b (a.names.getD i []) < 0 := by have := hkm.1; grind
    have h1 := hst (by assumption)
    rw [if_pos e1] at h1
    exact ⟨(i + 1, m ++ [⟨2, p ++ [a.names.getD i []], [], ⟨0, 0, [], [], []⟩⟩]), [(900, 53000)], [], ⟨by omega, by simp; omega⟩, by show a.names.length - (i + 1) < a.names.length - i; omega, by (conv => whnf); (repeat' (first | exact trivial | rfl | (refine nilEq ?_; first | rfl | (simp only [*]; done) | (simp [*]; done) | grind) | apply And.intro | ((first | refine intEq ?_ | refine boolEq ?_ | refine strEq ?_ | refine psEq ?_ | refine nilEq ?_ | refine arrEq ?_); (try simp only [Int.toNat_natCast, nd_eta, sh_eta, it_eta, sto_eta, op_eta, ch_eta, nw_eta, fl_eta, rq_eta, rs_eta, elDef]); first | done | omega | grind | (simp only [*]; done) | (simp [*]; done)))); (all_goals (conv => whnf)); (repeat' (first | exact trivial | rfl | (refine nilEq ?_; first | rfl | (simp only [*]; done) | (simp [*]; done) | grind) | apply And.intro | ((first | refine intEq ?_ | refine boolEq ?_ | refine strEq ?_ | refine psEq ?_ | refine nilEq ?_ | refine arrEq ?_); (try simp only [Int.toNat_natCast, nd_eta, sh_eta, it_eta, sto_eta, op_eta, ch_eta, nw_eta, fl_eta, rq_eta, rs_eta, elDef]); first | done | omega | grind | (simp only [*]; done) | (simp [*]; done)) | ((try simp only [Int.toNat_natCast, nd_eta, sh_eta, it_eta, sto_eta, op_eta, ch_eta, nw_eta, fl_eta, rq_eta, rs_eta, elDef]); first | done | omega | grind | (simp only [*]; done) | (simp [*]; done)))), (by exact sgOk_of (by rfl))⟩
  · have hall : m.length = l.length + dszM.goM b a.names a.kids := by rw [hl, List.take_of_length_le (by omega), List.take_of_length_le (by omega)]
    clear hl hst hmi1 hmi hkm
    refine aloop_intro (Nat × List Opn) (fun ⟨j, m2⟩ => j ≤ b.names.length ∧ m2.length = l.length + (dszM.goM b a.names a.kids + ((b.names.take j).filter fun nm => decide (placeM a nm < 0)).length)) (fun ⟨j, m2⟩ => b.names.length - j) (fun ⟨j, m2⟩ => [(57, .int .i64 j)]) (fun ⟨j, m2⟩ => [(1000000, .box [.ls 901]), (901, .arr .opn m2)]) [5, 6] (0, m) [(901, 900)] [] ?_ ?_ (by exact sgOk_of (by rfl)) ?_
    · first | (simp; done) | (simp; assumption) | (simp only; grind)
    · (conv => whnf); (repeat' (first | exact trivial | rfl | (refine nilEq ?_; first | rfl | (simp only [*]; done) | (simp [*]; done) | grind) | apply And.intro | ((first | refine intEq ?_ | refine boolEq ?_ | refine strEq ?_ | refine psEq ?_ | refine nilEq ?_ | refine arrEq ?_); (try simp only [Int.toNat_natCast, nd_eta, sh_eta, it_eta, sto_eta, op_eta, ch_eta, nw_eta, fl_eta, rq_eta, rs_eta, elDef]); first | done | omega | grind | (simp only [*]; done) | (simp [*]; done)))); (all_goals (conv => whnf)); (repeat' (first | exact trivial | rfl | (refine nilEq ?_; first | rfl | (simp only [*]; done) | (simp [*]; done) | grind) | apply And.intro | ((first | refine intEq ?_ | refine boolEq ?_ | refine strEq ?_ | refine psEq ?_ | refine nilEq ?_ | refine arrEq ?_); (try simp only [Int.toNat_natCast, nd_eta, sh_eta, it_eta, sto_eta, op_eta, ch_eta, nw_eta, fl_eta, rq_eta, rs_eta, elDef]); first | done | omega | grind | (simp only [*]; done) | (simp [*]; done)) | ((try simp only [Int.toNat_natCast, nd_eta, sh_eta, it_eta, sto_eta, op_eta, ch_eta, nw_eta, fl_eta, rq_eta, rs_eta, elDef]); first | done | omega | grind | (simp only [*]; done) | (simp [*]; done))))
    rintro ⟨j, m2⟩ hinv
    dsimp only at hinv
    conv => whnf
    obtain ⟨hj, hm⟩ := hinv
    have hmt := fun h => missM_take (a := a) (b := b) (i := j) h
    have hml := missM_le a b j
    have hml1 := missM_le a b (j + 1)
    have hkm2 := kid_map (b := b.names.getD j []) ha hk1
    have hkb3 := fun (h : j < b.kids.length) => (okN_kid hb2 h).sm
    repeat' first
      | (refine Cnd.mk (fun h => ?_) (fun h => ?_) <;> (try simp [nd_eta, sh_eta, it_eta, sto_eta, op_eta, ch_eta, nw_eta, fl_eta, rq_eta, rs_eta, elDef, -List.getD_eq_getElem?_getD] at h) <;> conv => whnf)
      | (refine Obl.mk (by first | omega | rfl | exact inK_byte _ | (simp only [inK, Int.toNat_natCast, nd_eta, sh_eta, it_eta, sto_eta, op_eta, ch_eta, nw_eta, fl_eta, rq_eta, rs_eta, elDef, isTx, txOf, List.length_append, List.length_cons, List.length_nil, m42, m75, m76, m42, o83] <;> first | omega | grind) | grind [inK, isTx, txOf, List.length_append, List.length_cons, List.length_nil, m42, m75, m76, m42, o83]) ?_ <;> conv => whnf)
      | (refine OblG.mk (by conv => whnf
                            repeat (first | (refine Bx.mk ?_) | (intro h; (try simp [nd_eta, sh_eta, it_eta, sto_eta, op_eta, ch_eta, nw_eta, fl_eta, rq_eta, rs_eta, elDef, -List.getD_eq_getElem?_getD] at h); conv => whnf))
                            first | omega | rfl | exact inK_byte _ | (simp only [inK, Int.toNat_natCast, nd_eta, sh_eta, it_eta, sto_eta, op_eta, ch_eta, nw_eta, fl_eta, rq_eta, rs_eta, elDef, isTx, txOf, List.length_append, List.length_cons, List.length_nil, m42, m75, m76, m42, o83] <;> first | omega | grind) | grind [inK, isTx, txOf, List.length_append, List.length_cons, List.length_nil, m42, m75, m76, m42, o83]) ?_ <;> conv => whnf)
      | (refine Gd.mk (fun h => ?_) <;> (try simp [nd_eta, sh_eta, it_eta, sto_eta, op_eta, ch_eta, nw_eta, fl_eta, rq_eta, rs_eta, elDef, -List.getD_eq_getElem?_getD] at h) <;> conv => whnf)
      | (refine And.intro ?_ ?_ <;> conv => whnf)
      | exact True.intro
      | (intro; conv => whnf)
    · have e1 : placeM a (b.names.getD j []) < 0 := by have := hkm2.1; grind
      have h1 := hmt (by omega)
      rw [if_pos e1] at h1
      exact ⟨(j + 1, m2 ++ [⟨1, p ++ [b.names.getD j []], [], b.kids.getD j default⟩]), [(901, 81000)], [], ⟨by omega, by simp; omega⟩, by show b.names.length - (j + 1) < b.names.length - j; omega, by (conv => whnf); (repeat' (first | exact trivial | rfl | (refine nilEq ?_; first | rfl | (simp only [*]; done) | (simp [*]; done) | grind) | apply And.intro | ((first | refine intEq ?_ | refine boolEq ?_ | refine strEq ?_ | refine psEq ?_ | refine nilEq ?_ | refine arrEq ?_); (try simp only [Int.toNat_natCast, nd_eta, sh_eta, it_eta, sto_eta, op_eta, ch_eta, nw_eta, fl_eta, rq_eta, rs_eta, elDef]); first | done | omega | grind | (simp only [*]; done) | (simp [*]; done)))); (all_goals (conv => whnf)); (repeat' (first | exact trivial | rfl | (refine nilEq ?_; first | rfl | (simp only [*]; done) | (simp [*]; done) | grind) | apply And.intro | ((first | refine intEq ?_ | refine boolEq ?_ | refine strEq ?_ | refine psEq ?_ | refine nilEq ?_ | refine arrEq ?_); (try simp only [Int.toNat_natCast, nd_eta, sh_eta, it_eta, sto_eta, op_eta, ch_eta, nw_eta, fl_eta, rq_eta, rs_eta, elDef]); first | done | omega | grind | (simp only [*]; done) | (simp [*]; done)) | ((try simp only [Int.toNat_natCast, nd_eta, sh_eta, it_eta, sto_eta, op_eta, ch_eta, nw_eta, fl_eta, rq_eta, rs_eta, elDef]); first | done | omega | grind | (simp only [*]; done) | (simp [*]; done)))), (by exact sgOk_of (by rfl))⟩
    · have e1 : ¬ placeM a (b.names.getD j []) < 0 := by have := hkm2.1; grind
      have h1 := hmt (by omega)
      rw [if_neg e1] at h1
      exact ⟨(j + 1, m2), [], [], ⟨by omega, by omega⟩, by show b.names.length - (j + 1) < b.names.length - j; omega, by (conv => whnf); (repeat' (first | exact trivial | rfl | (refine nilEq ?_; first | rfl | (simp only [*]; done) | (simp [*]; done) | grind) | apply And.intro | ((first | refine intEq ?_ | refine boolEq ?_ | refine strEq ?_ | refine psEq ?_ | refine nilEq ?_ | refine arrEq ?_); (try simp only [Int.toNat_natCast, nd_eta, sh_eta, it_eta, sto_eta, op_eta, ch_eta, nw_eta, fl_eta, rq_eta, rs_eta, elDef]); first | done | omega | grind | (simp only [*]; done) | (simp [*]; done)))); (all_goals (conv => whnf)); (repeat' (first | exact trivial | rfl | (refine nilEq ?_; first | rfl | (simp only [*]; done) | (simp [*]; done) | grind) | apply And.intro | ((first | refine intEq ?_ | refine boolEq ?_ | refine strEq ?_ | refine psEq ?_ | refine nilEq ?_ | refine arrEq ?_); (try simp only [Int.toNat_natCast, nd_eta, sh_eta, it_eta, sto_eta, op_eta, ch_eta, nw_eta, fl_eta, rq_eta, rs_eta, elDef]); first | done | omega | grind | (simp only [*]; done) | (simp [*]; done)) | ((try simp only [Int.toNat_natCast, nd_eta, sh_eta, it_eta, sto_eta, op_eta, ch_eta, nw_eta, fl_eta, rq_eta, rs_eta, elDef]); first | done | omega | grind | (simp only [*]; done) | (simp [*]; done)))), (by exact sgOk_of (by rfl))⟩
    · refine hK m2 ?_
      rw [hm, List.take_of_length_le (by omega)]; rfl
noncomputable def E76 (k : Nat) : Ctx := mkE tab [(42, .gen .ps (Ck42 k)), (77, .gen .ps C77), (97, .pure F97), (99, .gen .ps C99)]
noncomputable def O76 : Nat → List DI := ordL [(5, [.q 0, .q 1, .q 2, .q 3, .q 4, .q 5, .q 6, .q 7, .q 8, .q 9, .q 10, .q 11, .q 12, .q 13, .l 14 [2, 4, 5, 7, 9, 10], .l 15 []]), (14, [.q 0, .q 1, .q 2, .q 3, .q 5, .q 6, .q 7, .q 8, .q 9, .l 4 [6, 8, 9], .l 10 []])]
theorem a76 (k : Nat) (l : List Opn) (a : Nd) (b : Nd) (p : List Bs) (hm : m76 l a b p < k + 1) (hb : BdAs [.ref [.own .opn l], .st (ndC a), .st (ndC b), .ps .str p]) (K : AV → List AV → Prop) (h : c76 l a b p K) : abody (E76 k) O76 .ps Tryd.f76 (Tryd.f76.body.getD .skip) [.ref [.own .opn l], .st (ndC a), .st (ndC b), .ps .str p] K := by
  simp only [BdAs, BdA, BdL, BdC, MX, ndC, shC, itC, stC, opC, chC, nwC, flC, rqC, rsC, enc, List.cons_append, List.nil_append, and_true, true_and] at hb
  unfold c76 at h
  unfold m76 at hm
  obtain ⟨⟨⟨⟨⟨ha, hb2⟩, hk1, hk2⟩, hle⟩, hpd⟩, hK⟩ := h
  have hka := okN_kids ha
  have hkb := okN_kids hb2
  have hdp := depth_pos a
  have hd5 := okN_depth ha
  have hg0 : dszM.goL [] [] = 0 := by rw [dszM.goL]; intro _ _ _ _ e; cases e
  have hz := smN_zero
  obtain ⟨n, hn⟩ : ∃ n : Nat, n = Nat.min a.kids.length b.kids.length := ⟨_, rfl⟩
  have hn1 : n ≤ a.kids.length := by rw [hn]; exact Nat.min_le_left _ _
  have hn2 : n ≤ b.kids.length := by rw [hn]; exact Nat.min_le_right _ _
  have hn3 : n = a.kids.length ∨ n = b.kids.length := by rw [hn]; simp only [Nat.min_def]; split <;> simp
  have hmin : (if (b.kids.length : Int) < (a.kids.length : Int) then (b.kids.length : Int) else (a.kids.length : Int)) = (n : Int) := by split <;> omega
  have hgn : dszM.goL (a.kids.take n) (b.kids.take n) = dszM.goL a.kids b.kids := by rw [hn]; exact goL_min _ _
  conv => whnf
  rw [hmin]
  refine aloop_intro (Nat × List Opn) (fun ⟨i, m⟩ => i ≤ n ∧ m.length = l.length + dszM.goL (a.kids.take i) (b.kids.take i)) (fun ⟨i, m⟩ => n - i) (fun ⟨i, m⟩ => [(20, .int .i64 i)]) (fun ⟨i, m⟩ => [(1000000, .box [.ls 900]), (900, .arr .opn m)]) [5, 6] (0, l) [(900, 1000001)] [] ?_ ?_ (by exact sgOk_of (by rfl)) ?_
  · first | (simp; done) | (simp; assumption) | (simp only; grind)
  · (conv => whnf); (repeat' (first | exact trivial | rfl | (refine nilEq ?_; first | rfl | (simp only [*]; done) | (simp [*]; done) | grind) | apply And.intro | ((first | refine intEq ?_ | refine boolEq ?_ | refine strEq ?_ | refine psEq ?_ | refine nilEq ?_ | refine arrEq ?_); (try simp only [Int.toNat_natCast, nd_eta, sh_eta, it_eta, sto_eta, op_eta, ch_eta, nw_eta, fl_eta, rq_eta, rs_eta, elDef]); first | done | omega | grind | (simp only [*]; done) | (simp [*]; done)))); (all_goals (conv => whnf)); (repeat' (first | exact trivial | rfl | (refine nilEq ?_; first | rfl | (simp only [*]; done) | (simp [*]; done) | grind) | apply And.intro | ((first | refine intEq ?_ | refine boolEq ?_ | refine strEq ?_ | refine psEq ?_ | refine nilEq ?_ | refine arrEq ?_); (try simp only [Int.toNat_natCast, nd_eta, sh_eta, it_eta, sto_eta, op_eta, ch_eta, nw_eta, fl_eta, rq_eta, rs_eta, elDef]); first | done | omega | grind | (simp only [*]; done) | (simp [*]; done)) | ((try simp only [Int.toNat_natCast, nd_eta, sh_eta, it_eta, sto_eta, op_eta, ch_eta, nw_eta, fl_eta, rq_eta, rs_eta, elDef]); first | done | omega | grind | (simp only [*]; done) | (simp [*]; done))))
  rintro ⟨i, m⟩ hinv
  dsimp only at hinv
  conv => whnf
  obtain ⟨hi, hl⟩ := hinv
  have hmi := goL_le a.kids b.kids i
  have hst := fun h1 h2 => goL_take a.kids b.kids i h1 h2
  have hmi1 := goL_le a.kids b.kids (i + 1)
  have hks := fun (h : i < a.kids.length) => kid_size h
  have hko := fun (h : i < a.kids.length) => okN_kid ha h
  have hkd := fun (h : i < a.kids.length) => depth_kid h
  have hkb2 := fun (h : i < b.kids.length) => okN_kid hb2 h
  repeat' first
    | (refine Cnd.mk (fun h => ?_) (fun h => ?_) <;> (try simp [nd_eta, sh_eta, it_eta, sto_eta, op_eta, ch_eta, nw_eta, fl_eta, rq_eta, rs_eta, elDef, -List.getD_eq_getElem?_getD] at h) <;> conv => whnf)
    | (refine Obl.mk (by first | omega | rfl | exact inK_byte _ | (simp only [inK, Int.toNat_natCast, nd_eta, sh_eta, it_eta, sto_eta, op_eta, ch_eta, nw_eta, fl_eta, rq_eta, rs_eta, elDef, isTx, txOf, List.length_append, List.length_cons, List.length_nil, m42, m75, m76, m42, o97] <;> first | omega | grind) | grind [inK, isTx, txOf, List.length_append, List.length_cons, List.length_nil, m42, m75, m76, m42, o97]) ?_ <;> conv => whnf)
    | (refine OblG.mk (by conv => whnf
                          repeat (first | (refine Bx.mk ?_) | (intro h; (try simp [nd_eta, sh_eta, it_eta, sto_eta, op_eta, ch_eta, nw_eta, fl_eta, rq_eta, rs_eta, elDef, -List.getD_eq_getElem?_getD] at h); conv => whnf))
                          first | omega | rfl | exact inK_byte _ | (simp only [inK, Int.toNat_natCast, nd_eta, sh_eta, it_eta, sto_eta, op_eta, ch_eta, nw_eta, fl_eta, rq_eta, rs_eta, elDef, isTx, txOf, List.length_append, List.length_cons, List.length_nil, m42, m75, m76, m42, o97] <;> first | omega | grind) | grind [inK, isTx, txOf, List.length_append, List.length_cons, List.length_nil, m42, m75, m76, m42, o97]) ?_ <;> conv => whnf)
    | (refine Gd.mk (fun h => ?_) <;> (try simp [nd_eta, sh_eta, it_eta, sto_eta, op_eta, ch_eta, nw_eta, fl_eta, rq_eta, rs_eta, elDef, -List.getD_eq_getElem?_getD] at h) <;> conv => whnf)
    | (refine And.intro ?_ ?_ <;> conv => whnf)
    | exact True.intro
    | (intro; conv => whnf)
  · rename_i l2 hl2
    simp only [nd_eta, elDef, Int.toNat_natCast] at hl2
    have h1 := hst (by omega) (by omega)
    exact ⟨(i + 1, l2), [(900, 39000)], [], ⟨by omega, by omega⟩, by show n - (i + 1) < n - i; omega, by (conv => whnf); (repeat' (first | exact trivial | rfl | (refine nilEq ?_; first | rfl | (simp only [*]; done) | (simp [*]; done) | grind) | apply And.intro | ((first | refine intEq ?_ | refine boolEq ?_ | refine strEq ?_ | refine psEq ?_ | refine nilEq ?_ | refine arrEq ?_); (try simp only [Int.toNat_natCast, nd_eta, sh_eta, it_eta, sto_eta, op_eta, ch_eta, nw_eta, fl_eta, rq_eta, rs_eta, elDef]); first | done | omega | grind | (simp only [*]; done) | (simp [*]; done)))); (all_goals (conv => whnf)); (repeat' (first | exact trivial | rfl | (refine nilEq ?_; first | rfl | (simp only [*]; done) | (simp [*]; done) | grind) | apply And.intro | ((first | refine intEq ?_ | refine boolEq ?_ | refine strEq ?_ | refine psEq ?_ | refine nilEq ?_ | refine arrEq ?_); (try simp only [Int.toNat_natCast, nd_eta, sh_eta, it_eta, sto_eta, op_eta, ch_eta, nw_eta, fl_eta, rq_eta, rs_eta, elDef]); first | done | omega | grind | (simp only [*]; done) | (simp [*]; done)) | ((try simp only [Int.toNat_natCast, nd_eta, sh_eta, it_eta, sto_eta, op_eta, ch_eta, nw_eta, fl_eta, rq_eta, rs_eta, elDef]); first | done | omega | grind | (simp only [*]; done) | (simp [*]; done)))), (by exact sgOk_of (by rfl))⟩
  obtain rfl : i = n := by omega
  rw [hgn] at hl
  clear hst hmi1 hmi hks hko hkd hkb2
  refine aloop_intro (Nat × List Opn) (fun ⟨j, m2⟩ => j ≤ a.kids.length - i ∧ m2.length = l.length + dszM.goL a.kids b.kids + (a.kids.length - i - j)) (fun ⟨j, m2⟩ => j) (fun ⟨j, m2⟩ => [(10, .int .i64 ((i + j : Nat) - 1 : Int))]) (fun ⟨j, m2⟩ => [(1000000, .box [.ls 901]), (901, .arr .opn m2)]) [5, 6] (a.kids.length - i, m) [(901, 900)] [] ?_ ?_ (by exact sgOk_of (by rfl)) ?_
  · first | (simp; done) | (simp; assumption) | (simp only; grind)
  · (conv => whnf); (repeat' (first | exact trivial | rfl | (refine nilEq ?_; first | rfl | (simp only [*]; done) | (simp [*]; done) | grind) | apply And.intro | ((first | refine intEq ?_ | refine boolEq ?_ | refine strEq ?_ | refine psEq ?_ | refine nilEq ?_ | refine arrEq ?_); (try simp only [Int.toNat_natCast, nd_eta, sh_eta, it_eta, sto_eta, op_eta, ch_eta, nw_eta, fl_eta, rq_eta, rs_eta, elDef]); first | done | omega | grind | (simp only [*]; done) | (simp [*]; done)))); (all_goals (conv => whnf)); (repeat' (first | exact trivial | rfl | (refine nilEq ?_; first | rfl | (simp only [*]; done) | (simp [*]; done) | grind) | apply And.intro | ((first | refine intEq ?_ | refine boolEq ?_ | refine strEq ?_ | refine psEq ?_ | refine nilEq ?_ | refine arrEq ?_); (try simp only [Int.toNat_natCast, nd_eta, sh_eta, it_eta, sto_eta, op_eta, ch_eta, nw_eta, fl_eta, rq_eta, rs_eta, elDef]); first | done | omega | grind | (simp only [*]; done) | (simp [*]; done)) | ((try simp only [Int.toNat_natCast, nd_eta, sh_eta, it_eta, sto_eta, op_eta, ch_eta, nw_eta, fl_eta, rq_eta, rs_eta, elDef]); first | done | omega | grind | (simp only [*]; done) | (simp [*]; done))))
  rintro ⟨j, m2⟩ hinv
  dsimp only at hinv
  conv => whnf
  obtain ⟨hj, hm⟩ := hinv
  repeat' first
    | (refine Cnd.mk (fun h => ?_) (fun h => ?_) <;> (try simp [nd_eta, sh_eta, it_eta, sto_eta, op_eta, ch_eta, nw_eta, fl_eta, rq_eta, rs_eta, elDef, -List.getD_eq_getElem?_getD] at h) <;> conv => whnf)
    | (refine Obl.mk (by first | omega | rfl | exact inK_byte _ | (simp only [inK, Int.toNat_natCast, nd_eta, sh_eta, it_eta, sto_eta, op_eta, ch_eta, nw_eta, fl_eta, rq_eta, rs_eta, elDef, isTx, txOf, List.length_append, List.length_cons, List.length_nil, m42, m75, m76, m42, o97] <;> first | omega | grind) | grind [inK, isTx, txOf, List.length_append, List.length_cons, List.length_nil, m42, m75, m76, m42, o97]) ?_ <;> conv => whnf)
    | (refine OblG.mk (by conv => whnf
                          repeat (first | (refine Bx.mk ?_) | (intro h; (try simp [nd_eta, sh_eta, it_eta, sto_eta, op_eta, ch_eta, nw_eta, fl_eta, rq_eta, rs_eta, elDef, -List.getD_eq_getElem?_getD] at h); conv => whnf))
                          first | omega | rfl | exact inK_byte _ | (simp only [inK, Int.toNat_natCast, nd_eta, sh_eta, it_eta, sto_eta, op_eta, ch_eta, nw_eta, fl_eta, rq_eta, rs_eta, elDef, isTx, txOf, List.length_append, List.length_cons, List.length_nil, m42, m75, m76, m42, o97] <;> first | omega | grind) | grind [inK, isTx, txOf, List.length_append, List.length_cons, List.length_nil, m42, m75, m76, m42, o97]) ?_ <;> conv => whnf)
    | (refine Gd.mk (fun h => ?_) <;> (try simp [nd_eta, sh_eta, it_eta, sto_eta, op_eta, ch_eta, nw_eta, fl_eta, rq_eta, rs_eta, elDef, -List.getD_eq_getElem?_getD] at h) <;> conv => whnf)
    | (refine And.intro ?_ ?_ <;> conv => whnf)
    | exact True.intro
    | (intro; conv => whnf)
  · exact ⟨(j - 1, m2 ++ [⟨2, p ++ [decM ((i + j : Nat) - 1 : Int).toNat], [], ⟨0, 0, [], [], []⟩⟩]), [(901, 56000)], [], ⟨by omega, by simp; omega⟩, by show j - 1 < j; omega, by (conv => whnf); (repeat' (first | exact trivial | rfl | (refine nilEq ?_; first | rfl | (simp only [*]; done) | (simp [*]; done) | grind) | apply And.intro | ((first | refine intEq ?_ | refine boolEq ?_ | refine strEq ?_ | refine psEq ?_ | refine nilEq ?_ | refine arrEq ?_); (try simp only [Int.toNat_natCast, nd_eta, sh_eta, it_eta, sto_eta, op_eta, ch_eta, nw_eta, fl_eta, rq_eta, rs_eta, elDef]); first | done | omega | grind | (simp only [*]; done) | (simp [*]; done)))); (all_goals (conv => whnf)); (repeat' (first | exact trivial | rfl | (refine nilEq ?_; first | rfl | (simp only [*]; done) | (simp [*]; done) | grind) | apply And.intro | ((first | refine intEq ?_ | refine boolEq ?_ | refine strEq ?_ | refine psEq ?_ | refine nilEq ?_ | refine arrEq ?_); (try simp only [Int.toNat_natCast, nd_eta, sh_eta, it_eta, sto_eta, op_eta, ch_eta, nw_eta, fl_eta, rq_eta, rs_eta, elDef]); first | done | omega | grind | (simp only [*]; done) | (simp [*]; done)) | ((try simp only [Int.toNat_natCast, nd_eta, sh_eta, it_eta, sto_eta, op_eta, ch_eta, nw_eta, fl_eta, rq_eta, rs_eta, elDef]); first | done | omega | grind | (simp only [*]; done) | (simp [*]; done)))), (by exact sgOk_of (by rfl))⟩
  obtain rfl : j = 0 := by omega
  refine aloop_intro (Nat × List Opn) (fun ⟨j, m3⟩ => j ≤ b.kids.length - i ∧ m3.length = l.length + dszM.goL a.kids b.kids + (a.kids.length - i) + j) (fun ⟨j, m3⟩ => b.kids.length - i - j) (fun ⟨j, m3⟩ => [(11, .int .i64 (i + j : Nat))]) (fun ⟨j, m3⟩ => [(1000000, .box [.ls 902]), (902, .arr .opn m3)]) [5, 6] (0, m2) [(902, 901)] [] ?_ ?_ (by exact sgOk_of (by rfl)) ?_
  · first | (simp; done) | (simp; assumption) | (simp only; grind)
  · (conv => whnf); (repeat' (first | exact trivial | rfl | (refine nilEq ?_; first | rfl | (simp only [*]; done) | (simp [*]; done) | grind) | apply And.intro | ((first | refine intEq ?_ | refine boolEq ?_ | refine strEq ?_ | refine psEq ?_ | refine nilEq ?_ | refine arrEq ?_); (try simp only [Int.toNat_natCast, nd_eta, sh_eta, it_eta, sto_eta, op_eta, ch_eta, nw_eta, fl_eta, rq_eta, rs_eta, elDef]); first | done | omega | grind | (simp only [*]; done) | (simp [*]; done)))); (all_goals (conv => whnf)); (repeat' (first | exact trivial | rfl | (refine nilEq ?_; first | rfl | (simp only [*]; done) | (simp [*]; done) | grind) | apply And.intro | ((first | refine intEq ?_ | refine boolEq ?_ | refine strEq ?_ | refine psEq ?_ | refine nilEq ?_ | refine arrEq ?_); (try simp only [Int.toNat_natCast, nd_eta, sh_eta, it_eta, sto_eta, op_eta, ch_eta, nw_eta, fl_eta, rq_eta, rs_eta, elDef]); first | done | omega | grind | (simp only [*]; done) | (simp [*]; done)) | ((try simp only [Int.toNat_natCast, nd_eta, sh_eta, it_eta, sto_eta, op_eta, ch_eta, nw_eta, fl_eta, rq_eta, rs_eta, elDef]); first | done | omega | grind | (simp only [*]; done) | (simp [*]; done))))
  rintro ⟨j, m3⟩ hinv
  dsimp only at hinv
  conv => whnf
  obtain ⟨hj2, hm2⟩ := hinv
  have hkb3 := fun (h : i + j < b.kids.length) => (okN_kid hb2 h).sm
  repeat' first
    | (refine Cnd.mk (fun h => ?_) (fun h => ?_) <;> (try simp [nd_eta, sh_eta, it_eta, sto_eta, op_eta, ch_eta, nw_eta, fl_eta, rq_eta, rs_eta, elDef, -List.getD_eq_getElem?_getD] at h) <;> conv => whnf)
    | (refine Obl.mk (by first | omega | rfl | exact inK_byte _ | (simp only [inK, Int.toNat_natCast, nd_eta, sh_eta, it_eta, sto_eta, op_eta, ch_eta, nw_eta, fl_eta, rq_eta, rs_eta, elDef, isTx, txOf, List.length_append, List.length_cons, List.length_nil, m42, m75, m76, m42, o97] <;> first | omega | grind) | grind [inK, isTx, txOf, List.length_append, List.length_cons, List.length_nil, m42, m75, m76, m42, o97]) ?_ <;> conv => whnf)
    | (refine OblG.mk (by conv => whnf
                          repeat (first | (refine Bx.mk ?_) | (intro h; (try simp [nd_eta, sh_eta, it_eta, sto_eta, op_eta, ch_eta, nw_eta, fl_eta, rq_eta, rs_eta, elDef, -List.getD_eq_getElem?_getD] at h); conv => whnf))
                          first | omega | rfl | exact inK_byte _ | (simp only [inK, Int.toNat_natCast, nd_eta, sh_eta, it_eta, sto_eta, op_eta, ch_eta, nw_eta, fl_eta, rq_eta, rs_eta, elDef, isTx, txOf, List.length_append, List.length_cons, List.length_nil, m42, m75, m76, m42, o97] <;> first | omega | grind) | grind [inK, isTx, txOf, List.length_append, List.length_cons, List.length_nil, m42, m75, m76, m42, o97]) ?_ <;> conv => whnf)
    | (refine Gd.mk (fun h => ?_) <;> (try simp [nd_eta, sh_eta, it_eta, sto_eta, op_eta, ch_eta, nw_eta, fl_eta, rq_eta, rs_eta, elDef, -List.getD_eq_getElem?_getD] at h) <;> conv => whnf)
    | (refine And.intro ?_ ?_ <;> conv => whnf)
    | exact True.intro
    | (intro; conv => whnf)
  · exact ⟨(j + 1, m3 ++ [⟨1, p ++ [decM (i + j)], [], b.kids.getD (i + j) default⟩]), [(902, 75000)], [], ⟨by omega, by simp; omega⟩, by show b.kids.length - i - (j + 1) < b.kids.length - i - j; omega, by (conv => whnf); (repeat' (first | exact trivial | rfl | (refine nilEq ?_; first | rfl | (simp only [*]; done) | (simp [*]; done) | grind) | apply And.intro | ((first | refine intEq ?_ | refine boolEq ?_ | refine strEq ?_ | refine psEq ?_ | refine nilEq ?_ | refine arrEq ?_); (try simp only [Int.toNat_natCast, nd_eta, sh_eta, it_eta, sto_eta, op_eta, ch_eta, nw_eta, fl_eta, rq_eta, rs_eta, elDef]); first | done | omega | grind | (simp only [*]; done) | (simp [*]; done)))); (all_goals (conv => whnf)); (repeat' (first | exact trivial | rfl | (refine nilEq ?_; first | rfl | (simp only [*]; done) | (simp [*]; done) | grind) | apply And.intro | ((first | refine intEq ?_ | refine boolEq ?_ | refine strEq ?_ | refine psEq ?_ | refine nilEq ?_ | refine arrEq ?_); (try simp only [Int.toNat_natCast, nd_eta, sh_eta, it_eta, sto_eta, op_eta, ch_eta, nw_eta, fl_eta, rq_eta, rs_eta, elDef]); first | done | omega | grind | (simp only [*]; done) | (simp [*]; done)) | ((try simp only [Int.toNat_natCast, nd_eta, sh_eta, it_eta, sto_eta, op_eta, ch_eta, nw_eta, fl_eta, rq_eta, rs_eta, elDef]); first | done | omega | grind | (simp only [*]; done) | (simp [*]; done)))), (by exact sgOk_of (by rfl))⟩
  · exact hK m3 (by omega)
theorem r42_75_76 : ∀ k, (CtrOK Tryd.prog 42 (.gen .ps (Ck42 k)) ∧ Callable Tryd.prog 42) ∧ (CtrOK Tryd.prog 75 (.gen .ps (Ck75 k)) ∧ Callable Tryd.prog 75) ∧ (CtrOK Tryd.prog 76 (.gen .ps (Ck76 k)) ∧ Callable Tryd.prog 76) := by
  intro k
  induction k with
  | zero =>
    exact ⟨⟨fun args K h => by
        unfold Ck42 at h; split at h
        · exact absurd h.o (Nat.not_lt_zero _)
        · exact h.elim, callable Tryd.func42 rfl (by rfl)⟩, ⟨fun args K h => by
        unfold Ck75 at h; split at h
        · exact absurd h.o (Nat.not_lt_zero _)
        · exact h.elim, callable Tryd.func75 rfl (by rfl)⟩, ⟨fun args K h => by
        unfold Ck76 at h; split at h
        · exact absurd h.o (Nat.not_lt_zero _)
        · exact h.elim, callable Tryd.func76 rfl (by rfl)⟩⟩
  | succ k ih =>
    refine ⟨?_, ?_, ?_⟩
    · refine gen_ok (E := E42 k) (mkE_cons s74 (mkE_cons ih.2.1 (mkE_cons ih.2.2 (mkE_cons s77 (mkE_nil tab_ok))))) mix (O := O42) (C := (Ck42 (k + 1))) (own := .ps) Tryd.func42 rfl (by rfl) (by kernel_rfl) (fun args K h hbd => ?_)
      unfold Ck42 at h; split at h
      case h_2 => exact h.elim
      exact ⟨Nat.le_of_ble_eq_true rfl, a42 k _ ⟨_, _, _, _, _⟩ ⟨_, _, _, _, _⟩ _ h.o (by exact hbd) _ h.k⟩
    · refine gen_ok (E := E75 k) (mkE_cons ih.1 (mkE_cons s77 (mkE_cons s83 (mkE_cons s99 (mkE_nil tab_ok))))) mix (O := O75) (C := (Ck75 (k + 1))) (own := .ps) Tryd.func75 rfl (by rfl) (by kernel_rfl) (fun args K h hbd => ?_)
      unfold Ck75 at h; split at h
      case h_2 => exact h.elim
      exact ⟨Nat.le_of_ble_eq_true rfl, a75 k _ ⟨_, _, _, _, _⟩ ⟨_, _, _, _, _⟩ _ h.o (by exact hbd) _ h.k⟩
    · refine gen_ok (E := E76 k) (mkE_cons ih.1 (mkE_cons s77 (mkE_cons s97 (mkE_cons s99 (mkE_nil tab_ok))))) mix (O := O76) (C := (Ck76 (k + 1))) (own := .ps) Tryd.func76 rfl (by rfl) (by kernel_rfl) (fun args K h hbd => ?_)
      unfold Ck76 at h; split at h
      case h_2 => exact h.elim
      exact ⟨Nat.le_of_ble_eq_true rfl, a76 k _ ⟨_, _, _, _, _⟩ ⟨_, _, _, _, _⟩ _ h.o (by exact hbd) _ h.k⟩
theorem s42 : (CtrOK Tryd.prog 42 (.gen .ps C42) ∧ Callable Tryd.prog 42) := by
  refine ⟨fun args K h => ?_, (r42_75_76 0).1.2⟩
  unfold C42 at h; split at h
  · exact (r42_75_76 (m42 _ ⟨_, _, _, _, _⟩ ⟨_, _, _, _, _⟩ _ + 1)).1.1 _ K ⟨Nat.lt_succ_self _, h⟩
  · exact h.elim
theorem s75 : (CtrOK Tryd.prog 75 (.gen .ps C75) ∧ Callable Tryd.prog 75) := by
  refine ⟨fun args K h => ?_, (r42_75_76 0).2.1.2⟩
  unfold C75 at h; split at h
  · exact (r42_75_76 (m75 _ ⟨_, _, _, _, _⟩ ⟨_, _, _, _, _⟩ _ + 1)).2.1.1 _ K ⟨Nat.lt_succ_self _, h⟩
  · exact h.elim
theorem s76 : (CtrOK Tryd.prog 76 (.gen .ps C76) ∧ Callable Tryd.prog 76) := by
  refine ⟨fun args K h => ?_, (r42_75_76 0).2.2.2⟩
  unfold C76 at h; split at h
  · exact (r42_75_76 (m76 _ ⟨_, _, _, _, _⟩ ⟨_, _, _, _, _⟩ _ + 1)).2.2.1 _ K ⟨Nat.lt_succ_self _, h⟩
  · exact h.elim
def dsI (a b : Nd) : Int := if validM a && validM b then (dszM a b : Int) else -1
theorem dsI_no {a b : Nd} (h : validM a = false ∨ validM b = false) : dsI a b = -1 := by unfold dsI; rcases h with h | h <;> simp [h]
theorem dsI_ok {a b : Nd} (h : validM a = true ∧ validM b = true) : dsI a b = dszM a b := by unfold dsI; simp [h.1, h.2]
noncomputable def v18 (a : Nd) (b : Nd) : AV := .int .i64 (dsI a b)
noncomputable def o18 (a : Nd) (b : Nd) : Prop := True
noncomputable def F18 : List AV → QR
  | [.st [.int .i64 a_0, .int .i64 a_1, .str a_2, .ps .str a_3, .ps .node a_4], .st [.int .i64 b_0, .int .i64 b_1, .str b_2, .ps .str b_3, .ps .node b_4]] => some (none, v18 ⟨a_0, a_1, a_2, a_3, a_4⟩ ⟨b_0, b_1, b_2, b_3, b_4⟩)
  | _ => none
noncomputable def E18 : Ctx := mkE tab [(33, .pure F33), (42, .gen .ps C42)]
noncomputable def O18 : Nat → List DI := ordL []
theorem a18 (a : Nd) (b : Nd) (hb : BdAs [.st (ndC a), .st (ndC b)]) (ho : o18 a b) (K : AV → List AV → Prop) (hK : K (v18 a b) []) : abody E18 O18 .ps Tryd.f18 (Tryd.f18.body.getD .skip) [.st (ndC a), .st (ndC b)] K := by
  simp only [BdAs, BdA, BdL, BdC, MX, ndC, shC, itC, stC, opC, chC, nwC, flC, rqC, rsC, enc, List.cons_append, List.nil_append, and_true, true_and] at hb
  unfold v18 at hK
  have h1 := fun h => validM_ok (n := a) h
  have h2 := fun h => validM_ok (n := b) h
  have h3 := fun h1 h2 => dsz_le (a := a) (b := b) h1 h2
  have h4 := fun h => okN_depth (n := a) h
  conv => whnf
  repeat' first
    | (refine Cnd.mk (fun h => ?_) (fun h => ?_) <;> (try simp [nd_eta, sh_eta, it_eta, sto_eta, op_eta, ch_eta, nw_eta, fl_eta, rq_eta, rs_eta, elDef, -List.getD_eq_getElem?_getD] at h) <;> conv => whnf)
    | (refine Obl.mk (by first | omega | rfl | exact inK_byte _ | (simp only [inK, Int.toNat_natCast, nd_eta, sh_eta, it_eta, sto_eta, op_eta, ch_eta, nw_eta, fl_eta, rq_eta, rs_eta, elDef, isTx, txOf, List.length_nil, m42] <;> first | omega | grind) | grind [inK, isTx, txOf, List.length_nil, m42]) ?_ <;> conv => whnf)
    | (refine OblG.mk (by conv => whnf
                          repeat (first | (refine Bx.mk ?_) | (intro h; (try simp [nd_eta, sh_eta, it_eta, sto_eta, op_eta, ch_eta, nw_eta, fl_eta, rq_eta, rs_eta, elDef, -List.getD_eq_getElem?_getD] at h); conv => whnf))
                          first | omega | rfl | exact inK_byte _ | (simp only [inK, Int.toNat_natCast, nd_eta, sh_eta, it_eta, sto_eta, op_eta, ch_eta, nw_eta, fl_eta, rq_eta, rs_eta, elDef, isTx, txOf, List.length_nil, m42] <;> first | omega | grind) | grind [inK, isTx, txOf, List.length_nil, m42]) ?_ <;> conv => whnf)
    | (refine Gd.mk (fun h => ?_) <;> (try simp [nd_eta, sh_eta, it_eta, sto_eta, op_eta, ch_eta, nw_eta, fl_eta, rq_eta, rs_eta, elDef, -List.getD_eq_getElem?_getD] at h) <;> conv => whnf)
    | (refine And.intro ?_ ?_ <;> conv => whnf)
    | exact True.intro
    | (intro; conv => whnf)
  · exact leafI hK (dsI_no h)
  · rename_i l2 hl2
    simp only [nd_eta, List.length_nil, Nat.zero_add] at hl2
    exact leafI hK (by rw [dsI_ok h, hl2])
theorem s18 : (CtrOK Tryd.prog 18 (.pure F18) ∧ Callable Tryd.prog 18) := by
  refine pure_ok (E := E18) (mkE_cons s33 (mkE_cons s42 (mkE_nil tab_ok))) mix (O := O18) (F := F18) Tryd.func18 rfl (by rfl) (by kernel_rfl) (fun args o v h => ?_) (fun args o v h => ?_) (fun args o v h hbd hp K hK => ?_)
  · unfold F18 at h; split at h <;> cases h; first | trivial | (simp [v18, Scalar, Scalar2, Scalar1, stC, ndC, itC, chC, nwC])
  · unfold F18 at h; split at h <;> cases h; exact Nat.le_of_ble_eq_true rfl
  · unfold F18 at h; split at h
    case h_2 => cases h
    cases h
    exact a18 ⟨_, _, _, _, _⟩ ⟨_, _, _, _, _⟩ (by exact hbd) trivial K hK
noncomputable def v19 (a : Nd) (b : Nd) : AV := .int .i64 (dsI a b)
noncomputable def o19 (a : Nd) (b : Nd) : Prop := True
noncomputable def F19 : List AV → QR
  | [.st [.int .i64 a_0, .int .i64 a_1, .str a_2, .ps .str a_3, .ps .node a_4], .st [.int .i64 b_0, .int .i64 b_1, .str b_2, .ps .str b_3, .ps .node b_4]] => some (none, v19 ⟨a_0, a_1, a_2, a_3, a_4⟩ ⟨b_0, b_1, b_2, b_3, b_4⟩)
  | _ => none
noncomputable def E19 : Ctx := mkE tab [(30, .pure F30), (43, .gen .ps C43)]
noncomputable def O19 : Nat → List DI := ordL []
theorem a19 (a : Nd) (b : Nd) (hb : BdAs [.st (ndC a), .st (ndC b)]) (ho : o19 a b) (K : AV → List AV → Prop) (hK : K (v19 a b) []) : abody E19 O19 .ps Tryd.f19 (Tryd.f19.body.getD .skip) [.st (ndC a), .st (ndC b)] K := by
  simp only [BdAs, BdA, BdL, BdC, MX, ndC, shC, itC, stC, opC, chC, nwC, flC, rqC, rsC, enc, List.cons_append, List.nil_append, and_true, true_and] at hb
  unfold v19 at hK
  have h1 := fun h => validM_ok (n := a) h
  have h2 := fun h => validM_ok (n := b) h
  have h3 := fun h1 h2 => dsz_le (a := a) (b := b) h1 h2
  conv => whnf
  repeat' first
    | (refine Cnd.mk (fun h => ?_) (fun h => ?_) <;> (try simp [nd_eta, sh_eta, it_eta, sto_eta, op_eta, ch_eta, nw_eta, fl_eta, rq_eta, rs_eta, elDef, -List.getD_eq_getElem?_getD] at h) <;> conv => whnf)
    | (refine Obl.mk (by first | omega | rfl | exact inK_byte _ | (simp only [inK, Int.toNat_natCast, nd_eta, sh_eta, it_eta, sto_eta, op_eta, ch_eta, nw_eta, fl_eta, rq_eta, rs_eta, elDef, m43] <;> first | omega | grind) | grind [inK, m43]) ?_ <;> conv => whnf)
    | (refine OblG.mk (by conv => whnf
                          repeat (first | (refine Bx.mk ?_) | (intro h; (try simp [nd_eta, sh_eta, it_eta, sto_eta, op_eta, ch_eta, nw_eta, fl_eta, rq_eta, rs_eta, elDef, -List.getD_eq_getElem?_getD] at h); conv => whnf))
                          first | omega | rfl | exact inK_byte _ | (simp only [inK, Int.toNat_natCast, nd_eta, sh_eta, it_eta, sto_eta, op_eta, ch_eta, nw_eta, fl_eta, rq_eta, rs_eta, elDef, m43] <;> first | omega | grind) | grind [inK, m43]) ?_ <;> conv => whnf)
    | (refine Gd.mk (fun h => ?_) <;> (try simp [nd_eta, sh_eta, it_eta, sto_eta, op_eta, ch_eta, nw_eta, fl_eta, rq_eta, rs_eta, elDef, -List.getD_eq_getElem?_getD] at h) <;> conv => whnf)
    | (refine And.intro ?_ ?_ <;> conv => whnf)
    | exact True.intro
    | (intro; conv => whnf)
  · exact leafI hK (dsI_no h)
  · rename_i l2 hl2 hp2
    simp only [nd_eta] at hl2
    exact leafI hK (by rw [dsI_ok h, hl2])
theorem s19 : (CtrOK Tryd.prog 19 (.pure F19) ∧ Callable Tryd.prog 19) := by
  refine pure_ok (E := E19) (mkE_cons s30 (mkE_cons s43 (mkE_nil tab_ok))) mix (O := O19) (F := F19) Tryd.func19 rfl (by rfl) (by kernel_rfl) (fun args o v h => ?_) (fun args o v h => ?_) (fun args o v h hbd hp K hK => ?_)
  · unfold F19 at h; split at h <;> cases h; first | trivial | (simp [v19, Scalar, Scalar2, Scalar1, stC, ndC, itC, chC, nwC])
  · unfold F19 at h; split at h <;> cases h; exact Nat.le_of_ble_eq_true rfl
  · unfold F19 at h; split at h
    case h_2 => cases h
    cases h
    exact a19 ⟨_, _, _, _, _⟩ ⟨_, _, _, _, _⟩ (by exact hbd) trivial K hK
end Go.Rs

