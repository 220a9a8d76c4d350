import Derived.Test.YtpiclhdjglelhaaDoorCZ
set_option linter.all false
namespace Go.Rs
open Go.Proofs
set_option maxRecDepth 100000
set_option linter.unusedVariables false
set_option linter.unusedSimpArgs false
noncomputable def c43 (a : Nd) (b : Nd) (K : AV → List AV → Prop) : Prop :=
    Obl (okN a ∧ okN b) (∀ l : List Opn, l.length = dszM a b → (∀ o ∈ l, o.path.length ≤ depthM a) → K (.ps .opn l) [])
noncomputable def m43 (a : Nd) (b : Nd) : Nat := 2 * SizeOf.sizeOf a + 1
noncomputable def C43 : List AV → (AV → List AV → Prop) → Prop
  | [.st [.int .i64 a_0, .int .i64 a_1, .str a_2, .ps .str a_3, .ps .node a_4], .st [.int .i64 b_0, .int .i64 b_1, .str b_2, .ps .str b_3, .ps .node b_4]], K => c43 ⟨a_0, a_1, a_2, a_3, a_4⟩ ⟨b_0, b_1, b_2, b_3, b_4⟩ K
  | _, _ => False
noncomputable def Ck43 (k : Nat) : List AV → (AV → List AV → Prop) → Prop
  | [.st [.int .i64 a_0, .int .i64 a_1, .str a_2, .ps .str a_3, .ps .node a_4], .st [.int .i64 b_0, .int .i64 b_1, .str b_2, .ps .str b_3, .ps .node b_4]], K => Obl (m43 ⟨a_0, a_1, a_2, a_3, a_4⟩ ⟨b_0, b_1, b_2, b_3, b_4⟩ < k) (c43 ⟨a_0, a_1, a_2, a_3, a_4⟩ ⟨b_0, b_1, b_2, b_3, b_4⟩ K)
  | _, _ => False
noncomputable def c79 (a : Nd) (b : Nd) (K : AV → List AV → Prop) : Prop :=
    Obl (((okN a ∧ okN b) ∧ a.kind = 4 ∧ b.kind = 4) ∧ dszM.goM b a.names a.kids + missM a b ≤ 20000) (∀ l : List Opn, l.length = dszM.goM b a.names a.kids + missM a b → (∀ o ∈ l, o.path.length ≤ depthM a) → K (.ps .opn l) [])
noncomputable def m79 (a : Nd) (b : Nd) : Nat := 2 * SizeOf.sizeOf a
noncomputable def C79 : List AV → (AV → List AV → Prop) → Prop
  | [.st [.int .i64 a_0, .int .i64 a_1, .str a_2, .ps .str a_3, .ps .node a_4], .st [.int .i64 b_0, .int .i64 b_1, .str b_2, .ps .str b_3, .ps .node b_4]], K => c79 ⟨a_0, a_1, a_2, a_3, a_4⟩ ⟨b_0, b_1, b_2, b_3, b_4⟩ K
  | _, _ => False
noncomputable def Ck79 (k : Nat) : List AV → (AV → List AV → Prop) → Prop
  | [.st [.int .i64 a_0, .int .i64 a_1, .str a_2, .ps .str a_3, .ps .node a_4], .st [.int .i64 b_0, .int .i64 b_1, .str b_2, .ps .str b_3, .ps .node b_4]], K => Obl (m79 ⟨a_0, a_1, a_2, a_3, a_4⟩ ⟨b_0, b_1, b_2, b_3, b_4⟩ < k) (c79 ⟨a_0, a_1, a_2, a_3, a_4⟩ ⟨b_0, b_1, b_2, b_3, b_4⟩ K)
  | _, _ => False
noncomputable def c80 (a : Nd) (b : Nd) (K : AV → List AV → Prop) : Prop :=
    Obl (((okN a ∧ okN b) ∧ a.kind = 3 ∧ b.kind = 3) ∧ dszM.goL a.kids b.kids ≤ 20000) (∀ l : List Opn, l.length = dszM.goL a.kids b.kids + ((a.kids.length - b.kids.length) + (b.kids.length - a.kids.length)) → (∀ o ∈ l, o.path.length ≤ depthM a) → K (.ps .opn l) [])
noncomputable def m80 (a : Nd) (b : Nd) : Nat := 2 * SizeOf.sizeOf a
noncomputable def C80 : List AV → (AV → List AV → Prop) → Prop
  | [.st [.int .i64 a_0, .int .i64 a_1, .str a_2, .ps .str a_3, .ps .node a_4], .st [.int .i64 b_0, .int .i64 b_1, .str b_2, .ps .str b_3, .ps .node b_4]], K => c80 ⟨a_0, a_1, a_2, a_3, a_4⟩ ⟨b_0, b_1, b_2, b_3, b_4⟩ K
  | _, _ => False
noncomputable def Ck80 (k : Nat) : List AV → (AV → List AV → Prop) → Prop
  | [.st [.int .i64 a_0, .int .i64 a_1, .str a_2, .ps .str a_3, .ps .node a_4], .st [.int .i64 b_0, .int .i64 b_1, .str b_2, .ps .str b_3, .ps .node b_4]], K => Obl (m80 ⟨a_0, a_1, a_2, a_3, a_4⟩ ⟨b_0, b_1, b_2, b_3, b_4⟩ < k) (c80 ⟨a_0, a_1, a_2, a_3, a_4⟩ ⟨b_0, b_1, b_2, b_3, b_4⟩ K)
  | _, _ => False
noncomputable def E43 (k : Nat) : Ctx := mkE tab [(78, .pure F78), (79, .gen .ps (Ck79 k)), (80, .gen .ps (Ck80 k)), (81, .gen .ps C81)]
noncomputable def O43 : Nat → List DI := ordL []
theorem a43 (k : Nat) (a : Nd) (b : Nd) (hm : m43 a b < k + 1) (hb : BdAs [.st (ndC a), .st (ndC b)]) (K : AV → List AV → Prop) (h : c43 a b K) : abody (E43 k) O43 .ps Tryd.f43 (Tryd.f43.body.getD .skip) [.st (ndC a), .st (ndC b)] K := by
  simp only [BdAs, BdA, BdL, BdC, MX, ndC, shC, itC, stC, opC, chC, nwC, flC, rqC, rsC, enc, List.cons_append, List.nil_append, and_true, true_and] at hb
  unfold c43 at h
  unfold m43 at hm
  obtain ⟨⟨ha, hb⟩, hK⟩ := h
  have hd := dszM_eq a b
  have hle := dsz_le ha hb
  have hdp := depth_pos a
  have hsb := hb.sm
  conv => whnf
  repeat' first
    | (refine Cnd.mk (fun h => ?_) (fun h => ?_) <;> (try simp [nd_eta, sh_eta, it_eta, sto_eta, op_eta, ch_eta, nw_eta, fl_eta, rq_eta, rs_eta, elDef, -List.getD_eq_getElem?_getD] at h) <;> conv => whnf)
    | (refine Obl.mk (by first | omega | rfl | exact inK_byte _ | (simp only [inK, Int.toNat_natCast, nd_eta, sh_eta, it_eta, sto_eta, op_eta, ch_eta, nw_eta, fl_eta, rq_eta, rs_eta, elDef, m43, m79, m80, o78, m79, m80] <;> first | omega | grind) | grind [inK, m43, m79, m80, o78, m79, m80]) ?_ <;> conv => whnf)
    | (refine OblG.mk (by conv => whnf
                          repeat (first | (refine Bx.mk ?_) | (intro h; (try simp [nd_eta, sh_eta, it_eta, sto_eta, op_eta, ch_eta, nw_eta, fl_eta, rq_eta, rs_eta, elDef, -List.getD_eq_getElem?_getD] at h); conv => whnf))
                          first | omega | rfl | exact inK_byte _ | (simp only [inK, Int.toNat_natCast, nd_eta, sh_eta, it_eta, sto_eta, op_eta, ch_eta, nw_eta, fl_eta, rq_eta, rs_eta, elDef, m43, m79, m80, o78, m79, m80] <;> first | omega | grind) | grind [inK, m43, m79, m80, o78, m79, m80]) ?_ <;> conv => whnf)
    | (refine Gd.mk (fun h => ?_) <;> (try simp [nd_eta, sh_eta, it_eta, sto_eta, op_eta, ch_eta, nw_eta, fl_eta, rq_eta, rs_eta, elDef, -List.getD_eq_getElem?_getD] at h) <;> conv => whnf)
    | (refine And.intro ?_ ?_ <;> conv => whnf)
    | exact True.intro
    | (intro; conv => whnf)
  · exact hK [] (by rw [hd, if_pos (by assumption)]; rfl) (by simp)
  · rename_i h0 l hl hp
    simp only [nd_eta] at hl hp
    exact hK l (by rw [hd, if_neg h0, if_pos h]; exact hl) hp
  · rename_i h0 h1 l hl hp
    simp only [nd_eta] at hl hp
    exact hK l (by rw [hd, if_neg h0, if_neg (by omega), if_pos h]; exact hl) hp
  · rename_i h0 h1
    exact hK _ (by rw [hd, if_neg h0, if_neg (by omega), if_neg (by omega)]; rfl) (by simp)
noncomputable def E79 (k : Nat) : Ctx := mkE tab [(43, .gen .ps (Ck43 k)), (71, .pure F71), (81, .gen .ps C81), (102, .gen .ps C102)]
noncomputable def O79 : Nat → List DI := ordL [(5, [.q 0, .q 1, .q 2, .q 3, .q 4, .q 5, .q 6, .q 7]), (8, [.q 0, .q 1, .q 2, .q 3, .q 4, .q 5, .q 6, .q 7, .q 8, .q 9, .q 10, .q 11, .q 12, .q 13, .q 14, .q 15, .l 16 [2, 4, 5], .l 17 [], .l 18 [], .q 19]), (12, [.q 0, .q 1, .q 2, .q 3, .q 4, .q 5, .q 6, .q 7]), (13, [.q 0, .q 1, .q 2, .q 3, .q 4, .q 5, .q 7, .q 8, .q 9, .q 10, .q 11, .l 6 [8, 10, 11], .l 12 [], .l 13 [], .l 14 [], .q 15])]
theorem a79 (k : Nat) (a : Nd) (b : Nd) (hm : m79 a b < k + 1) (hb : BdAs [.st (ndC a), .st (ndC b)]) (K : AV → List AV → Prop) (h : c79 a b K) : abody (E79 k) O79 .ps Tryd.f79 (Tryd.f79.body.getD .skip) [.st (ndC a), .st (ndC b)] K := by
  simp only [BdAs, BdA, BdL, BdC, MX, ndC, shC, itC, stC, opC, chC, nwC, flC, rqC, rsC, enc, List.cons_append, List.nil_append, and_true, true_and] at hb
  unfold c79 at h
  unfold m79 at hm
  obtain ⟨⟨⟨⟨ha, hb⟩, hk1, hk2⟩, hle⟩, hK⟩ := h
  have hna := (okN_names ha).2.1 hk1
  have hnb := (okN_names hb).2.1 hk2
  have hka := okN_kids ha
  have hkb := okN_kids hb
  have hdp := depth_pos a
  have hd5 := okN_depth ha
  have hg0 : dszM.goM b [] [] = 0 := by rw [dszM.goM]; intro _ _ _ _ e; cases e
  have hz := smN_zero
  conv => whnf
  refine aloop_intro (Nat × List Opn) (fun ⟨i, l⟩ => i ≤ a.kids.length ∧ l.length = dszM.goM b (a.names.take i) (a.kids.take i) ∧ ∀ o ∈ l, o.path.length ≤ depthM a) (fun ⟨i, l⟩ => a.kids.length - i) (fun ⟨i, l⟩ => [(6, .int .i64 i), (5, .ls 900)]) (fun ⟨i, l⟩ => [(900, .arr .opn l)]) [2, 3] (0, []) [(900, 9)] [] ?_ ?_ (by exact sgOk_of (by rfl)) ?_
  · first | (simp; done) | (simp; assumption) | (simp only; grind)
  · (conv => whnf); (repeat' (first | exact trivial | rfl | (refine nilEq ?_; first | rfl | (simp only [*]; done) | (simp [*]; done) | grind) | apply And.intro | ((first | refine intEq ?_ | refine boolEq ?_ | refine strEq ?_ | refine psEq ?_ | refine nilEq ?_ | refine arrEq ?_); (try simp only [Int.toNat_natCast, nd_eta, sh_eta, it_eta, sto_eta, op_eta, ch_eta, nw_eta, fl_eta, rq_eta, rs_eta, elDef]); first | done | omega | grind | (simp only [*]; done) | (simp [*]; done)))); (all_goals (conv => whnf)); (repeat' (first | exact trivial | rfl | (refine nilEq ?_; first | rfl | (simp only [*]; done) | (simp [*]; done) | grind) | apply And.intro | ((first | refine intEq ?_ | refine boolEq ?_ | refine strEq ?_ | refine psEq ?_ | refine nilEq ?_ | refine arrEq ?_); (try simp only [Int.toNat_natCast, nd_eta, sh_eta, it_eta, sto_eta, op_eta, ch_eta, nw_eta, fl_eta, rq_eta, rs_eta, elDef]); first | done | omega | grind | (simp only [*]; done) | (simp [*]; done)) | ((try simp only [Int.toNat_natCast, nd_eta, sh_eta, it_eta, sto_eta, op_eta, ch_eta, nw_eta, fl_eta, rq_eta, rs_eta, elDef]); first | done | omega | grind | (simp only [*]; done) | (simp [*]; done))))
  rintro ⟨i, l⟩ hinv
  dsimp only at hinv
  conv => whnf
  obtain ⟨hi, hl, hp⟩ := hinv
  have hmi := goM_mono b hna hi
  have hst := fun h => goM_take b a.names a.kids i (by omega) h
  have hmi1 := fun (h : i < a.kids.length) => goM_mono b hna (i := i + 1) h
  have hpl := placeM_ge b (a.names.getD i [])
  have hks := fun (h : i < a.kids.length) => kid_size h
  have hko := fun (h : i < a.kids.length) => okN_kid ha h
  have hkd := fun (h : i < a.kids.length) => depth_kid h
  have hkb2 := fun (h : (placeM b (a.names.getD i [])).toNat < b.kids.length) => okN_kid hb h
  repeat' first
    | (refine Cnd.mk (fun h => ?_) (fun h => ?_) <;> (try simp [nd_eta, sh_eta, it_eta, sto_eta, op_eta, ch_eta, nw_eta, fl_eta, rq_eta, rs_eta, elDef, -List.getD_eq_getElem?_getD] at h) <;> conv => whnf)
    | (refine Obl.mk (by first | omega | rfl | exact inK_byte _ | (simp only [inK, Int.toNat_natCast, nd_eta, sh_eta, it_eta, sto_eta, op_eta, ch_eta, nw_eta, fl_eta, rq_eta, rs_eta, elDef, m43, m79, m80, m43, o71] <;> first | omega | grind) | grind [inK, m43, m79, m80, m43, o71]) ?_ <;> conv => whnf)
    | (refine OblG.mk (by conv => whnf
                          repeat (first | (refine Bx.mk ?_) | (intro h; (try simp [nd_eta, sh_eta, it_eta, sto_eta, op_eta, ch_eta, nw_eta, fl_eta, rq_eta, rs_eta, elDef, -List.getD_eq_getElem?_getD] at h); conv => whnf))
                          first | omega | rfl | exact inK_byte _ | (simp only [inK, Int.toNat_natCast, nd_eta, sh_eta, it_eta, sto_eta, op_eta, ch_eta, nw_eta, fl_eta, rq_eta, rs_eta, elDef, m43, m79, m80, m43, o71] <;> first | omega | grind) | grind [inK, m43, m79, m80, m43, o71]) ?_ <;> conv => whnf)
    | (refine Gd.mk (fun h => ?_) <;> (try simp [nd_eta, sh_eta, it_eta, sto_eta, op_eta, ch_eta, nw_eta, fl_eta, rq_eta, rs_eta, elDef, -List.getD_eq_getElem?_getD] at h) <;> conv => whnf)
    | (refine And.intro ?_ ?_ <;> conv => whnf)
    | exact True.intro
    | (intro; conv => whnf)
  · have h1 := hst (by assumption)
    rw [if_pos (by assumption)] at h1
    exact ⟨(i + 1, l ++ [⟨2, [a.names.getD i []], [], ⟨0, 0, [], [], []⟩⟩]), [(900, 36)], [], ⟨by omega, by simp; omega, path_app hp (by simp; omega)⟩, by show a.kids.length - (i + 1) < a.kids.length - i; omega, by (conv => whnf); (repeat' (first | exact trivial | rfl | (refine nilEq ?_; first | rfl | (simp only [*]; done) | (simp [*]; done) | grind) | apply And.intro | ((first | refine intEq ?_ | refine boolEq ?_ | refine strEq ?_ | refine psEq ?_ | refine nilEq ?_ | refine arrEq ?_); (try simp only [Int.toNat_natCast, nd_eta, sh_eta, it_eta, sto_eta, op_eta, ch_eta, nw_eta, fl_eta, rq_eta, rs_eta, elDef]); first | done | omega | grind | (simp only [*]; done) | (simp [*]; done)))); (all_goals (conv => whnf)); (repeat' (first | exact trivial | rfl | (refine nilEq ?_; first | rfl | (simp only [*]; done) | (simp [*]; done) | grind) | apply And.intro | ((first | refine intEq ?_ | refine boolEq ?_ | refine strEq ?_ | refine psEq ?_ | refine nilEq ?_ | refine arrEq ?_); (try simp only [Int.toNat_natCast, nd_eta, sh_eta, it_eta, sto_eta, op_eta, ch_eta, nw_eta, fl_eta, rq_eta, rs_eta, elDef]); first | done | omega | grind | (simp only [*]; done) | (simp [*]; done)) | ((try simp only [Int.toNat_natCast, nd_eta, sh_eta, it_eta, sto_eta, op_eta, ch_eta, nw_eta, fl_eta, rq_eta, rs_eta, elDef]); first | done | omega | grind | (simp only [*]; done) | (simp [*]; done)))), (by exact sgOk_of (by rfl))⟩
  · rename_i l2 hl2 hp2
    simp only [nd_eta, elDef, Int.toNat_natCast] at hl2 hp2
    have hkdi := hkd (by assumption)
    have h1 := hst (by assumption)
    rw [if_neg (by omega), ← hl2] at h1
    have h2 := hmi1 (by assumption)
    have hul : (underM (a.names.getD i []) l2).length = l2.length := underM_len _ _
    refine Obl.mk ⟨by omega, path_le hp2 (by omega)⟩ ?_
    conv => whnf
    repeat' first
      | (refine Cnd.mk (fun h => ?_) (fun h => ?_) <;> (try simp [nd_eta, sh_eta, it_eta, sto_eta, op_eta, ch_eta, nw_eta, fl_eta, rq_eta, rs_eta, elDef, -List.getD_eq_getElem?_getD] at h) <;> conv => whnf)
      | (refine Obl.mk (by first | omega | rfl | exact inK_byte _ | (simp only [inK, Int.toNat_natCast, nd_eta, sh_eta, it_eta, sto_eta, op_eta, ch_eta, nw_eta, fl_eta, rq_eta, rs_eta, elDef, m43, m79, m80, m43, o71] <;> first | omega | grind) | grind [inK, m43, m79, m80, m43, o71]) ?_ <;> conv => whnf)
      | (refine OblG.mk (by conv => whnf
                            repeat (first | (refine Bx.mk ?_) | (intro h; (try simp [nd_eta, sh_eta, it_eta, sto_eta, op_eta, ch_eta, nw_eta, fl_eta, rq_eta, rs_eta, elDef, -List.getD_eq_getElem?_getD] at h); conv => whnf))
                            first | omega | rfl | exact inK_byte _ | (simp only [inK, Int.toNat_natCast, nd_eta, sh_eta, it_eta, sto_eta, op_eta, ch_eta, nw_eta, fl_eta, rq_eta, rs_eta, elDef, m43, m79, m80, m43, o71] <;> first | omega | grind) | grind [inK, m43, m79, m80, m43, o71]) ?_ <;> conv => whnf)
      | (refine Gd.mk (fun h => ?_) <;> (try simp [nd_eta, sh_eta, it_eta, sto_eta, op_eta, ch_eta, nw_eta, fl_eta, rq_eta, rs_eta, elDef, -List.getD_eq_getElem?_getD] at h) <;> conv => whnf)
      | (refine And.intro ?_ ?_ <;> conv => whnf)
      | exact True.intro
      | (intro; conv => whnf)
    exact ⟨(i + 1, l ++ underM (a.names.getD i []) l2), [(900, 55)], [], ⟨by omega, by simp only [List.length_append, Int.toNat_natCast, elDef, hul]; omega, path_app hp (path_le (under_path hp2) (by omega))⟩, by show a.kids.length - (i + 1) < a.kids.length - i; omega, by (conv => whnf); (repeat' (first | exact trivial | rfl | (refine nilEq ?_; first | rfl | (simp only [*]; done) | (simp [*]; done) | grind) | apply And.intro | ((first | refine intEq ?_ | refine boolEq ?_ | refine strEq ?_ | refine psEq ?_ | refine nilEq ?_ | refine arrEq ?_); (try simp only [Int.toNat_natCast, nd_eta, sh_eta, it_eta, sto_eta, op_eta, ch_eta, nw_eta, fl_eta, rq_eta, rs_eta, elDef]); first | done | omega | grind | (simp only [*]; done) | (simp [*]; done)))); (all_goals (conv => whnf)); (repeat' (first | exact trivial | rfl | (refine nilEq ?_; first | rfl | (simp only [*]; done) | (simp [*]; done) | grind) | apply And.intro | ((first | refine intEq ?_ | refine boolEq ?_ | refine strEq ?_ | refine psEq ?_ | refine nilEq ?_ | refine arrEq ?_); (try simp only [Int.toNat_natCast, nd_eta, sh_eta, it_eta, sto_eta, op_eta, ch_eta, nw_eta, fl_eta, rq_eta, rs_eta, elDef]); first | done | omega | grind | (simp only [*]; done) | (simp [*]; done)) | ((try simp only [Int.toNat_natCast, nd_eta, sh_eta, it_eta, sto_eta, op_eta, ch_eta, nw_eta, fl_eta, rq_eta, rs_eta, elDef]); first | done | omega | grind | (simp only [*]; done) | (simp [*]; done)))), (by exact sgOk_of (by rfl))⟩
  · have hall : l.length = dszM.goM b a.names a.kids := by rw [hl, List.take_of_length_le (by omega), List.take_of_length_le (by omega)]
    clear hl hst hmi1 hmi
    refine aloop_intro (Nat × List Opn) (fun ⟨j, m⟩ => j ≤ b.kids.length ∧ m.length = dszM.goM b a.names a.kids + ((b.names.take j).filter fun nm => decide (placeM a nm < 0)).length ∧ ∀ o ∈ m, o.path.length ≤ depthM a) (fun ⟨j, m⟩ => b.kids.length - j) (fun ⟨j, m⟩ => [(8, .int .i64 j), (5, .ls 901)]) (fun ⟨j, m⟩ => [(901, .arr .opn m)]) [2, 3] (0, l) [(901, 900)] [] ?_ ?_ (by exact sgOk_of (by rfl)) ?_
    · first | (simp; done) | (simp; assumption) | (simp only; grind)
    · (conv => whnf); (repeat' (first | exact trivial | rfl | (refine nilEq ?_; first | rfl | (simp only [*]; done) | (simp [*]; done) | grind) | apply And.intro | ((first | refine intEq ?_ | refine boolEq ?_ | refine strEq ?_ | refine psEq ?_ | refine nilEq ?_ | refine arrEq ?_); (try simp only [Int.toNat_natCast, nd_eta, sh_eta, it_eta, sto_eta, op_eta, ch_eta, nw_eta, fl_eta, rq_eta, rs_eta, elDef]); first | done | omega | grind | (simp only [*]; done) | (simp [*]; done)))); (all_goals (conv => whnf)); (repeat' (first | exact trivial | rfl | (refine nilEq ?_; first | rfl | (simp only [*]; done) | (simp [*]; done) | grind) | apply And.intro | ((first | refine intEq ?_ | refine boolEq ?_ | refine strEq ?_ | refine psEq ?_ | refine nilEq ?_ | refine arrEq ?_); (try simp only [Int.toNat_natCast, nd_eta, sh_eta, it_eta, sto_eta, op_eta, ch_eta, nw_eta, fl_eta, rq_eta, rs_eta, elDef]); first | done | omega | grind | (simp only [*]; done) | (simp [*]; done)) | ((try simp only [Int.toNat_natCast, nd_eta, sh_eta, it_eta, sto_eta, op_eta, ch_eta, nw_eta, fl_eta, rq_eta, rs_eta, elDef]); first | done | omega | grind | (simp only [*]; done) | (simp [*]; done))))
    rintro ⟨j, m⟩ hinv
    dsimp only at hinv
    conv => whnf
    obtain ⟨hj, hm, hq⟩ := hinv
    have hmt := fun h => missM_take (a := a) (b := b) (i := j) h
    have hml := missM_le a b j
    have hml1 := missM_le a b (j + 1)
    have hkb3 := fun (h : j < b.kids.length) => (okN_kid hb h).sm
    repeat' first
      | (refine Cnd.mk (fun h => ?_) (fun h => ?_) <;> (try simp [nd_eta, sh_eta, it_eta, sto_eta, op_eta, ch_eta, nw_eta, fl_eta, rq_eta, rs_eta, elDef, -List.getD_eq_getElem?_getD] at h) <;> conv => whnf)
      | (refine Obl.mk (by first | omega | rfl | exact inK_byte _ | (simp only [inK, Int.toNat_natCast, nd_eta, sh_eta, it_eta, sto_eta, op_eta, ch_eta, nw_eta, fl_eta, rq_eta, rs_eta, elDef, m43, m79, m80, m43, o71] <;> first | omega | grind) | grind [inK, m43, m79, m80, m43, o71]) ?_ <;> conv => whnf)
      | (refine OblG.mk (by conv => whnf
                            repeat (first | (refine Bx.mk ?_) | (intro h; (try simp [nd_eta, sh_eta, it_eta, sto_eta, op_eta, ch_eta, nw_eta, fl_eta, rq_eta, rs_eta, elDef, -List.getD_eq_getElem?_getD] at h); conv => whnf))
                            first | omega | rfl | exact inK_byte _ | (simp only [inK, Int.toNat_natCast, nd_eta, sh_eta, it_eta, sto_eta, op_eta, ch_eta, nw_eta, fl_eta, rq_eta, rs_eta, elDef, m43, m79, m80, m43, o71] <;> first | omega | grind) | grind [inK, m43, m79, m80, m43, o71]) ?_ <;> conv => whnf)
      | (refine Gd.mk (fun h => ?_) <;> (try simp [nd_eta, sh_eta, it_eta, sto_eta, op_eta, ch_eta, nw_eta, fl_eta, rq_eta, rs_eta, elDef, -List.getD_eq_getElem?_getD] at h) <;> conv => whnf)
      | (refine And.intro ?_ ?_ <;> conv => whnf)
      | exact True.intro
      | (intro; conv => whnf)
    · have h1 := hmt (by omega)
      rw [if_pos (by assumption)] at h1
      exact ⟨(j + 1, m ++ [⟨1, [b.names.getD j []], [], b.kids.getD j default⟩]), [(901, 85)], [], ⟨by omega, by simp; omega, path_app hq (by simp; omega)⟩, by show b.kids.length - (j + 1) < b.kids.length - j; omega, by (conv => whnf); (repeat' (first | exact trivial | rfl | (refine nilEq ?_; first | rfl | (simp only [*]; done) | (simp [*]; done) | grind) | apply And.intro | ((first | refine intEq ?_ | refine boolEq ?_ | refine strEq ?_ | refine psEq ?_ | refine nilEq ?_ | refine arrEq ?_); (try simp only [Int.toNat_natCast, nd_eta, sh_eta, it_eta, sto_eta, op_eta, ch_eta, nw_eta, fl_eta, rq_eta, rs_eta, elDef]); first | done | omega | grind | (simp only [*]; done) | (simp [*]; done)))); (all_goals (conv => whnf)); (repeat' (first | exact trivial | rfl | (refine nilEq ?_; first | rfl | (simp only [*]; done) | (simp [*]; done) | grind) | apply And.intro | ((first | refine intEq ?_ | refine boolEq ?_ | refine strEq ?_ | refine psEq ?_ | refine nilEq ?_ | refine arrEq ?_); (try simp only [Int.toNat_natCast, nd_eta, sh_eta, it_eta, sto_eta, op_eta, ch_eta, nw_eta, fl_eta, rq_eta, rs_eta, elDef]); first | done | omega | grind | (simp only [*]; done) | (simp [*]; done)) | ((try simp only [Int.toNat_natCast, nd_eta, sh_eta, it_eta, sto_eta, op_eta, ch_eta, nw_eta, fl_eta, rq_eta, rs_eta, elDef]); first | done | omega | grind | (simp only [*]; done) | (simp [*]; done)))), (by exact sgOk_of (by rfl))⟩
    · have h1 := hmt (by omega)
      rw [if_neg (by omega)] at h1
      exact ⟨(j + 1, m), [], [], ⟨by omega, by omega, hq⟩, by show b.kids.length - (j + 1) < b.kids.length - j; omega, by (conv => whnf); (repeat' (first | exact trivial | rfl | (refine nilEq ?_; first | rfl | (simp only [*]; done) | (simp [*]; done) | grind) | apply And.intro | ((first | refine intEq ?_ | refine boolEq ?_ | refine strEq ?_ | refine psEq ?_ | refine nilEq ?_ | refine arrEq ?_); (try simp only [Int.toNat_natCast, nd_eta, sh_eta, it_eta, sto_eta, op_eta, ch_eta, nw_eta, fl_eta, rq_eta, rs_eta, elDef]); first | done | omega | grind | (simp only [*]; done) | (simp [*]; done)))); (all_goals (conv => whnf)); (repeat' (first | exact trivial | rfl | (refine nilEq ?_; first | rfl | (simp only [*]; done) | (simp [*]; done) | grind) | apply And.intro | ((first | refine intEq ?_ | refine boolEq ?_ | refine strEq ?_ | refine psEq ?_ | refine nilEq ?_ | refine arrEq ?_); (try simp only [Int.toNat_natCast, nd_eta, sh_eta, it_eta, sto_eta, op_eta, ch_eta, nw_eta, fl_eta, rq_eta, rs_eta, elDef]); first | done | omega | grind | (simp only [*]; done) | (simp [*]; done)) | ((try simp only [Int.toNat_natCast, nd_eta, sh_eta, it_eta, sto_eta, op_eta, ch_eta, nw_eta, fl_eta, rq_eta, rs_eta, elDef]); first | done | omega | grind | (simp only [*]; done) | (simp [*]; done)))), (by exact sgOk_of (by rfl))⟩
    · refine hK m ?_ hq
      rw [hm, List.take_of_length_le (by omega)]; rfl
noncomputable def E80 (k : Nat) : Ctx := mkE tab [(43, .gen .ps (Ck43 k)), (81, .gen .ps C81), (92, .pure F92), (102, .gen .ps C102)]
noncomputable def O80 : Nat → List DI := ordL [(6, [.q 0, .q 1, .q 2, .q 3, .q 4, .q 5, .q 6, .q 7, .q 8, .q 9, .q 10, .q 11, .q 12, .l 13 [], .l 14 [], .l 15 [], .q 16]), (14, [.q 0, .q 1, .q 2, .q 4, .q 5, .q 6, .q 7, .q 8, .l 3 [5, 7, 8], .l 9 [], .l 10 [], .l 11 [], .q 12])]
theorem a80 (k : Nat) (a : Nd) (b : Nd) (hm : m80 a b < k + 1) (hb : BdAs [.st (ndC a), .st (ndC b)]) (K : AV → List AV → Prop) (h : c80 a b K) : abody (E80 k) O80 .ps Tryd.f80 (Tryd.f80.body.getD .skip) [.st (ndC a), .st (ndC b)] K := by
  simp only [BdAs, BdA, BdL, BdC, MX, ndC, shC, itC, stC, opC, chC, nwC, flC, rqC, rsC, enc, List.cons_append, List.nil_append, and_true, true_and] at hb
  unfold c80 at h
  unfold m80 at hm
  obtain ⟨⟨⟨⟨ha, hb⟩, hk1, hk2⟩, hle⟩, hK⟩ := h
  have hka := okN_kids ha
  have hkb := okN_kids hb
  have hdp := depth_pos a
  have hd5 := okN_depth ha
  have hg0 : dszM.goL [] [] = 0 := by rw [dszM.goL]; intro _ _ _ _ e; cases e
  have hz := smN_zero
  obtain ⟨n, hn⟩ : ∃ n : Nat, n = Nat.min a.kids.length b.kids.length := ⟨_, rfl⟩
  have hn1 : n ≤ a.kids.length := by rw [hn]; exact Nat.min_le_left _ _
  have hn2 : n ≤ b.kids.length := by rw [hn]; exact Nat.min_le_right _ _
  have hn3 : n = a.kids.length ∨ n = b.kids.length := by rw [hn]; simp only [Nat.min_def]; split <;> simp
  have hmin : (if (b.kids.length : Int) < (a.kids.length : Int) then (b.kids.length : Int) else (a.kids.length : Int)) = (n : Int) := by split <;> omega
  have hgn : dszM.goL (a.kids.take n) (b.kids.take n) = dszM.goL a.kids b.kids := by rw [hn]; exact goL_min _ _
  conv => whnf
  rw [hmin]
  refine aloop_intro (Nat × List Opn) (fun ⟨i, l⟩ => i ≤ n ∧ l.length = dszM.goL (a.kids.take i) (b.kids.take i) ∧ ∀ o ∈ l, o.path.length ≤ depthM a) (fun ⟨i, l⟩ => n - i) (fun ⟨i, l⟩ => [(7, .int .i64 i), (5, .ls 900)]) (fun ⟨i, l⟩ => [(900, .arr .opn l)]) [2, 3] (0, []) [(900, 10)] [] ?_ ?_ (by exact sgOk_of (by rfl)) ?_
  · first | (simp; done) | (simp; assumption) | (simp only; grind)
  · (conv => whnf); (repeat' (first | exact trivial | rfl | (refine nilEq ?_; first | rfl | (simp only [*]; done) | (simp [*]; done) | grind) | apply And.intro | ((first | refine intEq ?_ | refine boolEq ?_ | refine strEq ?_ | refine psEq ?_ | refine nilEq ?_ | refine arrEq ?_); (try simp only [Int.toNat_natCast, nd_eta, sh_eta, it_eta, sto_eta, op_eta, ch_eta, nw_eta, fl_eta, rq_eta, rs_eta, elDef]); first | done | omega | grind | (simp only [*]; done) | (simp [*]; done)))); (all_goals (conv => whnf)); (repeat' (first | exact trivial | rfl | (refine nilEq ?_; first | rfl | (simp only [*]; done) | (simp [*]; done) | grind) | apply And.intro | ((first | refine intEq ?_ | refine boolEq ?_ | refine strEq ?_ | refine psEq ?_ | refine nilEq ?_ | refine arrEq ?_); (try simp only [Int.toNat_natCast, nd_eta, sh_eta, it_eta, sto_eta, op_eta, ch_eta, nw_eta, fl_eta, rq_eta, rs_eta, elDef]); first | done | omega | grind | (simp only [*]; done) | (simp [*]; done)) | ((try simp only [Int.toNat_natCast, nd_eta, sh_eta, it_eta, sto_eta, op_eta, ch_eta, nw_eta, fl_eta, rq_eta, rs_eta, elDef]); first | done | omega | grind | (simp only [*]; done) | (simp [*]; done))))
  rintro ⟨i, l⟩ hinv
  dsimp only at hinv
  conv => whnf
  obtain ⟨hi, hl, hp⟩ := hinv
  have hmi := goL_le a.kids b.kids i
  have hst := fun h1 h2 => goL_take a.kids b.kids i h1 h2
  have hmi1 := goL_le a.kids b.kids (i + 1)
  have hks := fun (h : i < a.kids.length) => kid_size h
  have hko := fun (h : i < a.kids.length) => okN_kid ha h
  have hkd := fun (h : i < a.kids.length) => depth_kid h
  have hkb2 := fun (h : i < b.kids.length) => okN_kid hb h
  repeat' first
    | (refine Cnd.mk (fun h => ?_) (fun h => ?_) <;> (try simp [nd_eta, sh_eta, it_eta, sto_eta, op_eta, ch_eta, nw_eta, fl_eta, rq_eta, rs_eta, elDef, -List.getD_eq_getElem?_getD] at h) <;> conv => whnf)
    | (refine Obl.mk (by first | omega | rfl | exact inK_byte _ | (simp only [inK, Int.toNat_natCast, nd_eta, sh_eta, it_eta, sto_eta, op_eta, ch_eta, nw_eta, fl_eta, rq_eta, rs_eta, elDef, m43, m79, m80, m43, o92, m92] <;> first | omega | grind) | grind [inK, m43, m79, m80, m43, o92, m92]) ?_ <;> conv => whnf)
    | (refine OblG.mk (by conv => whnf
                          repeat (first | (refine Bx.mk ?_) | (intro h; (try simp [nd_eta, sh_eta, it_eta, sto_eta, op_eta, ch_eta, nw_eta, fl_eta, rq_eta, rs_eta, elDef, -List.getD_eq_getElem?_getD] at h); conv => whnf))
                          first | omega | rfl | exact inK_byte _ | (simp only [inK, Int.toNat_natCast, nd_eta, sh_eta, it_eta, sto_eta, op_eta, ch_eta, nw_eta, fl_eta, rq_eta, rs_eta, elDef, m43, m79, m80, m43, o92, m92] <;> first | omega | grind) | grind [inK, m43, m79, m80, m43, o92, m92]) ?_ <;> conv => whnf)
    | (refine Gd.mk (fun h => ?_) <;> (try simp [nd_eta, sh_eta, it_eta, sto_eta, op_eta, ch_eta, nw_eta, fl_eta, rq_eta, rs_eta, elDef, -List.getD_eq_getElem?_getD] at h) <;> conv => whnf)
    | (refine And.intro ?_ ?_ <;> conv => whnf)
    | exact True.intro
    | (intro; conv => whnf)
  · rename_i l2 hl2 hp2
    simp only [nd_eta, elDef, Int.toNat_natCast] at hl2 hp2
    have hkdi := hkd (by omega)
    have h1 := hst (by omega) (by omega)
    rw [← hl2] at h1
    have hul : (underM (decM i) l2).length = l2.length := underM_len _ _
    refine Obl.mk ⟨by omega, path_le hp2 (by omega)⟩ ?_
    conv => whnf
    repeat' first
      | (refine Cnd.mk (fun h => ?_) (fun h => ?_) <;> (try simp [nd_eta, sh_eta, it_eta, sto_eta, op_eta, ch_eta, nw_eta, fl_eta, rq_eta, rs_eta, elDef, -List.getD_eq_getElem?_getD] at h) <;> conv => whnf)
      | (refine Obl.mk (by first | omega | rfl | exact inK_byte _ | (simp only [inK, Int.toNat_natCast, nd_eta, sh_eta, it_eta, sto_eta, op_eta, ch_eta, nw_eta, fl_eta, rq_eta, rs_eta, elDef, m43, m79, m80, m43, o92, m92] <;> first | omega | grind) | grind [inK, m43, m79, m80, m43, o92, m92]) ?_ <;> conv => whnf)
      | (refine OblG.mk (by conv => whnf
                            repeat (first | (refine Bx.mk ?_) | (intro h; (try simp [nd_eta, sh_eta, it_eta, sto_eta, op_eta, ch_eta, nw_eta, fl_eta, rq_eta, rs_eta, elDef, -List.getD_eq_getElem?_getD] at h); conv => whnf))
                            first | omega | rfl | exact inK_byte _ | (simp only [inK, Int.toNat_natCast, nd_eta, sh_eta, it_eta, sto_eta, op_eta, ch_eta, nw_eta, fl_eta, rq_eta, rs_eta, elDef, m43, m79, m80, m43, o92, m92] <;> first | omega | grind) | grind [inK, m43, m79, m80, m43, o92, m92]) ?_ <;> conv => whnf)
      | (refine Gd.mk (fun h => ?_) <;> (try simp [nd_eta, sh_eta, it_eta, sto_eta, op_eta, ch_eta, nw_eta, fl_eta, rq_eta, rs_eta, elDef, -List.getD_eq_getElem?_getD] at h) <;> conv => whnf)
      | (refine And.intro ?_ ?_ <;> conv => whnf)
      | exact True.intro
      | (intro; conv => whnf)
    exact ⟨(i + 1, l ++ underM (decM i) l2), [(900, 38)], [], ⟨by omega, by simp only [List.length_append, Int.toNat_natCast, elDef, hul]; omega, path_app hp (path_le (under_path hp2) (by omega))⟩, by show n - (i + 1) < n - i; omega, by (conv => whnf); (repeat' (first | exact trivial | rfl | (refine nilEq ?_; first | rfl | (simp only [*]; done) | (simp [*]; done) | grind) | apply And.intro | ((first | refine intEq ?_ | refine boolEq ?_ | refine strEq ?_ | refine psEq ?_ | refine nilEq ?_ | refine arrEq ?_); (try simp only [Int.toNat_natCast, nd_eta, sh_eta, it_eta, sto_eta, op_eta, ch_eta, nw_eta, fl_eta, rq_eta, rs_eta, elDef]); first | done | omega | grind | (simp only [*]; done) | (simp [*]; done)))); (all_goals (conv => whnf)); (repeat' (first | exact trivial | rfl | (refine nilEq ?_; first | rfl | (simp only [*]; done) | (simp [*]; done) | grind) | apply And.intro | ((first | refine intEq ?_ | refine boolEq ?_ | refine strEq ?_ | refine psEq ?_ | refine nilEq ?_ | refine arrEq ?_); (try simp only [Int.toNat_natCast, nd_eta, sh_eta, it_eta, sto_eta, op_eta, ch_eta, nw_eta, fl_eta, rq_eta, rs_eta, elDef]); first | done | omega | grind | (simp only [*]; done) | (simp [*]; done)) | ((try simp only [Int.toNat_natCast, nd_eta, sh_eta, it_eta, sto_eta, op_eta, ch_eta, nw_eta, fl_eta, rq_eta, rs_eta, elDef]); first | done | omega | grind | (simp only [*]; done) | (simp [*]; done)))), (by exact sgOk_of (by rfl))⟩
  obtain rfl : i = n := by omega
  rw [hgn] at hl
  clear hst hmi1 hmi hks hko hkd hkb2
  refine aloop_intro (Nat × List Opn) (fun ⟨j, m⟩ => j ≤ a.kids.length - i ∧ m.length = dszM.goL a.kids b.kids + (a.kids.length - i - j) ∧ ∀ o ∈ m, o.path.length ≤ depthM a) (fun ⟨j, m⟩ => j) (fun ⟨j, m⟩ => [(8, .int .i64 ((i + j : Nat) - 1 : Int)), (5, .ls 901)]) (fun ⟨j, m⟩ => [(901, .arr .opn m)]) [2, 3] (a.kids.length - i, l) [(901, 900)] [] ?_ ?_ (by exact sgOk_of (by rfl)) ?_
  · first | (simp; done) | (simp; assumption) | (simp only; grind)
  · (conv => whnf); (repeat' (first | exact trivial | rfl | (refine nilEq ?_; first | rfl | (simp only [*]; done) | (simp [*]; done) | grind) | apply And.intro | ((first | refine intEq ?_ | refine boolEq ?_ | refine strEq ?_ | refine psEq ?_ | refine nilEq ?_ | refine arrEq ?_); (try simp only [Int.toNat_natCast, nd_eta, sh_eta, it_eta, sto_eta, op_eta, ch_eta, nw_eta, fl_eta, rq_eta, rs_eta, elDef]); first | done | omega | grind | (simp only [*]; done) | (simp [*]; done)))); (all_goals (conv => whnf)); (repeat' (first | exact trivial | rfl | (refine nilEq ?_; first | rfl | (simp only [*]; done) | (simp [*]; done) | grind) | apply And.intro | ((first | refine intEq ?_ | refine boolEq ?_ | refine strEq ?_ | refine psEq ?_ | refine nilEq ?_ | refine arrEq ?_); (try simp only [Int.toNat_natCast, nd_eta, sh_eta, it_eta, sto_eta, op_eta, ch_eta, nw_eta, fl_eta, rq_eta, rs_eta, elDef]); first | done | omega | grind | (simp only [*]; done) | (simp [*]; done)) | ((try simp only [Int.toNat_natCast, nd_eta, sh_eta, it_eta, sto_eta, op_eta, ch_eta, nw_eta, fl_eta, rq_eta, rs_eta, elDef]); first | done | omega | grind | (simp only [*]; done) | (simp [*]; done))))
  rintro ⟨j, m⟩ hinv
  dsimp only at hinv
  conv => whnf
  obtain ⟨hj, hm, hq⟩ := hinv
  repeat' first
    | (refine Cnd.mk (fun h => ?_) (fun h => ?_) <;> (try simp [nd_eta, sh_eta, it_eta, sto_eta, op_eta, ch_eta, nw_eta, fl_eta, rq_eta, rs_eta, elDef, -List.getD_eq_getElem?_getD] at h) <;> conv => whnf)
    | (refine Obl.mk (by first | omega | rfl | exact inK_byte _ | (simp only [inK, Int.toNat_natCast, nd_eta, sh_eta, it_eta, sto_eta, op_eta, ch_eta, nw_eta, fl_eta, rq_eta, rs_eta, elDef, m43, m79, m80, m43, o92, m92] <;> first | omega | grind) | grind [inK, m43, m79, m80, m43, o92, m92]) ?_ <;> conv => whnf)
    | (refine OblG.mk (by conv => whnf
                          repeat (first | (refine Bx.mk ?_) | (intro h; (try simp [nd_eta, sh_eta, it_eta, sto_eta, op_eta, ch_eta, nw_eta, fl_eta, rq_eta, rs_eta, elDef, -List.getD_eq_getElem?_getD] at h); conv => whnf))
                          first | omega | rfl | exact inK_byte _ | (simp only [inK, Int.toNat_natCast, nd_eta, sh_eta, it_eta, sto_eta, op_eta, ch_eta, nw_eta, fl_eta, rq_eta, rs_eta, elDef, m43, m79, m80, m43, o92, m92] <;> first | omega | grind) | grind [inK, m43, m79, m80, m43, o92, m92]) ?_ <;> conv => whnf)
    | (refine Gd.mk (fun h => ?_) <;> (try simp [nd_eta, sh_eta, it_eta, sto_eta, op_eta, ch_eta, nw_eta, fl_eta, rq_eta, rs_eta, elDef, -List.getD_eq_getElem?_getD] at h) <;> conv => whnf)
    | (refine And.intro ?_ ?_ <;> conv => whnf)
    | exact True.intro
    | (intro; conv => whnf)
  · exact ⟨(j - 1, m ++ [⟨2, [decM ((i + j : Nat) - 1 : Int).toNat], [], ⟨0, 0, [], [], []⟩⟩]), [(901, 55)], [], ⟨by omega, by simp; omega, path_app hq (by simp; omega)⟩, by show j - 1 < j; omega, by (conv => whnf); (repeat' (first | exact trivial | rfl | (refine nilEq ?_; first | rfl | (simp only [*]; done) | (simp [*]; done) | grind) | apply And.intro | ((first | refine intEq ?_ | refine boolEq ?_ | refine strEq ?_ | refine psEq ?_ | refine nilEq ?_ | refine arrEq ?_); (try simp only [Int.toNat_natCast, nd_eta, sh_eta, it_eta, sto_eta, op_eta, ch_eta, nw_eta, fl_eta, rq_eta, rs_eta, elDef]); first | done | omega | grind | (simp only [*]; done) | (simp [*]; done)))); (all_goals (conv => whnf)); (repeat' (first | exact trivial | rfl | (refine nilEq ?_; first | rfl | (simp only [*]; done) | (simp [*]; done) | grind) | apply And.intro | ((first | refine intEq ?_ | refine boolEq ?_ | refine strEq ?_ | refine psEq ?_ | refine nilEq ?_ | refine arrEq ?_); (try simp only [Int.toNat_natCast, nd_eta, sh_eta, it_eta, sto_eta, op_eta, ch_eta, nw_eta, fl_eta, rq_eta, rs_eta, elDef]); first | done | omega | grind | (simp only [*]; done) | (simp [*]; done)) | ((try simp only [Int.toNat_natCast, nd_eta, sh_eta, it_eta, sto_eta, op_eta, ch_eta, nw_eta, fl_eta, rq_eta, rs_eta, elDef]); first | done | omega | grind | (simp only [*]; done) | (simp [*]; done)))), (by exact sgOk_of (by rfl))⟩
  obtain rfl : j = 0 := by omega
  refine aloop_intro (Nat × List Opn) (fun ⟨j, m2⟩ => j ≤ b.kids.length - i ∧ m2.length = dszM.goL a.kids b.kids + (a.kids.length - i) + j ∧ ∀ o ∈ m2, o.path.length ≤ depthM a) (fun ⟨j, m2⟩ => b.kids.length - i - j) (fun ⟨j, m2⟩ => [(9, .int .i64 (i + j : Nat)), (5, .ls 902)]) (fun ⟨j, m2⟩ => [(902, .arr .opn m2)]) [2, 3] (0, m) [(902, 901)] [] ?_ ?_ (by exact sgOk_of (by rfl)) ?_
  · first | (simp; done) | (simp; assumption) | (simp only; grind)
  · (conv => whnf); (repeat' (first | exact trivial | rfl | (refine nilEq ?_; first | rfl | (simp only [*]; done) | (simp [*]; done) | grind) | apply And.intro | ((first | refine intEq ?_ | refine boolEq ?_ | refine strEq ?_ | refine psEq ?_ | refine nilEq ?_ | refine arrEq ?_); (try simp only [Int.toNat_natCast, nd_eta, sh_eta, it_eta, sto_eta, op_eta, ch_eta, nw_eta, fl_eta, rq_eta, rs_eta, elDef]); first | done | omega | grind | (simp only [*]; done) | (simp [*]; done)))); (all_goals (conv => whnf)); (repeat' (first | exact trivial | rfl | (refine nilEq ?_; first | rfl | (simp only [*]; done) | (simp [*]; done) | grind) | apply And.intro | ((first | refine intEq ?_ | refine boolEq ?_ | refine strEq ?_ | refine psEq ?_ | refine nilEq ?_ | refine arrEq ?_); (try simp only [Int.toNat_natCast, nd_eta, sh_eta, it_eta, sto_eta, op_eta, ch_eta, nw_eta, fl_eta, rq_eta, rs_eta, elDef]); first | done | omega | grind | (simp only [*]; done) | (simp [*]; done)) | ((try simp only [Int.toNat_natCast, nd_eta, sh_eta, it_eta, sto_eta, op_eta, ch_eta, nw_eta, fl_eta, rq_eta, rs_eta, elDef]); first | done | omega | grind | (simp only [*]; done) | (simp [*]; done))))
  rintro ⟨j, m2⟩ hinv
  dsimp only at hinv
  conv => whnf
  obtain ⟨hj2, hm2, hq2⟩ := hinv
  have hkb3 := fun (h : i + j < b.kids.length) => (okN_kid hb h).sm
  repeat' first
    | (refine Cnd.mk (fun h => ?_) (fun h => ?_) <;> (try simp [nd_eta, sh_eta, it_eta, sto_eta, op_eta, ch_eta, nw_eta, fl_eta, rq_eta, rs_eta, elDef, -List.getD_eq_getElem?_getD] at h) <;> conv => whnf)
    | (refine Obl.mk (by first | omega | rfl | exact inK_byte _ | (simp only [inK, Int.toNat_natCast, nd_eta, sh_eta, it_eta, sto_eta, op_eta, ch_eta, nw_eta, fl_eta, rq_eta, rs_eta, elDef, m43, m79, m80, m43, o92, m92] <;> first | omega | grind) | grind [inK, m43, m79, m80, m43, o92, m92]) ?_ <;> conv => whnf)
    | (refine OblG.mk (by conv => whnf
                          repeat (first | (refine Bx.mk ?_) | (intro h; (try simp [nd_eta, sh_eta, it_eta, sto_eta, op_eta, ch_eta, nw_eta, fl_eta, rq_eta, rs_eta, elDef, -List.getD_eq_getElem?_getD] at h); conv => whnf))
                          first | omega | rfl | exact inK_byte _ | (simp only [inK, Int.toNat_natCast, nd_eta, sh_eta, it_eta, sto_eta, op_eta, ch_eta, nw_eta, fl_eta, rq_eta, rs_eta, elDef, m43, m79, m80, m43, o92, m92] <;> first | omega | grind) | grind [inK, m43, m79, m80, m43, o92, m92]) ?_ <;> conv => whnf)
    | (refine Gd.mk (fun h => ?_) <;> (try simp [nd_eta, sh_eta, it_eta, sto_eta, op_eta, ch_eta, nw_eta, fl_eta, rq_eta, rs_eta, elDef, -List.getD_eq_getElem?_getD] at h) <;> conv => whnf)
    | (refine And.intro ?_ ?_ <;> conv => whnf)
    | exact True.intro
    | (intro; conv => whnf)
  · exact ⟨(j + 1, m2 ++ [⟨1, [decM (i + j)], [], b.kids.getD (i + j) default⟩]), [(902, 75)], [], ⟨by omega, by simp; omega, path_app hq2 (by simp; omega)⟩, by show b.kids.length - i - (j + 1) < b.kids.length - i - j; omega, by (conv => whnf); (repeat' (first | exact trivial | rfl | (refine nilEq ?_; first | rfl | (simp only [*]; done) | (simp [*]; done) | grind) | apply And.intro | ((first | refine intEq ?_ | refine boolEq ?_ | refine strEq ?_ | refine psEq ?_ | refine nilEq ?_ | refine arrEq ?_); (try simp only [Int.toNat_natCast, nd_eta, sh_eta, it_eta, sto_eta, op_eta, ch_eta, nw_eta, fl_eta, rq_eta, rs_eta, elDef]); first | done | omega | grind | (simp only [*]; done) | (simp [*]; done)))); (all_goals (conv => whnf)); (repeat' (first | exact trivial | rfl | (refine nilEq ?_; first | rfl | (simp only [*]; done) | (simp [*]; done) | grind) | apply And.intro | ((first | refine intEq ?_ | refine boolEq ?_ | refine strEq ?_ | refine psEq ?_ | refine nilEq ?_ | refine arrEq ?_); (try simp only [Int.toNat_natCast, nd_eta, sh_eta, it_eta, sto_eta, op_eta, ch_eta, nw_eta, fl_eta, rq_eta, rs_eta, elDef]); first | done | omega | grind | (simp only [*]; done) | (simp [*]; done)) | ((try simp only [Int.toNat_natCast, nd_eta, sh_eta, it_eta, sto_eta, op_eta, ch_eta, nw_eta, fl_eta, rq_eta, rs_eta, elDef]); first | done | omega | grind | (simp only [*]; done) | (simp [*]; done)))), (by exact sgOk_of (by rfl))⟩
  · exact hK m2 (by omega) hq2
theorem r43_79_80 : ∀ k, (CtrOK Tryd.prog 43 (.gen .ps (Ck43 k)) ∧ Callable Tryd.prog 43) ∧ (CtrOK Tryd.prog 79 (.gen .ps (Ck79 k)) ∧ Callable Tryd.prog 79) ∧ (CtrOK Tryd.prog 80 (.gen .ps (Ck80 k)) ∧ Callable Tryd.prog 80) := by
  intro k
  induction k with
  | zero =>
    exact ⟨⟨fun args K h => by
        unfold Ck43 at h; split at h
        · exact absurd h.o (Nat.not_lt_zero _)
        · exact h.elim, callable Tryd.func43 rfl (by rfl)⟩, ⟨fun args K h => by
        unfold Ck79 at h; split at h
        · exact absurd h.o (Nat.not_lt_zero _)
        · exact h.elim, callable Tryd.func79 rfl (by rfl)⟩, ⟨fun args K h => by
        unfold Ck80 at h; split at h
        · exact absurd h.o (Nat.not_lt_zero _)
        · exact h.elim, callable Tryd.func80 rfl (by rfl)⟩⟩
  | succ k ih =>
    refine ⟨?_, ?_, ?_⟩
    · refine gen_ok (E := E43 k) (mkE_cons s78 (mkE_cons ih.2.1 (mkE_cons ih.2.2 (mkE_cons s81 (mkE_nil tab_ok))))) mix (O := O43) (C := (Ck43 (k + 1))) (own := .ps) Tryd.func43 rfl (by rfl) (by kernel_rfl) (fun args K h hbd => ?_)
      unfold Ck43 at h; split at h
      case h_2 => exact h.elim
      exact ⟨Nat.le_of_ble_eq_true rfl, a43 k ⟨_, _, _, _, _⟩ ⟨_, _, _, _, _⟩ h.o (by exact hbd) _ h.k⟩
    · refine gen_ok (E := E79 k) (mkE_cons ih.1 (mkE_cons s71 (mkE_cons s81 (mkE_cons s102 (mkE_nil tab_ok))))) mix (O := O79) (C := (Ck79 (k + 1))) (own := .ps) Tryd.func79 rfl (by rfl) (by kernel_rfl) (fun args K h hbd => ?_)
      unfold Ck79 at h; split at h
      case h_2 => exact h.elim
      exact ⟨Nat.le_of_ble_eq_true rfl, a79 k ⟨_, _, _, _, _⟩ ⟨_, _, _, _, _⟩ h.o (by exact hbd) _ h.k⟩
    · refine gen_ok (E := E80 k) (mkE_cons ih.1 (mkE_cons s81 (mkE_cons s92 (mkE_cons s102 (mkE_nil tab_ok))))) mix (O := O80) (C := (Ck80 (k + 1))) (own := .ps) Tryd.func80 rfl (by rfl) (by kernel_rfl) (fun args K h hbd => ?_)
      unfold Ck80 at h; split at h
      case h_2 => exact h.elim
      exact ⟨Nat.le_of_ble_eq_true rfl, a80 k ⟨_, _, _, _, _⟩ ⟨_, _, _, _, _⟩ h.o (by exact hbd) _ h.k⟩
theorem s43 : (CtrOK Tryd.prog 43 (.gen .ps C43) ∧ Callable Tryd.prog 43) := by
  refine ⟨fun args K h => ?_, (r43_79_80 0).1.2⟩
  unfold C43 at h; split at h
  · exact (r43_79_80 (m43 ⟨_, _, _, _, _⟩ ⟨_, _, _, _, _⟩ + 1)).1.1 _ K ⟨Nat.lt_succ_self _, h⟩
  · exact h.elim
theorem s79 : (CtrOK Tryd.prog 79 (.gen .ps C79) ∧ Callable Tryd.prog 79) := by
  refine ⟨fun args K h => ?_, (r43_79_80 0).2.1.2⟩
  unfold C79 at h; split at h
  · exact (r43_79_80 (m79 ⟨_, _, _, _, _⟩ ⟨_, _, _, _, _⟩ + 1)).2.1.1 _ K ⟨Nat.lt_succ_self _, h⟩
  · exact h.elim
theorem s80 : (CtrOK Tryd.prog 80 (.gen .ps C80) ∧ Callable Tryd.prog 80) := by
  refine ⟨fun args K h => ?_, (r43_79_80 0).2.2.2⟩
  unfold C80 at h; split at h
  · exact (r43_79_80 (m80 ⟨_, _, _, _, _⟩ ⟨_, _, _, _, _⟩ + 1)).2.2.1 _ K ⟨Nat.lt_succ_self _, h⟩
  · exact h.elim
end Go.Rs

