import Derived.Test.YtjdjkggdgddhdaaGreatDoorCQ
set_option linter.all false
namespace Go.Rs
open Go.Proofs
set_option maxRecDepth 100000
set_option linter.unusedVariables false
set_option linter.unusedSimpArgs false
noncomputable def c60 (n : Nd) (K : AV → List AV → Prop) : Prop :=
    ∀ l : List (List Bs), l.length ≤ 20000 → K (.ps .strs l) []
noncomputable def C60 : List AV → (AV → List AV → Prop) → Prop
  | [.st [.int .i64 n_0, .int .i64 n_1, .str n_2, .ps .str n_3, .ps .node n_4]], K => c60 ⟨n_0, n_1, n_2, n_3, n_4⟩ K
  | _, _ => False
noncomputable def E60 : Ctx := mkE tab [(32, .pure F32), (78, .gen .ps C78)]
noncomputable def O60 : Nat → List DI := ordL []
theorem a60 (n : Nd) (hb : BdAs [.st (ndC n)]) (K : AV → List AV → Prop) (h : c60 n K) : abody E60 O60 .ps Tryz.f60 (Tryz.f60.body.getD .skip) [.st (ndC n)] K := by
  simp only [BdAs, BdA, BdL, BdC, MX, ndC, shC, itC, stC, opC, chC, nwC, flC, rqC, rsC, enc, List.cons_append, List.nil_append, and_true, true_and] at hb
  unfold c60 at h
  have hK := h
  have h1 := fun h => validM_ok (n := n) h
  have h2 := fun h : validM n = true => okN_count (validM_ok h)
  conv => whnf
  repeat' first
    | (refine Cnd.mk (fun h => ?_) (fun h => ?_) <;> (try simp [nd_eta, sh_eta, it_eta, sto_eta, op_eta, ch_eta, nw_eta, fl_eta, rq_eta, rs_eta, elDef, -List.getD_eq_getElem?_getD] at h) <;> conv => whnf)
    | (refine Obl.mk (by first | omega | rfl | exact inK_byte _ | (simp only [inK, Int.toNat_natCast, nd_eta, sh_eta, it_eta, sto_eta, op_eta, ch_eta, nw_eta, fl_eta, rq_eta, rs_eta, elDef, m78] <;> first | omega | grind) | grind [inK, m78]) ?_ <;> conv => whnf)
    | (refine OblG.mk (by conv => whnf
                          repeat (first | (refine Bx.mk ?_) | (intro h; (try simp [nd_eta, sh_eta, it_eta, sto_eta, op_eta, ch_eta, nw_eta, fl_eta, rq_eta, rs_eta, elDef, -List.getD_eq_getElem?_getD] at h); conv => whnf))
                          first | omega | rfl | exact inK_byte _ | (simp only [inK, Int.toNat_natCast, nd_eta, sh_eta, it_eta, sto_eta, op_eta, ch_eta, nw_eta, fl_eta, rq_eta, rs_eta, elDef, m78] <;> first | omega | grind) | grind [inK, m78]) ?_ <;> conv => whnf)
    | (refine Gd.mk (fun h => ?_) <;> (try simp [nd_eta, sh_eta, it_eta, sto_eta, op_eta, ch_eta, nw_eta, fl_eta, rq_eta, rs_eta, elDef, -List.getD_eq_getElem?_getD] at h) <;> conv => whnf)
    | (refine And.intro ?_ ?_ <;> conv => whnf)
    | exact True.intro
    | (intro; conv => whnf)
  · exact hK [] (by simp)
  · rename_i l hl hx
    simp only [nd_eta] at hl
    have h3 := h2 (by assumption)
    exact hK l (by omega)
theorem s60 : (CtrOK Tryz.prog 60 (.gen .ps C60) ∧ Callable Tryz.prog 60) := by
  refine gen_ok (E := E60) (mkE_cons s32 (mkE_cons s78 (mkE_nil tab_ok))) mix (O := O60) (C := C60) (own := .ps) Tryz.func60 rfl (by rfl) (by kernel_rfl) (fun args K h hbd => ?_)
  unfold C60 at h; split at h
  case h_2 => exact h.elim
  exact ⟨Nat.le_of_ble_eq_true rfl, a60 ⟨_, _, _, _, _⟩ (by exact hbd) _ h⟩
noncomputable def c61 (code : List Int) (p : Int) (K : AV → List AV → Prop) : Prop :=
    Obl ((0 ≤ p ∧ p ≤ 100000000) ∧ byOk code) (∀ (l : List Bs) (p' : Int), p ≤ p' ∧ p' ≤ p + 20 → K (.ps .str l) [.ref [.ps .u8 code, .int .i64 p']])
noncomputable def C61 : List AV → (AV → List AV → Prop) → Prop
  | [.ref [.ps .u8 code, .int .i64 p]], K => c61 code p K
  | _, _ => False
noncomputable def E61 : Ctx := mkE tab [(24, .gen .ps C24), (25, .gen .ps C25), (59, .gen .ps C59)]
noncomputable def O61 : Nat → List DI := ordL []
theorem a61 (code : List Int) (p : Int) (hb : BdAs [.ref [.ps .u8 code, .int .i64 p]]) (K : AV → List AV → Prop) (h : c61 code p K) : abody E61 O61 .ps Tryz.f61 (Tryz.f61.body.getD .skip) [.ref [.ps .u8 code, .int .i64 p]] K := by
  simp only [BdAs, BdA, BdL, BdC, MX, ndC, shC, itC, stC, opC, chC, nwC, flC, rqC, rsC, enc, List.cons_append, List.nil_append, and_true, true_and] at hb
  unfold c61 at h
  obtain ⟨⟨hp, ho⟩, hK⟩ := h
  conv => whnf
  repeat' first
    | (refine Cnd.mk (fun h => ?_) (fun h => ?_) <;> (try simp [nd_eta, sh_eta, it_eta, sto_eta, op_eta, ch_eta, nw_eta, fl_eta, rq_eta, rs_eta, elDef, -List.getD_eq_getElem?_getD] at h) <;> conv => whnf)
    | (refine Obl.mk (by first | omega | rfl | exact inK_byte _ | (simp only [inK, Int.toNat_natCast, nd_eta, sh_eta, it_eta, sto_eta, op_eta, ch_eta, nw_eta, fl_eta, rq_eta, rs_eta, elDef] <;> first | omega | grind) | grind [inK]) ?_ <;> conv => whnf)
    | (refine OblG.mk (by conv => whnf
                          repeat (first | (refine Bx.mk ?_) | (intro h; (try simp [nd_eta, sh_eta, it_eta, sto_eta, op_eta, ch_eta, nw_eta, fl_eta, rq_eta, rs_eta, elDef, -List.getD_eq_getElem?_getD] at h); conv => whnf))
                          first | omega | rfl | exact inK_byte _ | (simp only [inK, Int.toNat_natCast, nd_eta, sh_eta, it_eta, sto_eta, op_eta, ch_eta, nw_eta, fl_eta, rq_eta, rs_eta, elDef] <;> first | omega | grind) | grind [inK]) ?_ <;> conv => whnf)
    | (refine Gd.mk (fun h => ?_) <;> (try simp [nd_eta, sh_eta, it_eta, sto_eta, op_eta, ch_eta, nw_eta, fl_eta, rq_eta, rs_eta, elDef, -List.getD_eq_getElem?_getD] at h) <;> conv => whnf)
    | (refine And.intro ?_ ?_ <;> conv => whnf)
    | exact True.intro
    | (intro; conv => whnf)
  rename_i r hr
  have hr0 : 0 ≤ r ∧ r ≤ 6 := by simp at hr; omega
  refine aloop_intro (Int × Int × List Bs) (fun ⟨c, q, l⟩ => (0 ≤ c ∧ l.length + c ≤ 6) ∧ p ≤ q ∧ q + c ≤ p + 8) (fun ⟨c, q, l⟩ => c.toNat) (fun ⟨c, q, l⟩ => [(4, .int .i64 c), (3, .ls 900)]) (fun ⟨c, q, l⟩ => [(900, .arr .str l), (1000000, .box [.ps .u8 code, .int .i64 q])]) [] (r, p + 1, []) [(900, 5)] [] ?_ ?_ (by exact sgOk_of (by rfl)) ?_
  · first | (simp; done) | (simp; assumption) | (simp only; grind)
  · (conv => whnf); (repeat' (first | exact trivial | rfl | (refine nilEq ?_; first | rfl | (simp only [*]; done) | (simp [*]; done) | grind) | apply And.intro | ((first | refine intEq ?_ | refine boolEq ?_ | refine strEq ?_ | refine psEq ?_ | refine nilEq ?_ | refine arrEq ?_); (try simp only [Int.toNat_natCast, nd_eta, sh_eta, it_eta, sto_eta, op_eta, ch_eta, nw_eta, fl_eta, rq_eta, rs_eta, elDef]); first | done | omega | grind | (simp only [*]; done) | (simp [*]; done)))); (all_goals (conv => whnf)); (repeat' (first | exact trivial | rfl | (refine nilEq ?_; first | rfl | (simp only [*]; done) | (simp [*]; done) | grind) | apply And.intro | ((first | refine intEq ?_ | refine boolEq ?_ | refine strEq ?_ | refine psEq ?_ | refine nilEq ?_ | refine arrEq ?_); (try simp only [Int.toNat_natCast, nd_eta, sh_eta, it_eta, sto_eta, op_eta, ch_eta, nw_eta, fl_eta, rq_eta, rs_eta, elDef]); first | done | omega | grind | (simp only [*]; done) | (simp [*]; done)) | ((try simp only [Int.toNat_natCast, nd_eta, sh_eta, it_eta, sto_eta, op_eta, ch_eta, nw_eta, fl_eta, rq_eta, rs_eta, elDef]); first | done | omega | grind | (simp only [*]; done) | (simp [*]; done))))
  rintro ⟨c, q, l⟩ hinv
  dsimp only at hinv
  conv => whnf
  obtain ⟨hi1, hi2, hi3⟩ := hinv
  repeat' first
    | (refine Cnd.mk (fun h => ?_) (fun h => ?_) <;> (try simp [nd_eta, sh_eta, it_eta, sto_eta, op_eta, ch_eta, nw_eta, fl_eta, rq_eta, rs_eta, elDef, -List.getD_eq_getElem?_getD] at h) <;> conv => whnf)
    | (refine Obl.mk (by first | omega | rfl | exact inK_byte _ | (simp only [inK, Int.toNat_natCast, nd_eta, sh_eta, it_eta, sto_eta, op_eta, ch_eta, nw_eta, fl_eta, rq_eta, rs_eta, elDef] <;> first | omega | grind) | grind [inK]) ?_ <;> conv => whnf)
    | (refine OblG.mk (by conv => whnf
                          repeat (first | (refine Bx.mk ?_) | (intro h; (try simp [nd_eta, sh_eta, it_eta, sto_eta, op_eta, ch_eta, nw_eta, fl_eta, rq_eta, rs_eta, elDef, -List.getD_eq_getElem?_getD] at h); conv => whnf))
                          first | omega | rfl | exact inK_byte _ | (simp only [inK, Int.toNat_natCast, nd_eta, sh_eta, it_eta, sto_eta, op_eta, ch_eta, nw_eta, fl_eta, rq_eta, rs_eta, elDef] <;> first | omega | grind) | grind [inK]) ?_ <;> conv => whnf)
    | (refine Gd.mk (fun h => ?_) <;> (try simp [nd_eta, sh_eta, it_eta, sto_eta, op_eta, ch_eta, nw_eta, fl_eta, rq_eta, rs_eta, elDef, -List.getD_eq_getElem?_getD] at h) <;> conv => whnf)
    | (refine And.intro ?_ ?_ <;> conv => whnf)
    | exact True.intro
    | (intro; conv => whnf)
  · rename_i rr hrr
    exact ⟨(c - 1, q + 1, l ++ [rr]), [(900, 18)], [], ⟨by simp; omega, by omega, by omega⟩, by show (c - 1).toNat < c.toNat; omega, by (conv => whnf); (repeat' (first | exact trivial | rfl | (refine nilEq ?_; first | rfl | (simp only [*]; done) | (simp [*]; done) | grind) | apply And.intro | ((first | refine intEq ?_ | refine boolEq ?_ | refine strEq ?_ | refine psEq ?_ | refine nilEq ?_ | refine arrEq ?_); (try simp only [Int.toNat_natCast, nd_eta, sh_eta, it_eta, sto_eta, op_eta, ch_eta, nw_eta, fl_eta, rq_eta, rs_eta, elDef]); first | done | omega | grind | (simp only [*]; done) | (simp [*]; done)))); (all_goals (conv => whnf)); (repeat' (first | exact trivial | rfl | (refine nilEq ?_; first | rfl | (simp only [*]; done) | (simp [*]; done) | grind) | apply And.intro | ((first | refine intEq ?_ | refine boolEq ?_ | refine strEq ?_ | refine psEq ?_ | refine nilEq ?_ | refine arrEq ?_); (try simp only [Int.toNat_natCast, nd_eta, sh_eta, it_eta, sto_eta, op_eta, ch_eta, nw_eta, fl_eta, rq_eta, rs_eta, elDef]); first | done | omega | grind | (simp only [*]; done) | (simp [*]; done)) | ((try simp only [Int.toNat_natCast, nd_eta, sh_eta, it_eta, sto_eta, op_eta, ch_eta, nw_eta, fl_eta, rq_eta, rs_eta, elDef]); first | done | omega | grind | (simp only [*]; done) | (simp [*]; done)))), (by exact sgOk_of (by rfl))⟩
  all_goals exact hK _ _ (by omega)
theorem s61 : (CtrOK Tryz.prog 61 (.gen .ps C61) ∧ Callable Tryz.prog 61) := by
  refine gen_ok (E := E61) (mkE_cons s24 (mkE_cons s25 (mkE_cons s59 (mkE_nil tab_ok)))) mix (O := O61) (C := C61) (own := .ps) Tryz.func61 rfl (by rfl) (by kernel_rfl) (fun args K h hbd => ?_)
  unfold C61 at h; split at h
  case h_2 => exact h.elim
  exact ⟨Nat.le_of_ble_eq_true rfl, a61 _ _ (by exact hbd) _ h⟩
noncomputable def c41 (code : List Int) (p : Int) (n : Nd) (K : AV → List AV → Prop) : Prop :=
    Obl ((0 ≤ p ∧ p ≤ 50000000) ∧ byOk code) (∀ (l : List Bs) (p' : Int), p ≤ p' ∧ p' ≤ p + 30 → K (.ps .str l) [.ref [.ps .u8 code, .int .i64 p']])
noncomputable def C41 : List AV → (AV → List AV → Prop) → Prop
  | [.ref [.ps .u8 code, .int .i64 p], .st [.int .i64 n_0, .int .i64 n_1, .str n_2, .ps .str n_3, .ps .node n_4]], K => c41 code p ⟨n_0, n_1, n_2, n_3, n_4⟩ K
  | _, _ => False
noncomputable def E41 : Ctx := mkE tab [(24, .gen .ps C24), (60, .gen .ps C60), (61, .gen .ps C61)]
noncomputable def O41 : Nat → List DI := ordL []
theorem a41 (code : List Int) (p : Int) (n : Nd) (hb : BdAs [.ref [.ps .u8 code, .int .i64 p], .st (ndC n)]) (K : AV → List AV → Prop) (h : c41 code p n K) : abody E41 O41 .ps Tryz.f41 (Tryz.f41.body.getD .skip) [.ref [.ps .u8 code, .int .i64 p], .st (ndC n)] K := by
  simp only [BdAs, BdA, BdL, BdC, MX, ndC, shC, itC, stC, opC, chC, nwC, flC, rqC, rsC, enc, List.cons_append, List.nil_append, and_true, true_and] at hb
  unfold c41 at h
  obtain ⟨⟨hp, ho⟩, hK⟩ := h
  conv => whnf
  repeat' first
    | (refine Cnd.mk (fun h => ?_) (fun h => ?_) <;> (try simp [nd_eta, sh_eta, it_eta, sto_eta, op_eta, ch_eta, nw_eta, fl_eta, rq_eta, rs_eta, elDef, -List.getD_eq_getElem?_getD] at h) <;> conv => whnf)
    | (refine Obl.mk (by first | omega | rfl | exact inK_byte _ | (simp only [inK, Int.toNat_natCast, nd_eta, sh_eta, it_eta, sto_eta, op_eta, ch_eta, nw_eta, fl_eta, rq_eta, rs_eta, elDef] <;> first | omega | grind) | grind [inK]) ?_ <;> conv => whnf)
    | (refine OblG.mk (by conv => whnf
                          repeat (first | (refine Bx.mk ?_) | (intro h; (try simp [nd_eta, sh_eta, it_eta, sto_eta, op_eta, ch_eta, nw_eta, fl_eta, rq_eta, rs_eta, elDef, -List.getD_eq_getElem?_getD] at h); conv => whnf))
                          first | omega | rfl | exact inK_byte _ | (simp only [inK, Int.toNat_natCast, nd_eta, sh_eta, it_eta, sto_eta, op_eta, ch_eta, nw_eta, fl_eta, rq_eta, rs_eta, elDef] <;> first | omega | grind) | grind [inK]) ?_ <;> conv => whnf)
    | (refine Gd.mk (fun h => ?_) <;> (try simp [nd_eta, sh_eta, it_eta, sto_eta, op_eta, ch_eta, nw_eta, fl_eta, rq_eta, rs_eta, elDef, -List.getD_eq_getElem?_getD] at h) <;> conv => whnf)
    | (refine And.intro ?_ ?_ <;> conv => whnf)
    | exact True.intro
    | (intro; conv => whnf)
  all_goals exact hK _ _ (by omega)
theorem s41 : (CtrOK Tryz.prog 41 (.gen .ps C41) ∧ Callable Tryz.prog 41) := by
  refine gen_ok (E := E41) (mkE_cons s24 (mkE_cons s60 (mkE_cons s61 (mkE_nil tab_ok)))) mix (O := O41) (C := C41) (own := .ps) Tryz.func41 rfl (by rfl) (by kernel_rfl) (fun args K h hbd => ?_)
  unfold C41 at h; split at h
  case h_2 => exact h.elim
  exact ⟨Nat.le_of_ble_eq_true rfl, a41 _ _ ⟨_, _, _, _, _⟩ (by exact hbd) _ h⟩
noncomputable def c26 (code : List Int) (p : Int) (n : Nd) (K : AV → List AV → Prop) : Prop :=
    Obl ((0 ≤ p ∧ p ≤ 9000000) ∧ byOk code) (∀ (f : Flt) (p' : Int), p ≤ p' ∧ p' ≤ p + 5000 → K (.st (flC f)) [.ref [.ps .u8 code, .int .i64 p']])
noncomputable def C26 : List AV → (AV → List AV → Prop) → Prop
  | [.ref [.ps .u8 code, .int .i64 p], .st [.int .i64 n_0, .int .i64 n_1, .str n_2, .ps .str n_3, .ps .node n_4]], K => c26 code p ⟨n_0, n_1, n_2, n_3, n_4⟩ K
  | _, _ => False
noncomputable def E26 : Ctx := mkE tab [(24, .gen .ps C24), (25, .gen .ps C25), (40, .gen .ps C40), (41, .gen .ps C41), (42, .gen .ps C42), (43, .gen .ow C43)]
noncomputable def O26 : Nat → List DI := ordL []
theorem a26 (code : List Int) (p : Int) (n : Nd) (hb : BdAs [.ref [.ps .u8 code, .int .i64 p], .st (ndC n)]) (K : AV → List AV → Prop) (h : c26 code p n K) : abody E26 O26 .ps Tryz.f26 (Tryz.f26.body.getD .skip) [.ref [.ps .u8 code, .int .i64 p], .st (ndC n)] K := by
  simp only [BdAs, BdA, BdL, BdC, MX, ndC, shC, itC, stC, opC, chC, nwC, flC, rqC, rsC, enc, List.cons_append, List.nil_append, and_true, true_and] at hb
  unfold c26 at h
  obtain ⟨⟨hp, ho⟩, hK⟩ := h
  have hc := (cost_facts 2).2.2
  conv => whnf
  repeat' first
    | (refine Cnd.mk (fun h => ?_) (fun h => ?_) <;> (try simp [nd_eta, sh_eta, it_eta, sto_eta, op_eta, ch_eta, nw_eta, fl_eta, rq_eta, rs_eta, elDef, -List.getD_eq_getElem?_getD] at h) <;> conv => whnf)
    | (refine Obl.mk (by first | omega | rfl | exact inK_byte _ | (simp only [inK, Int.toNat_natCast, nd_eta, sh_eta, it_eta, sto_eta, op_eta, ch_eta, nw_eta, fl_eta, rq_eta, rs_eta, elDef, m43] <;> first | omega | grind) | grind [inK, m43]) ?_ <;> conv => whnf)
    | (refine OblG.mk (by conv => whnf
                          repeat (first | (refine Bx.mk ?_) | (intro h; (try simp [nd_eta, sh_eta, it_eta, sto_eta, op_eta, ch_eta, nw_eta, fl_eta, rq_eta, rs_eta, elDef, -List.getD_eq_getElem?_getD] at h); conv => whnf))
                          first | omega | rfl | exact inK_byte _ | (simp only [inK, Int.toNat_natCast, nd_eta, sh_eta, it_eta, sto_eta, op_eta, ch_eta, nw_eta, fl_eta, rq_eta, rs_eta, elDef, m43] <;> first | omega | grind) | grind [inK, m43]) ?_ <;> conv => whnf)
    | (refine Gd.mk (fun h => ?_) <;> (try simp [nd_eta, sh_eta, it_eta, sto_eta, op_eta, ch_eta, nw_eta, fl_eta, rq_eta, rs_eta, elDef, -List.getD_eq_getElem?_getD] at h) <;> conv => whnf)
    | (refine And.intro ?_ ?_ <;> conv => whnf)
    | exact True.intro
    | (intro; conv => whnf)
  all_goals exact hK ⟨_, _, ⟨_, _, _, _, _⟩⟩ _ (by omega)
theorem s26 : (CtrOK Tryz.prog 26 (.gen .ps C26) ∧ Callable Tryz.prog 26) := by
  refine gen_ok (E := E26) (mkE_cons s24 (mkE_cons s25 (mkE_cons s40 (mkE_cons s41 (mkE_cons s42 (mkE_cons s43 (mkE_nil tab_ok))))))) mix (O := O26) (C := C26) (own := .ps) Tryz.func26 rfl (by rfl) (by kernel_rfl) (fun args K h hbd => ?_)
  unfold C26 at h; split at h
  case h_2 => exact h.elim
  exact ⟨Nat.le_of_ble_eq_true rfl, a26 _ _ ⟨_, _, _, _, _⟩ (by exact hbd) _ h⟩
noncomputable def v27 (f : Flt) : AV := .bool (filterM f)
noncomputable def o27 (f : Flt) : Prop := True
noncomputable def F27 : List AV → QR
  | [.st [.ps .str f_0, .int .i64 f_1, .int .i64 f_2_0, .int .i64 f_2_1, .str f_2_2, .ps .str f_2_3, .ps .node f_2_4]] => some (none, v27 ⟨f_0, f_1, ⟨f_2_0, f_2_1, f_2_2, f_2_3, f_2_4⟩⟩)
  | _ => none
noncomputable def E27 : Ctx := mkE tab [(22, .pure F22), (44, .pure F44)]
noncomputable def O27 : Nat → List DI := ordL []
theorem a27 (f : Flt) (hb : BdAs [.st (flC f)]) (ho : o27 f) (K : AV → List AV → Prop) (hK : K (v27 f) []) : abody E27 O27 .ps Tryz.f27 (Tryz.f27.body.getD .skip) [.st (flC f)] K := by
  simp only [BdAs, BdA, BdL, BdC, MX, ndC, shC, itC, stC, opC, chC, nwC, flC, rqC, rsC, enc, List.cons_append, List.nil_append, and_true, true_and] at hb
  unfold v27 at hK
  conv => whnf
  repeat' first
    | (refine Cnd.mk (fun h => ?_) (fun h => ?_) <;> (try simp [nd_eta, sh_eta, it_eta, sto_eta, op_eta, ch_eta, nw_eta, fl_eta, rq_eta, rs_eta, elDef, -List.getD_eq_getElem?_getD] at h) <;> conv => whnf)
    | (refine Obl.mk (by first | omega | rfl | exact inK_byte _ | (simp only [inK, Int.toNat_natCast, nd_eta, sh_eta, it_eta, sto_eta, op_eta, ch_eta, nw_eta, fl_eta, rq_eta, rs_eta, elDef] <;> first | omega | grind) | grind [inK]) ?_ <;> conv => whnf)
    | (refine OblG.mk (by conv => whnf
                          repeat (first | (refine Bx.mk ?_) | (intro h; (try simp [nd_eta, sh_eta, it_eta, sto_eta, op_eta, ch_eta, nw_eta, fl_eta, rq_eta, rs_eta, elDef, -List.getD_eq_getElem?_getD] at h); conv => whnf))
                          first | omega | rfl | exact inK_byte _ | (simp only [inK, Int.toNat_natCast, nd_eta, sh_eta, it_eta, sto_eta, op_eta, ch_eta, nw_eta, fl_eta, rq_eta, rs_eta, elDef] <;> first | omega | grind) | grind [inK]) ?_ <;> conv => whnf)
    | (refine Gd.mk (fun h => ?_) <;> (try simp [nd_eta, sh_eta, it_eta, sto_eta, op_eta, ch_eta, nw_eta, fl_eta, rq_eta, rs_eta, elDef, -List.getD_eq_getElem?_getD] at h) <;> conv => whnf)
    | (refine And.intro ?_ ?_ <;> conv => whnf)
    | exact True.intro
    | (intro; conv => whnf)
  all_goals exact leafB hK (by simp only [filterM, nd_eta]; grind)
theorem s27 : (CtrOK Tryz.prog 27 (.pure F27) ∧ Callable Tryz.prog 27) := by
  refine pure_ok (E := E27) (mkE_cons s22 (mkE_cons s44 (mkE_nil tab_ok))) mix (O := O27) (F := F27) Tryz.func27 rfl (by rfl) (by kernel_rfl) (fun args o v h => ?_) (fun args o v h => ?_) (fun args o v h hbd hp K hK => ?_)
  · unfold F27 at h; split at h <;> cases h; first | trivial | (simp [v27, Scalar, Scalar2, Scalar1, stC, ndC, itC, chC, nwC])
  · unfold F27 at h; split at h <;> cases h; exact Nat.le_of_ble_eq_true rfl
  · unfold F27 at h; split at h
    case h_2 => cases h
    cases h
    exact a27 ⟨_, _, ⟨_, _, _, _, _⟩⟩ (by exact hbd) trivial K hK
noncomputable def v34 (f : Flt) : AV := .bool (filterM f)
noncomputable def o34 (f : Flt) : Prop := True
noncomputable def F34 : List AV → QR
  | [.st [.ps .str f_0, .int .i64 f_1, .int .i64 f_2_0, .int .i64 f_2_1, .str f_2_2, .ps .str f_2_3, .ps .node f_2_4]] => some (none, v34 ⟨f_0, f_1, ⟨f_2_0, f_2_1, f_2_2, f_2_3, f_2_4⟩⟩)
  | _ => none
noncomputable def E34 : Ctx := mkE tab [(32, .pure F32), (33, .pure F33), (50, .pure F50)]
noncomputable def O34 : Nat → List DI := ordL []
theorem a34 (f : Flt) (hb : BdAs [.st (flC f)]) (ho : o34 f) (K : AV → List AV → Prop) (hK : K (v34 f) []) : abody E34 O34 .ps Tryz.f34 (Tryz.f34.body.getD .skip) [.st (flC f)] K := by
  simp only [BdAs, BdA, BdL, BdC, MX, ndC, shC, itC, stC, opC, chC, nwC, flC, rqC, rsC, enc, List.cons_append, List.nil_append, and_true, true_and] at hb
  unfold v34 at hK
  conv => whnf
  repeat' first
    | (refine Cnd.mk (fun h => ?_) (fun h => ?_) <;> (try simp [nd_eta, sh_eta, it_eta, sto_eta, op_eta, ch_eta, nw_eta, fl_eta, rq_eta, rs_eta, elDef, -List.getD_eq_getElem?_getD] at h) <;> conv => whnf)
    | (refine Obl.mk (by first | omega | rfl | exact inK_byte _ | (simp only [inK, Int.toNat_natCast, nd_eta, sh_eta, it_eta, sto_eta, op_eta, ch_eta, nw_eta, fl_eta, rq_eta, rs_eta, elDef] <;> first | omega | grind) | grind [inK]) ?_ <;> conv => whnf)
    | (refine OblG.mk (by conv => whnf
                          repeat (first | (refine Bx.mk ?_) | (intro h; (try simp [nd_eta, sh_eta, it_eta, sto_eta, op_eta, ch_eta, nw_eta, fl_eta, rq_eta, rs_eta, elDef, -List.getD_eq_getElem?_getD] at h); conv => whnf))
                          first | omega | rfl | exact inK_byte _ | (simp only [inK, Int.toNat_natCast, nd_eta, sh_eta, it_eta, sto_eta, op_eta, ch_eta, nw_eta, fl_eta, rq_eta, rs_eta, elDef] <;> first | omega | grind) | grind [inK]) ?_ <;> conv => whnf)
    | (refine Gd.mk (fun h => ?_) <;> (try simp [nd_eta, sh_eta, it_eta, sto_eta, op_eta, ch_eta, nw_eta, fl_eta, rq_eta, rs_eta, elDef, -List.getD_eq_getElem?_getD] at h) <;> conv => whnf)
    | (refine And.intro ?_ ?_ <;> conv => whnf)
    | exact True.intro
    | (intro; conv => whnf)
  all_goals exact leafB hK (by simp only [filterM, nd_eta]; first | done | grind)
theorem s34 : (CtrOK Tryz.prog 34 (.pure F34) ∧ Callable Tryz.prog 34) := by
  refine pure_ok (E := E34) (mkE_cons s32 (mkE_cons s33 (mkE_cons s50 (mkE_nil tab_ok)))) mix (O := O34) (F := F34) Tryz.func34 rfl (by rfl) (by kernel_rfl) (fun args o v h => ?_) (fun args o v h => ?_) (fun args o v h hbd hp K hK => ?_)
  · unfold F34 at h; split at h <;> cases h; first | trivial | (simp [v34, Scalar, Scalar2, Scalar1, stC, ndC, itC, chC, nwC])
  · unfold F34 at h; split at h <;> cases h; exact Nat.le_of_ble_eq_true rfl
  · unfold F34 at h; split at h
    case h_2 => cases h
    cases h
    exact a34 ⟨_, _, ⟨_, _, _, _, _⟩⟩ (by exact hbd) trivial K hK
noncomputable def v52 (a : Nd) (b : Nd) : AV := .bool (decide (cmpN a b = 0))
noncomputable def o52 (a : Nd) (b : Nd) : Prop := okN a ∧ okN b
noncomputable def F52 : List AV → QR
  | [.st [.int .i64 a_0, .int .i64 a_1, .str a_2, .ps .str a_3, .ps .node a_4], .st [.int .i64 b_0, .int .i64 b_1, .str b_2, .ps .str b_3, .ps .node b_4]] => some (some (o52 ⟨a_0, a_1, a_2, a_3, a_4⟩ ⟨b_0, b_1, b_2, b_3, b_4⟩), v52 ⟨a_0, a_1, a_2, a_3, a_4⟩ ⟨b_0, b_1, b_2, b_3, b_4⟩)
  | _ => none
noncomputable def E52 : Ctx := mkE tab [(53, .pure F53)]
noncomputable def O52 : Nat → List DI := ordL []
theorem a52 (a : Nd) (b : Nd) (hb : BdAs [.st (ndC a), .st (ndC b)]) (ho : o52 a b) (K : AV → List AV → Prop) (hK : K (v52 a b) []) : abody E52 O52 .ps Tryz.f52 (Tryz.f52.body.getD .skip) [.st (ndC a), .st (ndC b)] K := by
  simp only [BdAs, BdA, BdL, BdC, MX, ndC, shC, itC, stC, opC, chC, nwC, flC, rqC, rsC, enc, List.cons_append, List.nil_append, and_true, true_and] at hb
  unfold o52 at ho
  unfold v52 at hK
  conv => whnf
  repeat' first
    | (refine Cnd.mk (fun h => ?_) (fun h => ?_) <;> (try simp [nd_eta, sh_eta, it_eta, sto_eta, op_eta, ch_eta, nw_eta, fl_eta, rq_eta, rs_eta, elDef, -List.getD_eq_getElem?_getD] at h) <;> conv => whnf)
    | (refine Obl.mk (by first | omega | rfl | exact inK_byte _ | (simp only [inK, Int.toNat_natCast, nd_eta, sh_eta, it_eta, sto_eta, op_eta, ch_eta, nw_eta, fl_eta, rq_eta, rs_eta, elDef, o53, m53] <;> first | omega | grind) | grind [inK, o53, m53]) ?_ <;> conv => whnf)
    | (refine OblG.mk (by conv => whnf
                          repeat (first | (refine Bx.mk ?_) | (intro h; (try simp [nd_eta, sh_eta, it_eta, sto_eta, op_eta, ch_eta, nw_eta, fl_eta, rq_eta, rs_eta, elDef, -List.getD_eq_getElem?_getD] at h); conv => whnf))
                          first | omega | rfl | exact inK_byte _ | (simp only [inK, Int.toNat_natCast, nd_eta, sh_eta, it_eta, sto_eta, op_eta, ch_eta, nw_eta, fl_eta, rq_eta, rs_eta, elDef, o53, m53] <;> first | omega | grind) | grind [inK, o53, m53]) ?_ <;> conv => whnf)
    | (refine Gd.mk (fun h => ?_) <;> (try simp [nd_eta, sh_eta, it_eta, sto_eta, op_eta, ch_eta, nw_eta, fl_eta, rq_eta, rs_eta, elDef, -List.getD_eq_getElem?_getD] at h) <;> conv => whnf)
    | (refine And.intro ?_ ?_ <;> conv => whnf)
    | exact True.intro
    | (intro; conv => whnf)
  all_goals first | exact hK | exact leafB hK (by simp only [nd_eta])
theorem s52 : (CtrOK Tryz.prog 52 (.pure F52) ∧ Callable Tryz.prog 52) := by
  refine pure_ok (E := E52) (mkE_cons s53 (mkE_nil tab_ok)) mix (O := O52) (F := F52) Tryz.func52 rfl (by rfl) (by kernel_rfl) (fun args o v h => ?_) (fun args o v h => ?_) (fun args o v h hbd hp K hK => ?_)
  · unfold F52 at h; split at h <;> cases h; first | trivial | (simp [v52, Scalar, Scalar2, Scalar1, stC, ndC, itC, chC, nwC])
  · unfold F52 at h; split at h <;> cases h; exact Nat.le_of_ble_eq_true rfl
  · unfold F52 at h; split at h
    case h_2 => cases h
    cases h
    exact a52 ⟨_, _, _, _, _⟩ ⟨_, _, _, _, _⟩ (by exact hbd) (hp _ rfl) K hK
noncomputable def v28 (n : Nd) (f : Flt) : AV := .bool (matchM n f)
noncomputable def o28 (n : Nd) (f : Flt) : Prop := True
noncomputable def F28 : List AV → QR
  | [.st [.int .i64 n_0, .int .i64 n_1, .str n_2, .ps .str n_3, .ps .node n_4], .st [.ps .str f_0, .int .i64 f_1, .int .i64 f_2_0, .int .i64 f_2_1, .str f_2_2, .ps .str f_2_3, .ps .node f_2_4]] => some (none, v28 ⟨n_0, n_1, n_2, n_3, n_4⟩ ⟨f_0, f_1, ⟨f_2_0, f_2_1, f_2_2, f_2_3, f_2_4⟩⟩)
  | _ => none
noncomputable def E28 : Ctx := mkE tab [(22, .pure F22), (27, .pure F27), (45, .gen .ps C45), (46, .pure F46)]
noncomputable def O28 : Nat → List DI := ordL []
theorem a28 (n : Nd) (f : Flt) (hb : BdAs [.st (ndC n), .st (flC f)]) (ho : o28 n f) (K : AV → List AV → Prop) (hK : K (v28 n f) []) : abody E28 O28 .ps Tryz.f28 (Tryz.f28.body.getD .skip) [.st (ndC n), .st (flC f)] K := by
  simp only [BdAs, BdA, BdL, BdC, MX, ndC, shC, itC, stC, opC, chC, nwC, flC, rqC, rsC, enc, List.cons_append, List.nil_append, and_true, true_and] at hb
  unfold v28 at hK
  have h1 := fun h => validM_ok (n := n) h
  have h2 : validM n = true → okN ((findM n f.path).getD default) := fun h => by
    cases e : findM n f.path with
    | none => exact okN_default
    | some m => exact findM_ok (validM_ok h) e
  have h3 : filterM f = true → okN f.value := fun h => by simp only [filterM, Bool.and_eq_true] at h; exact validM_ok h.2
  have h4 := fun m (e : findM n f.path = some m) => (show matchesM n f = testM f.test m f.value by unfold matchesM; rw [e])
  conv => whnf
  repeat' first
    | (refine Cnd.mk (fun h => ?_) (fun h => ?_) <;> (try simp [nd_eta, sh_eta, it_eta, sto_eta, op_eta, ch_eta, nw_eta, fl_eta, rq_eta, rs_eta, elDef, -List.getD_eq_getElem?_getD] at h) <;> conv => whnf)
    | (refine Obl.mk (by first | omega | rfl | exact inK_byte _ | (simp only [inK, Int.toNat_natCast, nd_eta, sh_eta, it_eta, sto_eta, op_eta, ch_eta, nw_eta, fl_eta, rq_eta, rs_eta, elDef, o46, m46] <;> first | omega | grind) | grind [inK, o46, m46]) ?_ <;> conv => whnf)
    | (refine OblG.mk (by conv => whnf
                          repeat (first | (refine Bx.mk ?_) | (intro h; (try simp [nd_eta, sh_eta, it_eta, sto_eta, op_eta, ch_eta, nw_eta, fl_eta, rq_eta, rs_eta, elDef, -List.getD_eq_getElem?_getD] at h); conv => whnf))
                          first | omega | rfl | exact inK_byte _ | (simp only [inK, Int.toNat_natCast, nd_eta, sh_eta, it_eta, sto_eta, op_eta, ch_eta, nw_eta, fl_eta, rq_eta, rs_eta, elDef, o46, m46] <;> first | omega | grind) | grind [inK, o46, m46]) ?_ <;> conv => whnf)
    | (refine Gd.mk (fun h => ?_) <;> (try simp [nd_eta, sh_eta, it_eta, sto_eta, op_eta, ch_eta, nw_eta, fl_eta, rq_eta, rs_eta, elDef, -List.getD_eq_getElem?_getD] at h) <;> conv => whnf)
    | (refine And.intro ?_ ?_ <;> conv => whnf)
    | exact True.intro
    | (intro; conv => whnf)
  · exact leafB hK (by simp only [matchM]; grind)
  · exact leafB hK (by simp only [matchM, matchesM]; rw [h]; simp)
  all_goals
    obtain ⟨m, hm⟩ := Option.isSome_iff_exists.1 (by assumption)
    refine leafB hK ?_
    simp only [matchM, h4 _ hm, hm, testM, Option.getD_some, nd_eta]
    first | done | grind
theorem s28 : (CtrOK Tryz.prog 28 (.pure F28) ∧ Callable Tryz.prog 28) := by
  refine pure_ok (E := E28) (mkE_cons s22 (mkE_cons s27 (mkE_cons s45 (mkE_cons s46 (mkE_nil tab_ok))))) mix (O := O28) (F := F28) Tryz.func28 rfl (by rfl) (by kernel_rfl) (fun args o v h => ?_) (fun args o v h => ?_) (fun args o v h hbd hp K hK => ?_)
  · unfold F28 at h; split at h <;> cases h; first | trivial | (simp [v28, Scalar, Scalar2, Scalar1, stC, ndC, itC, chC, nwC])
  · unfold F28 at h; split at h <;> cases h; exact Nat.le_of_ble_eq_true rfl
  · unfold F28 at h; split at h
    case h_2 => cases h
    cases h
    exact a28 ⟨_, _, _, _, _⟩ ⟨_, _, ⟨_, _, _, _, _⟩⟩ (by exact hbd) trivial K hK
noncomputable def v36 (n : Nd) (f : Flt) : AV := .bool (matchesM n f)
noncomputable def o36 (n : Nd) (f : Flt) : Prop := okN n ∧ okN f.value
noncomputable def F36 : List AV → QR
  | [.st [.int .i64 n_0, .int .i64 n_1, .str n_2, .ps .str n_3, .ps .node n_4], .st [.ps .str f_0, .int .i64 f_1, .int .i64 f_2_0, .int .i64 f_2_1, .str f_2_2, .ps .str f_2_3, .ps .node f_2_4]] => some (some (o36 ⟨n_0, n_1, n_2, n_3, n_4⟩ ⟨f_0, f_1, ⟨f_2_0, f_2_1, f_2_2, f_2_3, f_2_4⟩⟩), v36 ⟨n_0, n_1, n_2, n_3, n_4⟩ ⟨f_0, f_1, ⟨f_2_0, f_2_1, f_2_2, f_2_3, f_2_4⟩⟩)
  | _ => none
noncomputable def E36 : Ctx := mkE tab [(51, .gen .ps C51), (52, .pure F52), (53, .pure F53)]
noncomputable def O36 : Nat → List DI := ordL []
theorem a36 (n : Nd) (f : Flt) (hb : BdAs [.st (ndC n), .st (flC f)]) (ho : o36 n f) (K : AV → List AV → Prop) (hK : K (v36 n f) []) : abody E36 O36 .ps Tryz.f36 (Tryz.f36.body.getD .skip) [.st (ndC n), .st (flC f)] K := by
  simp only [BdAs, BdA, BdL, BdC, MX, ndC, shC, itC, stC, opC, chC, nwC, flC, rqC, rsC, enc, List.cons_append, List.nil_append, and_true, true_and] at hb
  unfold o36 at ho
  unfold v36 at hK
  obtain ⟨ho, ho2⟩ := ho
  have h2 : okN ((findM n f.path).getD default) := by
    cases e : findM n f.path with
    | none => exact okN_default
    | some m => exact findM_ok ho e
  conv => whnf
  repeat' first
    | (refine Cnd.mk (fun h => ?_) (fun h => ?_) <;> (try simp [nd_eta, sh_eta, it_eta, sto_eta, op_eta, ch_eta, nw_eta, fl_eta, rq_eta, rs_eta, elDef, -List.getD_eq_getElem?_getD] at h) <;> conv => whnf)
    | (refine Obl.mk (by first | omega | rfl | exact inK_byte _ | (simp only [inK, Int.toNat_natCast, nd_eta, sh_eta, it_eta, sto_eta, op_eta, ch_eta, nw_eta, fl_eta, rq_eta, rs_eta, elDef, o52, o53, m53] <;> first | omega | grind) | grind [inK, o52, o53, m53]) ?_ <;> conv => whnf)
    | (refine OblG.mk (by conv => whnf
                          repeat (first | (refine Bx.mk ?_) | (intro h; (try simp [nd_eta, sh_eta, it_eta, sto_eta, op_eta, ch_eta, nw_eta, fl_eta, rq_eta, rs_eta, elDef, -List.getD_eq_getElem?_getD] at h); conv => whnf))
                          first | omega | rfl | exact inK_byte _ | (simp only [inK, Int.toNat_natCast, nd_eta, sh_eta, it_eta, sto_eta, op_eta, ch_eta, nw_eta, fl_eta, rq_eta, rs_eta, elDef, o52, o53, m53] <;> first | omega | grind) | grind [inK, o52, o53, m53]) ?_ <;> conv => whnf)
    | (refine Gd.mk (fun h => ?_) <;> (try simp [nd_eta, sh_eta, it_eta, sto_eta, op_eta, ch_eta, nw_eta, fl_eta, rq_eta, rs_eta, elDef, -List.getD_eq_getElem?_getD] at h) <;> conv => whnf)
    | (refine And.intro ?_ ?_ <;> conv => whnf)
    | exact True.intro
    | (intro; conv => whnf)
  · exact leafB hK (by simp only [matchesM]; rw [h])
  all_goals
    obtain ⟨m, hm⟩ := Option.isSome_iff_exists.1 (by assumption)
    refine leafB hK ?_
    simp only [matchesM, hm, testM, Option.getD_some, nd_eta]
    first | done | grind
theorem s36 : (CtrOK Tryz.prog 36 (.pure F36) ∧ Callable Tryz.prog 36) := by
  refine pure_ok (E := E36) (mkE_cons s51 (mkE_cons s52 (mkE_cons s53 (mkE_nil tab_ok)))) mix (O := O36) (F := F36) Tryz.func36 rfl (by rfl) (by kernel_rfl) (fun args o v h => ?_) (fun args o v h => ?_) (fun args o v h hbd hp K hK => ?_)
  · unfold F36 at h; split at h <;> cases h; first | trivial | (simp [v36, Scalar, Scalar2, Scalar1, stC, ndC, itC, chC, nwC])
  · unfold F36 at h; split at h <;> cases h; exact Nat.le_of_ble_eq_true rfl
  · unfold F36 at h; split at h
    case h_2 => cases h
    cases h
    exact a36 ⟨_, _, _, _, _⟩ ⟨_, _, ⟨_, _, _, _, _⟩⟩ (by exact hbd) (hp _ rfl) K hK
end Go.Rs

