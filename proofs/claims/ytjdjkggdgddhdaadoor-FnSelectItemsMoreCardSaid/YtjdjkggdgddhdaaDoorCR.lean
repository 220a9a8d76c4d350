import Derived.Test.YtjdjkggdgddhdaaDoorCQ
set_option linter.all false
namespace Go.Rs
open Go.Proofs
set_option maxRecDepth 100000
set_option linter.unusedVariables false
set_option linter.unusedSimpArgs false
noncomputable def c53 (n : Nd) (K : AV → List AV → Prop) : Prop :=
    ∀ l : List (List Bs), l.length ≤ 20000 → K (.ps .strs l) []
noncomputable def C53 : List AV → (AV → List AV → Prop) → Prop
  | [.st [.int .i64 n_0, .int .i64 n_1, .str n_2, .ps .str n_3, .ps .node n_4]], K => c53 ⟨n_0, n_1, n_2, n_3, n_4⟩ K
  | _, _ => False
noncomputable def E53 : Ctx := mkE tab [(26, .pure F26), (71, .gen .ps C71)]
noncomputable def O53 : Nat → List DI := ordL []
theorem a53 (n : Nd) (hb : BdAs [.st (ndC n)]) (K : AV → List AV → Prop) (h : c53 n K) : abody E53 O53 .ps Tryd.f53 (Tryd.f53.body.getD .skip) [.st (ndC n)] K := by
  simp only [BdAs, BdA, BdL, BdC, MX, ndC, shC, itC, stC, opC, chC, nwC, flC, rqC, rsC, enc, List.cons_append, List.nil_append, and_true, true_and] at hb
  unfold c53 at h
  have hK := h
  have h1 := fun h => validM_ok (n := n) h
  have h2 := fun h : validM n = true => okN_count (validM_ok h)
  conv => whnf
  repeat' first
    | (refine Cnd.mk (fun h => ?_) (fun h => ?_) <;> (try simp [nd_eta, sh_eta, it_eta, sto_eta, op_eta, ch_eta, nw_eta, fl_eta, rq_eta, rs_eta, elDef, -List.getD_eq_getElem?_getD] at h) <;> conv => whnf)
    | (refine Obl.mk (by first | omega | rfl | exact inK_byte _ | (simp only [inK, Int.toNat_natCast, nd_eta, sh_eta, it_eta, sto_eta, op_eta, ch_eta, nw_eta, fl_eta, rq_eta, rs_eta, elDef, m71] <;> first | omega | grind) | grind [inK, m71]) ?_ <;> conv => whnf)
    | (refine OblG.mk (by conv => whnf
                          repeat (first | (refine Bx.mk ?_) | (intro h; (try simp [nd_eta, sh_eta, it_eta, sto_eta, op_eta, ch_eta, nw_eta, fl_eta, rq_eta, rs_eta, elDef, -List.getD_eq_getElem?_getD] at h); conv => whnf))
                          first | omega | rfl | exact inK_byte _ | (simp only [inK, Int.toNat_natCast, nd_eta, sh_eta, it_eta, sto_eta, op_eta, ch_eta, nw_eta, fl_eta, rq_eta, rs_eta, elDef, m71] <;> first | omega | grind) | grind [inK, m71]) ?_ <;> conv => whnf)
    | (refine Gd.mk (fun h => ?_) <;> (try simp [nd_eta, sh_eta, it_eta, sto_eta, op_eta, ch_eta, nw_eta, fl_eta, rq_eta, rs_eta, elDef, -List.getD_eq_getElem?_getD] at h) <;> conv => whnf)
    | (refine And.intro ?_ ?_ <;> conv => whnf)
    | exact True.intro
    | (intro; conv => whnf)
  · exact hK [] (by simp)
  · rename_i l hl hx
    simp only [nd_eta] at hl
    have h3 := h2 (by assumption)
    exact hK l (by omega)
theorem s53 : (CtrOK Tryd.prog 53 (.gen .ps C53) ∧ Callable Tryd.prog 53) := by
  refine gen_ok (E := E53) (mkE_cons s26 (mkE_cons s71 (mkE_nil tab_ok))) mix (O := O53) (C := C53) (own := .ps) Tryd.func53 rfl (by rfl) (by kernel_rfl) (fun args K h hbd => ?_)
  unfold C53 at h; split at h
  case h_2 => exact h.elim
  exact ⟨Nat.le_of_ble_eq_true rfl, a53 ⟨_, _, _, _, _⟩ (by exact hbd) _ h⟩
noncomputable def c54 (code : List Int) (p : Int) (K : AV → List AV → Prop) : Prop :=
    Obl ((0 ≤ p ∧ p ≤ 100000000) ∧ byOk code) (∀ (l : List Bs) (p' : Int), p ≤ p' ∧ p' ≤ p + 20 → K (.ps .str l) [.ref [.ps .u8 code, .int .i64 p']])
noncomputable def C54 : List AV → (AV → List AV → Prop) → Prop
  | [.ref [.ps .u8 code, .int .i64 p]], K => c54 code p K
  | _, _ => False
noncomputable def E54 : Ctx := mkE tab [(19, .gen .ps C19), (20, .gen .ps C20), (51, .gen .ps C51)]
noncomputable def O54 : Nat → List DI := ordL []
theorem a54 (code : List Int) (p : Int) (hb : BdAs [.ref [.ps .u8 code, .int .i64 p]]) (K : AV → List AV → Prop) (h : c54 code p K) : abody E54 O54 .ps Tryd.f54 (Tryd.f54.body.getD .skip) [.ref [.ps .u8 code, .int .i64 p]] K := by
  simp only [BdAs, BdA, BdL, BdC, MX, ndC, shC, itC, stC, opC, chC, nwC, flC, rqC, rsC, enc, List.cons_append, List.nil_append, and_true, true_and] at hb
  unfold c54 at h
  obtain ⟨⟨hp, ho⟩, hK⟩ := h
  conv => whnf
  repeat' first
    | (refine Cnd.mk (fun h => ?_) (fun h => ?_) <;> (try simp [nd_eta, sh_eta, it_eta, sto_eta, op_eta, ch_eta, nw_eta, fl_eta, rq_eta, rs_eta, elDef, -List.getD_eq_getElem?_getD] at h) <;> conv => whnf)
    | (refine Obl.mk (by first | omega | rfl | exact inK_byte _ | (simp only [inK, Int.toNat_natCast, nd_eta, sh_eta, it_eta, sto_eta, op_eta, ch_eta, nw_eta, fl_eta, rq_eta, rs_eta, elDef] <;> first | omega | grind) | grind [inK]) ?_ <;> conv => whnf)
    | (refine OblG.mk (by conv => whnf
                          repeat (first | (refine Bx.mk ?_) | (intro h; (try simp [nd_eta, sh_eta, it_eta, sto_eta, op_eta, ch_eta, nw_eta, fl_eta, rq_eta, rs_eta, elDef, -List.getD_eq_getElem?_getD] at h); conv => whnf))
                          first | omega | rfl | exact inK_byte _ | (simp only [inK, Int.toNat_natCast, nd_eta, sh_eta, it_eta, sto_eta, op_eta, ch_eta, nw_eta, fl_eta, rq_eta, rs_eta, elDef] <;> first | omega | grind) | grind [inK]) ?_ <;> conv => whnf)
    | (refine Gd.mk (fun h => ?_) <;> (try simp [nd_eta, sh_eta, it_eta, sto_eta, op_eta, ch_eta, nw_eta, fl_eta, rq_eta, rs_eta, elDef, -List.getD_eq_getElem?_getD] at h) <;> conv => whnf)
    | (refine And.intro ?_ ?_ <;> conv => whnf)
    | exact True.intro
    | (intro; conv => whnf)
  rename_i r hr
  have hr0 : 0 ≤ r ∧ r ≤ 6 := by simp at hr; omega
  refine aloop_intro (Int × Int × List Bs) (fun ⟨c, q, l⟩ => (0 ≤ c ∧ l.length + c ≤ 6) ∧ p ≤ q ∧ q + c ≤ p + 8) (fun ⟨c, q, l⟩ => c.toNat) (fun ⟨c, q, l⟩ => [(4, .int .i64 c), (3, .ls 900)]) (fun ⟨c, q, l⟩ => [(900, .arr .str l), (1000000, .box [.ps .u8 code, .int .i64 q])]) [] (r, p + 1, []) [(900, 5)] [] ?_ ?_ (by exact sgOk_of (by rfl)) ?_
  · first | (simp; done) | (simp; assumption) | (simp only; grind)
  · (conv => whnf); (repeat' (first | exact trivial | rfl | (refine nilEq ?_; first | rfl | (simp only [*]; done) | (simp [*]; done) | grind) | apply And.intro | ((first | refine intEq ?_ | refine boolEq ?_ | refine strEq ?_ | refine psEq ?_ | refine nilEq ?_ | refine arrEq ?_); (try simp only [Int.toNat_natCast, nd_eta, sh_eta, it_eta, sto_eta, op_eta, ch_eta, nw_eta, fl_eta, rq_eta, rs_eta, elDef]); first | done | omega | grind | (simp only [*]; done) | (simp [*]; done)))); (all_goals (conv => whnf)); (repeat' (first | exact trivial | rfl | (refine nilEq ?_; first | rfl | (simp only [*]; done) | (simp [*]; done) | grind) | apply And.intro | ((first | refine intEq ?_ | refine boolEq ?_ | refine strEq ?_ | refine psEq ?_ | refine nilEq ?_ | refine arrEq ?_); (try simp only [Int.toNat_natCast, nd_eta, sh_eta, it_eta, sto_eta, op_eta, ch_eta, nw_eta, fl_eta, rq_eta, rs_eta, elDef]); first | done | omega | grind | (simp only [*]; done) | (simp [*]; done)) | ((try simp only [Int.toNat_natCast, nd_eta, sh_eta, it_eta, sto_eta, op_eta, ch_eta, nw_eta, fl_eta, rq_eta, rs_eta, elDef]); first | done | omega | grind | (simp only [*]; done) | (simp [*]; done))))
  rintro ⟨c, q, l⟩ hinv
  dsimp only at hinv
  conv => whnf
  obtain ⟨hi1, hi2, hi3⟩ := hinv
  repeat' first
    | (refine Cnd.mk (fun h => ?_) (fun h => ?_) <;> (try simp [nd_eta, sh_eta, it_eta, sto_eta, op_eta, ch_eta, nw_eta, fl_eta, rq_eta, rs_eta, elDef, -List.getD_eq_getElem?_getD] at h) <;> conv => whnf)
    | (refine Obl.mk (by first | omega | rfl | exact inK_byte _ | (simp only [inK, Int.toNat_natCast, nd_eta, sh_eta, it_eta, sto_eta, op_eta, ch_eta, nw_eta, fl_eta, rq_eta, rs_eta, elDef] <;> first | omega | grind) | grind [inK]) ?_ <;> conv => whnf)
    | (refine OblG.mk (by conv => whnf
                          repeat (first | (refine Bx.mk ?_) | (intro h; (try simp [nd_eta, sh_eta, it_eta, sto_eta, op_eta, ch_eta, nw_eta, fl_eta, rq_eta, rs_eta, elDef, -List.getD_eq_getElem?_getD] at h); conv => whnf))
                          first | omega | rfl | exact inK_byte _ | (simp only [inK, Int.toNat_natCast, nd_eta, sh_eta, it_eta, sto_eta, op_eta, ch_eta, nw_eta, fl_eta, rq_eta, rs_eta, elDef] <;> first | omega | grind) | grind [inK]) ?_ <;> conv => whnf)
    | (refine Gd.mk (fun h => ?_) <;> (try simp [nd_eta, sh_eta, it_eta, sto_eta, op_eta, ch_eta, nw_eta, fl_eta, rq_eta, rs_eta, elDef, -List.getD_eq_getElem?_getD] at h) <;> conv => whnf)
    | (refine And.intro ?_ ?_ <;> conv => whnf)
    | exact True.intro
    | (intro; conv => whnf)
  · rename_i rr hrr
    exact ⟨(c - 1, q + 1, l ++ [rr]), [(900, 18)], [], ⟨by simp; omega, by omega, by omega⟩, by show (c - 1).toNat < c.toNat; omega, by (conv => whnf); (repeat' (first | exact trivial | rfl | (refine nilEq ?_; first | rfl | (simp only [*]; done) | (simp [*]; done) | grind) | apply And.intro | ((first | refine intEq ?_ | refine boolEq ?_ | refine strEq ?_ | refine psEq ?_ | refine nilEq ?_ | refine arrEq ?_); (try simp only [Int.toNat_natCast, nd_eta, sh_eta, it_eta, sto_eta, op_eta, ch_eta, nw_eta, fl_eta, rq_eta, rs_eta, elDef]); first | done | omega | grind | (simp only [*]; done) | (simp [*]; done)))); (all_goals (conv => whnf)); (repeat' (first | exact trivial | rfl | (refine nilEq ?_; first | rfl | (simp only [*]; done) | (simp [*]; done) | grind) | apply And.intro | ((first | refine intEq ?_ | refine boolEq ?_ | refine strEq ?_ | refine psEq ?_ | refine nilEq ?_ | refine arrEq ?_); (try simp only [Int.toNat_natCast, nd_eta, sh_eta, it_eta, sto_eta, op_eta, ch_eta, nw_eta, fl_eta, rq_eta, rs_eta, elDef]); first | done | omega | grind | (simp only [*]; done) | (simp [*]; done)) | ((try simp only [Int.toNat_natCast, nd_eta, sh_eta, it_eta, sto_eta, op_eta, ch_eta, nw_eta, fl_eta, rq_eta, rs_eta, elDef]); first | done | omega | grind | (simp only [*]; done) | (simp [*]; done)))), (by exact sgOk_of (by rfl))⟩
  all_goals exact hK _ _ (by omega)
theorem s54 : (CtrOK Tryd.prog 54 (.gen .ps C54) ∧ Callable Tryd.prog 54) := by
  refine gen_ok (E := E54) (mkE_cons s19 (mkE_cons s20 (mkE_cons s51 (mkE_nil tab_ok)))) mix (O := O54) (C := C54) (own := .ps) Tryd.func54 rfl (by rfl) (by kernel_rfl) (fun args K h hbd => ?_)
  unfold C54 at h; split at h
  case h_2 => exact h.elim
  exact ⟨Nat.le_of_ble_eq_true rfl, a54 _ _ (by exact hbd) _ h⟩
noncomputable def c34 (code : List Int) (p : Int) (n : Nd) (K : AV → List AV → Prop) : Prop :=
    Obl ((0 ≤ p ∧ p ≤ 50000000) ∧ byOk code) (∀ (l : List Bs) (p' : Int), p ≤ p' ∧ p' ≤ p + 30 → K (.ps .str l) [.ref [.ps .u8 code, .int .i64 p']])
noncomputable def C34 : List AV → (AV → List AV → Prop) → Prop
  | [.ref [.ps .u8 code, .int .i64 p], .st [.int .i64 n_0, .int .i64 n_1, .str n_2, .ps .str n_3, .ps .node n_4]], K => c34 code p ⟨n_0, n_1, n_2, n_3, n_4⟩ K
  | _, _ => False
noncomputable def E34 : Ctx := mkE tab [(19, .gen .ps C19), (53, .gen .ps C53), (54, .gen .ps C54)]
noncomputable def O34 : Nat → List DI := ordL []
theorem a34 (code : List Int) (p : Int) (n : Nd) (hb : BdAs [.ref [.ps .u8 code, .int .i64 p], .st (ndC n)]) (K : AV → List AV → Prop) (h : c34 code p n K) : abody E34 O34 .ps Tryd.f34 (Tryd.f34.body.getD .skip) [.ref [.ps .u8 code, .int .i64 p], .st (ndC n)] K := by
  simp only [BdAs, BdA, BdL, BdC, MX, ndC, shC, itC, stC, opC, chC, nwC, flC, rqC, rsC, enc, List.cons_append, List.nil_append, and_true, true_and] at hb
  unfold c34 at h
  obtain ⟨⟨hp, ho⟩, hK⟩ := h
  conv => whnf
  repeat' first
    | (refine Cnd.mk (fun h => ?_) (fun h => ?_) <;> (try simp [nd_eta, sh_eta, it_eta, sto_eta, op_eta, ch_eta, nw_eta, fl_eta, rq_eta, rs_eta, elDef, -List.getD_eq_getElem?_getD] at h) <;> conv => whnf)
    | (refine Obl.mk (by first | omega | rfl | exact inK_byte _ | (simp only [inK, Int.toNat_natCast, nd_eta, sh_eta, it_eta, sto_eta, op_eta, ch_eta, nw_eta, fl_eta, rq_eta, rs_eta, elDef] <;> first | omega | grind) | grind [inK]) ?_ <;> conv => whnf)
    | (refine OblG.mk (by conv => whnf
                          repeat (first | (refine Bx.mk ?_) | (intro h; (try simp [nd_eta, sh_eta, it_eta, sto_eta, op_eta, ch_eta, nw_eta, fl_eta, rq_eta, rs_eta, elDef, -List.getD_eq_getElem?_getD] at h); conv => whnf))
                          first | omega | rfl | exact inK_byte _ | (simp only [inK, Int.toNat_natCast, nd_eta, sh_eta, it_eta, sto_eta, op_eta, ch_eta, nw_eta, fl_eta, rq_eta, rs_eta, elDef] <;> first | omega | grind) | grind [inK]) ?_ <;> conv => whnf)
    | (refine Gd.mk (fun h => ?_) <;> (try simp [nd_eta, sh_eta, it_eta, sto_eta, op_eta, ch_eta, nw_eta, fl_eta, rq_eta, rs_eta, elDef, -List.getD_eq_getElem?_getD] at h) <;> conv => whnf)
    | (refine And.intro ?_ ?_ <;> conv => whnf)
    | exact True.intro
    | (intro; conv => whnf)
  all_goals exact hK _ _ (by omega)
theorem s34 : (CtrOK Tryd.prog 34 (.gen .ps C34) ∧ Callable Tryd.prog 34) := by
  refine gen_ok (E := E34) (mkE_cons s19 (mkE_cons s53 (mkE_cons s54 (mkE_nil tab_ok)))) mix (O := O34) (C := C34) (own := .ps) Tryd.func34 rfl (by rfl) (by kernel_rfl) (fun args K h hbd => ?_)
  unfold C34 at h; split at h
  case h_2 => exact h.elim
  exact ⟨Nat.le_of_ble_eq_true rfl, a34 _ _ ⟨_, _, _, _, _⟩ (by exact hbd) _ h⟩
noncomputable def c21 (code : List Int) (p : Int) (n : Nd) (K : AV → List AV → Prop) : Prop :=
    Obl ((0 ≤ p ∧ p ≤ 9000000) ∧ byOk code) (∀ (f : Flt) (p' : Int), p ≤ p' ∧ p' ≤ p + 5000 → K (.st (flC f)) [.ref [.ps .u8 code, .int .i64 p']])
noncomputable def C21 : List AV → (AV → List AV → Prop) → Prop
  | [.ref [.ps .u8 code, .int .i64 p], .st [.int .i64 n_0, .int .i64 n_1, .str n_2, .ps .str n_3, .ps .node n_4]], K => c21 code p ⟨n_0, n_1, n_2, n_3, n_4⟩ K
  | _, _ => False
noncomputable def E21 : Ctx := mkE tab [(19, .gen .ps C19), (20, .gen .ps C20), (33, .gen .ps C33), (34, .gen .ps C34), (35, .gen .ps C35), (36, .gen .ow C36)]
noncomputable def O21 : Nat → List DI := ordL []
theorem a21 (code : List Int) (p : Int) (n : Nd) (hb : BdAs [.ref [.ps .u8 code, .int .i64 p], .st (ndC n)]) (K : AV → List AV → Prop) (h : c21 code p n K) : abody E21 O21 .ps Tryd.f21 (Tryd.f21.body.getD .skip) [.ref [.ps .u8 code, .int .i64 p], .st (ndC n)] K := by
  simp only [BdAs, BdA, BdL, BdC, MX, ndC, shC, itC, stC, opC, chC, nwC, flC, rqC, rsC, enc, List.cons_append, List.nil_append, and_true, true_and] at hb
  unfold c21 at h
  obtain ⟨⟨hp, ho⟩, hK⟩ := h
  have hc := (cost_facts 2).2.2
  conv => whnf
  repeat' first
    | (refine Cnd.mk (fun h => ?_) (fun h => ?_) <;> (try simp [nd_eta, sh_eta, it_eta, sto_eta, op_eta, ch_eta, nw_eta, fl_eta, rq_eta, rs_eta, elDef, -List.getD_eq_getElem?_getD] at h) <;> conv => whnf)
    | (refine Obl.mk (by first | omega | rfl | exact inK_byte _ | (simp only [inK, Int.toNat_natCast, nd_eta, sh_eta, it_eta, sto_eta, op_eta, ch_eta, nw_eta, fl_eta, rq_eta, rs_eta, elDef, m36] <;> first | omega | grind) | grind [inK, m36]) ?_ <;> conv => whnf)
    | (refine OblG.mk (by conv => whnf
                          repeat (first | (refine Bx.mk ?_) | (intro h; (try simp [nd_eta, sh_eta, it_eta, sto_eta, op_eta, ch_eta, nw_eta, fl_eta, rq_eta, rs_eta, elDef, -List.getD_eq_getElem?_getD] at h); conv => whnf))
                          first | omega | rfl | exact inK_byte _ | (simp only [inK, Int.toNat_natCast, nd_eta, sh_eta, it_eta, sto_eta, op_eta, ch_eta, nw_eta, fl_eta, rq_eta, rs_eta, elDef, m36] <;> first | omega | grind) | grind [inK, m36]) ?_ <;> conv => whnf)
    | (refine Gd.mk (fun h => ?_) <;> (try simp [nd_eta, sh_eta, it_eta, sto_eta, op_eta, ch_eta, nw_eta, fl_eta, rq_eta, rs_eta, elDef, -List.getD_eq_getElem?_getD] at h) <;> conv => whnf)
    | (refine And.intro ?_ ?_ <;> conv => whnf)
    | exact True.intro
    | (intro; conv => whnf)
  all_goals exact hK ⟨_, _, ⟨_, _, _, _, _⟩⟩ _ (by omega)
theorem s21 : (CtrOK Tryd.prog 21 (.gen .ps C21) ∧ Callable Tryd.prog 21) := by
  refine gen_ok (E := E21) (mkE_cons s19 (mkE_cons s20 (mkE_cons s33 (mkE_cons s34 (mkE_cons s35 (mkE_cons s36 (mkE_nil tab_ok))))))) mix (O := O21) (C := C21) (own := .ps) Tryd.func21 rfl (by rfl) (by kernel_rfl) (fun args K h hbd => ?_)
  unfold C21 at h; split at h
  case h_2 => exact h.elim
  exact ⟨Nat.le_of_ble_eq_true rfl, a21 _ _ ⟨_, _, _, _, _⟩ (by exact hbd) _ h⟩
noncomputable def v37 (f : Flt) : AV := .bool (filterM f)
noncomputable def o37 (f : Flt) : Prop := True
noncomputable def F37 : List AV → QR
  | [.st [.ps .str f_0, .int .i64 f_1, .int .i64 f_2_0, .int .i64 f_2_1, .str f_2_2, .ps .str f_2_3, .ps .node f_2_4]] => some (none, v37 ⟨f_0, f_1, ⟨f_2_0, f_2_1, f_2_2, f_2_3, f_2_4⟩⟩)
  | _ => none
noncomputable def E37 : Ctx := mkE tab [(17, .pure F17), (57, .pure F57)]
noncomputable def O37 : Nat → List DI := ordL []
theorem a37 (f : Flt) (hb : BdAs [.st (flC f)]) (ho : o37 f) (K : AV → List AV → Prop) (hK : K (v37 f) []) : abody E37 O37 .ps Tryd.f37 (Tryd.f37.body.getD .skip) [.st (flC f)] K := by
  simp only [BdAs, BdA, BdL, BdC, MX, ndC, shC, itC, stC, opC, chC, nwC, flC, rqC, rsC, enc, List.cons_append, List.nil_append, and_true, true_and] at hb
  unfold v37 at hK
  conv => whnf
  repeat' first
    | (refine Cnd.mk (fun h => ?_) (fun h => ?_) <;> (try simp [nd_eta, sh_eta, it_eta, sto_eta, op_eta, ch_eta, nw_eta, fl_eta, rq_eta, rs_eta, elDef, -List.getD_eq_getElem?_getD] at h) <;> conv => whnf)
    | (refine Obl.mk (by first | omega | rfl | exact inK_byte _ | (simp only [inK, Int.toNat_natCast, nd_eta, sh_eta, it_eta, sto_eta, op_eta, ch_eta, nw_eta, fl_eta, rq_eta, rs_eta, elDef] <;> first | omega | grind) | grind [inK]) ?_ <;> conv => whnf)
    | (refine OblG.mk (by conv => whnf
                          repeat (first | (refine Bx.mk ?_) | (intro h; (try simp [nd_eta, sh_eta, it_eta, sto_eta, op_eta, ch_eta, nw_eta, fl_eta, rq_eta, rs_eta, elDef, -List.getD_eq_getElem?_getD] at h); conv => whnf))
                          first | omega | rfl | exact inK_byte _ | (simp only [inK, Int.toNat_natCast, nd_eta, sh_eta, it_eta, sto_eta, op_eta, ch_eta, nw_eta, fl_eta, rq_eta, rs_eta, elDef] <;> first | omega | grind) | grind [inK]) ?_ <;> conv => whnf)
    | (refine Gd.mk (fun h => ?_) <;> (try simp [nd_eta, sh_eta, it_eta, sto_eta, op_eta, ch_eta, nw_eta, fl_eta, rq_eta, rs_eta, elDef, -List.getD_eq_getElem?_getD] at h) <;> conv => whnf)
    | (refine And.intro ?_ ?_ <;> conv => whnf)
    | exact True.intro
    | (intro; conv => whnf)
  all_goals exact leafB hK (by simp only [filterM, nd_eta]; grind)
theorem s37 : (CtrOK Tryd.prog 37 (.pure F37) ∧ Callable Tryd.prog 37) := by
  refine pure_ok (E := E37) (mkE_cons s17 (mkE_cons s57 (mkE_nil tab_ok))) mix (O := O37) (F := F37) Tryd.func37 rfl (by rfl) (by kernel_rfl) (fun args o v h => ?_) (fun args o v h => ?_) (fun args o v h hbd hp K hK => ?_)
  · unfold F37 at h; split at h <;> cases h; first | trivial | (simp [v37, Scalar, Scalar2, Scalar1, stC, ndC, itC, chC, nwC])
  · unfold F37 at h; split at h <;> cases h; exact Nat.le_of_ble_eq_true rfl
  · unfold F37 at h; split at h
    case h_2 => cases h
    cases h
    exact a37 ⟨_, _, ⟨_, _, _, _, _⟩⟩ (by exact hbd) trivial K hK
noncomputable def v28 (f : Flt) : AV := .bool (filterM f)
noncomputable def o28 (f : Flt) : Prop := True
noncomputable def F28 : List AV → QR
  | [.st [.ps .str f_0, .int .i64 f_1, .int .i64 f_2_0, .int .i64 f_2_1, .str f_2_2, .ps .str f_2_3, .ps .node f_2_4]] => some (none, v28 ⟨f_0, f_1, ⟨f_2_0, f_2_1, f_2_2, f_2_3, f_2_4⟩⟩)
  | _ => none
noncomputable def E28 : Ctx := mkE tab [(26, .pure F26), (27, .pure F27), (42, .pure F42)]
noncomputable def O28 : Nat → List DI := ordL []
theorem a28 (f : Flt) (hb : BdAs [.st (flC f)]) (ho : o28 f) (K : AV → List AV → Prop) (hK : K (v28 f) []) : abody E28 O28 .ps Tryd.f28 (Tryd.f28.body.getD .skip) [.st (flC f)] K := by
  simp only [BdAs, BdA, BdL, BdC, MX, ndC, shC, itC, stC, opC, chC, nwC, flC, rqC, rsC, enc, List.cons_append, List.nil_append, and_true, true_and] at hb
  unfold v28 at hK
  conv => whnf
  repeat' first
    | (refine Cnd.mk (fun h => ?_) (fun h => ?_) <;> (try simp [nd_eta, sh_eta, it_eta, sto_eta, op_eta, ch_eta, nw_eta, fl_eta, rq_eta, rs_eta, elDef, -List.getD_eq_getElem?_getD] at h) <;> conv => whnf)
    | (refine Obl.mk (by first | omega | rfl | exact inK_byte _ | (simp only [inK, Int.toNat_natCast, nd_eta, sh_eta, it_eta, sto_eta, op_eta, ch_eta, nw_eta, fl_eta, rq_eta, rs_eta, elDef] <;> first | omega | grind) | grind [inK]) ?_ <;> conv => whnf)
    | (refine OblG.mk (by conv => whnf
                          repeat (first | (refine Bx.mk ?_) | (intro h; (try simp [nd_eta, sh_eta, it_eta, sto_eta, op_eta, ch_eta, nw_eta, fl_eta, rq_eta, rs_eta, elDef, -List.getD_eq_getElem?_getD] at h); conv => whnf))
                          first | omega | rfl | exact inK_byte _ | (simp only [inK, Int.toNat_natCast, nd_eta, sh_eta, it_eta, sto_eta, op_eta, ch_eta, nw_eta, fl_eta, rq_eta, rs_eta, elDef] <;> first | omega | grind) | grind [inK]) ?_ <;> conv => whnf)
    | (refine Gd.mk (fun h => ?_) <;> (try simp [nd_eta, sh_eta, it_eta, sto_eta, op_eta, ch_eta, nw_eta, fl_eta, rq_eta, rs_eta, elDef, -List.getD_eq_getElem?_getD] at h) <;> conv => whnf)
    | (refine And.intro ?_ ?_ <;> conv => whnf)
    | exact True.intro
    | (intro; conv => whnf)
  all_goals exact leafB hK (by simp only [filterM, nd_eta]; first | done | grind)
theorem s28 : (CtrOK Tryd.prog 28 (.pure F28) ∧ Callable Tryd.prog 28) := by
  refine pure_ok (E := E28) (mkE_cons s26 (mkE_cons s27 (mkE_cons s42 (mkE_nil tab_ok)))) mix (O := O28) (F := F28) Tryd.func28 rfl (by rfl) (by kernel_rfl) (fun args o v h => ?_) (fun args o v h => ?_) (fun args o v h hbd hp K hK => ?_)
  · unfold F28 at h; split at h <;> cases h; first | trivial | (simp [v28, Scalar, Scalar2, Scalar1, stC, ndC, itC, chC, nwC])
  · unfold F28 at h; split at h <;> cases h; exact Nat.le_of_ble_eq_true rfl
  · unfold F28 at h; split at h
    case h_2 => cases h
    cases h
    exact a28 ⟨_, _, ⟨_, _, _, _, _⟩⟩ (by exact hbd) trivial K hK
noncomputable def v44 (a : Nd) (b : Nd) : AV := .bool (decide (cmpN a b = 0))
noncomputable def o44 (a : Nd) (b : Nd) : Prop := okN a ∧ okN b
noncomputable def F44 : List AV → QR
  | [.st [.int .i64 a_0, .int .i64 a_1, .str a_2, .ps .str a_3, .ps .node a_4], .st [.int .i64 b_0, .int .i64 b_1, .str b_2, .ps .str b_3, .ps .node b_4]] => some (some (o44 ⟨a_0, a_1, a_2, a_3, a_4⟩ ⟨b_0, b_1, b_2, b_3, b_4⟩), v44 ⟨a_0, a_1, a_2, a_3, a_4⟩ ⟨b_0, b_1, b_2, b_3, b_4⟩)
  | _ => none
noncomputable def E44 : Ctx := mkE tab [(45, .pure F45)]
noncomputable def O44 : Nat → List DI := ordL []
theorem a44 (a : Nd) (b : Nd) (hb : BdAs [.st (ndC a), .st (ndC b)]) (ho : o44 a b) (K : AV → List AV → Prop) (hK : K (v44 a b) []) : abody E44 O44 .ps Tryd.f44 (Tryd.f44.body.getD .skip) [.st (ndC a), .st (ndC b)] K := by
  simp only [BdAs, BdA, BdL, BdC, MX, ndC, shC, itC, stC, opC, chC, nwC, flC, rqC, rsC, enc, List.cons_append, List.nil_append, and_true, true_and] at hb
  unfold o44 at ho
  unfold v44 at hK
  conv => whnf
  repeat' first
    | (refine Cnd.mk (fun h => ?_) (fun h => ?_) <;> (try simp [nd_eta, sh_eta, it_eta, sto_eta, op_eta, ch_eta, nw_eta, fl_eta, rq_eta, rs_eta, elDef, -List.getD_eq_getElem?_getD] at h) <;> conv => whnf)
    | (refine Obl.mk (by first | omega | rfl | exact inK_byte _ | (simp only [inK, Int.toNat_natCast, nd_eta, sh_eta, it_eta, sto_eta, op_eta, ch_eta, nw_eta, fl_eta, rq_eta, rs_eta, elDef, o45, m45] <;> first | omega | grind) | grind [inK, o45, m45]) ?_ <;> conv => whnf)
    | (refine OblG.mk (by conv => whnf
                          repeat (first | (refine Bx.mk ?_) | (intro h; (try simp [nd_eta, sh_eta, it_eta, sto_eta, op_eta, ch_eta, nw_eta, fl_eta, rq_eta, rs_eta, elDef, -List.getD_eq_getElem?_getD] at h); conv => whnf))
                          first | omega | rfl | exact inK_byte _ | (simp only [inK, Int.toNat_natCast, nd_eta, sh_eta, it_eta, sto_eta, op_eta, ch_eta, nw_eta, fl_eta, rq_eta, rs_eta, elDef, o45, m45] <;> first | omega | grind) | grind [inK, o45, m45]) ?_ <;> conv => whnf)
    | (refine Gd.mk (fun h => ?_) <;> (try simp [nd_eta, sh_eta, it_eta, sto_eta, op_eta, ch_eta, nw_eta, fl_eta, rq_eta, rs_eta, elDef, -List.getD_eq_getElem?_getD] at h) <;> conv => whnf)
    | (refine And.intro ?_ ?_ <;> conv => whnf)
    | exact True.intro
    | (intro; conv => whnf)
  all_goals first | exact hK | exact leafB hK (by simp only [nd_eta])
theorem s44 : (CtrOK Tryd.prog 44 (.pure F44) ∧ Callable Tryd.prog 44) := by
  refine pure_ok (E := E44) (mkE_cons s45 (mkE_nil tab_ok)) mix (O := O44) (F := F44) Tryd.func44 rfl (by rfl) (by kernel_rfl) (fun args o v h => ?_) (fun args o v h => ?_) (fun args o v h hbd hp K hK => ?_)
  · unfold F44 at h; split at h <;> cases h; first | trivial | (simp [v44, Scalar, Scalar2, Scalar1, stC, ndC, itC, chC, nwC])
  · unfold F44 at h; split at h <;> cases h; exact Nat.le_of_ble_eq_true rfl
  · unfold F44 at h; split at h
    case h_2 => cases h
    cases h
    exact a44 ⟨_, _, _, _, _⟩ ⟨_, _, _, _, _⟩ (by exact hbd) (hp _ rfl) K hK
noncomputable def v38 (n : Nd) (f : Flt) : AV := .bool (matchM n f)
noncomputable def o38 (n : Nd) (f : Flt) : Prop := True
noncomputable def F38 : List AV → QR
  | [.st [.int .i64 n_0, .int .i64 n_1, .str n_2, .ps .str n_3, .ps .node n_4], .st [.ps .str f_0, .int .i64 f_1, .int .i64 f_2_0, .int .i64 f_2_1, .str f_2_2, .ps .str f_2_3, .ps .node f_2_4]] => some (none, v38 ⟨n_0, n_1, n_2, n_3, n_4⟩ ⟨f_0, f_1, ⟨f_2_0, f_2_1, f_2_2, f_2_3, f_2_4⟩⟩)
  | _ => none
noncomputable def E38 : Ctx := mkE tab [(17, .pure F17), (37, .pure F37), (58, .gen .ps C58), (59, .pure F59)]
noncomputable def O38 : Nat → List DI := ordL []
theorem a38 (n : Nd) (f : Flt) (hb : BdAs [.st (ndC n), .st (flC f)]) (ho : o38 n f) (K : AV → List AV → Prop) (hK : K (v38 n f) []) : abody E38 O38 .ps Tryd.f38 (Tryd.f38.body.getD .skip) [.st (ndC n), .st (flC f)] K := by
  simp only [BdAs, BdA, BdL, BdC, MX, ndC, shC, itC, stC, opC, chC, nwC, flC, rqC, rsC, enc, List.cons_append, List.nil_append, and_true, true_and] at hb
  unfold v38 at hK
  have h1 := fun h => validM_ok (n := n) h
  have h2 : validM n = true → okN ((findM n f.path).getD default) := fun h => by
    cases e : findM n f.path with
    | none => exact okN_default
    | some m => exact findM_ok (validM_ok h) e
  have h3 : filterM f = true → okN f.value := fun h => by simp only [filterM, Bool.and_eq_true] at h; exact validM_ok h.2
  have h4 := fun m (e : findM n f.path = some m) => (show matchesM n f = testM f.test m f.value by unfold matchesM; rw [e])
  conv => whnf
  repeat' first
    | (refine Cnd.mk (fun h => ?_) (fun h => ?_) <;> (try simp [nd_eta, sh_eta, it_eta, sto_eta, op_eta, ch_eta, nw_eta, fl_eta, rq_eta, rs_eta, elDef, -List.getD_eq_getElem?_getD] at h) <;> conv => whnf)
    | (refine Obl.mk (by first | omega | rfl | exact inK_byte _ | (simp only [inK, Int.toNat_natCast, nd_eta, sh_eta, it_eta, sto_eta, op_eta, ch_eta, nw_eta, fl_eta, rq_eta, rs_eta, elDef, o59, m59] <;> first | omega | grind) | grind [inK, o59, m59]) ?_ <;> conv => whnf)
    | (refine OblG.mk (by conv => whnf
                          repeat (first | (refine Bx.mk ?_) | (intro h; (try simp [nd_eta, sh_eta, it_eta, sto_eta, op_eta, ch_eta, nw_eta, fl_eta, rq_eta, rs_eta, elDef, -List.getD_eq_getElem?_getD] at h); conv => whnf))
                          first | omega | rfl | exact inK_byte _ | (simp only [inK, Int.toNat_natCast, nd_eta, sh_eta, it_eta, sto_eta, op_eta, ch_eta, nw_eta, fl_eta, rq_eta, rs_eta, elDef, o59, m59] <;> first | omega | grind) | grind [inK, o59, m59]) ?_ <;> conv => whnf)
    | (refine Gd.mk (fun h => ?_) <;> (try simp [nd_eta, sh_eta, it_eta, sto_eta, op_eta, ch_eta, nw_eta, fl_eta, rq_eta, rs_eta, elDef, -List.getD_eq_getElem?_getD] at h) <;> conv => whnf)
    | (refine And.intro ?_ ?_ <;> conv => whnf)
    | exact True.intro
    | (intro; conv => whnf)
  · exact leafB hK (by simp only [matchM]; grind)
  · exact leafB hK (by simp only [matchM, matchesM]; rw [h]; simp)
  all_goals
    obtain ⟨m, hm⟩ := Option.isSome_iff_exists.1 (by assumption)
    refine leafB hK ?_
    simp only [matchM, h4 _ hm, hm, testM, Option.getD_some, nd_eta]
    first | done | grind
theorem s38 : (CtrOK Tryd.prog 38 (.pure F38) ∧ Callable Tryd.prog 38) := by
  refine pure_ok (E := E38) (mkE_cons s17 (mkE_cons s37 (mkE_cons s58 (mkE_cons s59 (mkE_nil tab_ok))))) mix (O := O38) (F := F38) Tryd.func38 rfl (by rfl) (by kernel_rfl) (fun args o v h => ?_) (fun args o v h => ?_) (fun args o v h hbd hp K hK => ?_)
  · unfold F38 at h; split at h <;> cases h; first | trivial | (simp [v38, Scalar, Scalar2, Scalar1, stC, ndC, itC, chC, nwC])
  · unfold F38 at h; split at h <;> cases h; exact Nat.le_of_ble_eq_true rfl
  · unfold F38 at h; split at h
    case h_2 => cases h
    cases h
    exact a38 ⟨_, _, _, _, _⟩ ⟨_, _, ⟨_, _, _, _, _⟩⟩ (by exact hbd) trivial K hK
noncomputable def v29 (n : Nd) (f : Flt) : AV := .bool (matchesM n f)
noncomputable def o29 (n : Nd) (f : Flt) : Prop := okN n ∧ okN f.value
noncomputable def F29 : List AV → QR
  | [.st [.int .i64 n_0, .int .i64 n_1, .str n_2, .ps .str n_3, .ps .node n_4], .st [.ps .str f_0, .int .i64 f_1, .int .i64 f_2_0, .int .i64 f_2_1, .str f_2_2, .ps .str f_2_3, .ps .node f_2_4]] => some (some (o29 ⟨n_0, n_1, n_2, n_3, n_4⟩ ⟨f_0, f_1, ⟨f_2_0, f_2_1, f_2_2, f_2_3, f_2_4⟩⟩), v29 ⟨n_0, n_1, n_2, n_3, n_4⟩ ⟨f_0, f_1, ⟨f_2_0, f_2_1, f_2_2, f_2_3, f_2_4⟩⟩)
  | _ => none
noncomputable def E29 : Ctx := mkE tab [(43, .gen .ps C43), (44, .pure F44), (45, .pure F45)]
noncomputable def O29 : Nat → List DI := ordL []
theorem a29 (n : Nd) (f : Flt) (hb : BdAs [.st (ndC n), .st (flC f)]) (ho : o29 n f) (K : AV → List AV → Prop) (hK : K (v29 n f) []) : abody E29 O29 .ps Tryd.f29 (Tryd.f29.body.getD .skip) [.st (ndC n), .st (flC f)] K := by
  simp only [BdAs, BdA, BdL, BdC, MX, ndC, shC, itC, stC, opC, chC, nwC, flC, rqC, rsC, enc, List.cons_append, List.nil_append, and_true, true_and] at hb
  unfold o29 at ho
  unfold v29 at hK
  obtain ⟨ho, ho2⟩ := ho
  have h2 : okN ((findM n f.path).getD default) := by
    cases e : findM n f.path with
    | none => exact okN_default
    | some m => exact findM_ok ho e
  conv => whnf
  repeat' first
    | (refine Cnd.mk (fun h => ?_) (fun h => ?_) <;> (try simp [nd_eta, sh_eta, it_eta, sto_eta, op_eta, ch_eta, nw_eta, fl_eta, rq_eta, rs_eta, elDef, -List.getD_eq_getElem?_getD] at h) <;> conv => whnf)
    | (refine Obl.mk (by first | omega | rfl | exact inK_byte _ | (simp only [inK, Int.toNat_natCast, nd_eta, sh_eta, it_eta, sto_eta, op_eta, ch_eta, nw_eta, fl_eta, rq_eta, rs_eta, elDef, o44, o45, m45] <;> first | omega | grind) | grind [inK, o44, o45, m45]) ?_ <;> conv => whnf)
    | (refine OblG.mk (by conv => whnf
                          repeat (first | (refine Bx.mk ?_) | (intro h; (try simp [nd_eta, sh_eta, it_eta, sto_eta, op_eta, ch_eta, nw_eta, fl_eta, rq_eta, rs_eta, elDef, -List.getD_eq_getElem?_getD] at h); conv => whnf))
                          first | omega | rfl | exact inK_byte _ | (simp only [inK, Int.toNat_natCast, nd_eta, sh_eta, it_eta, sto_eta, op_eta, ch_eta, nw_eta, fl_eta, rq_eta, rs_eta, elDef, o44, o45, m45] <;> first | omega | grind) | grind [inK, o44, o45, m45]) ?_ <;> conv => whnf)
    | (refine Gd.mk (fun h => ?_) <;> (try simp [nd_eta, sh_eta, it_eta, sto_eta, op_eta, ch_eta, nw_eta, fl_eta, rq_eta, rs_eta, elDef, -List.getD_eq_getElem?_getD] at h) <;> conv => whnf)
    | (refine And.intro ?_ ?_ <;> conv => whnf)
    | exact True.intro
    | (intro; conv => whnf)
  · exact leafB hK (by simp only [matchesM]; rw [h])
  all_goals
    obtain ⟨m, hm⟩ := Option.isSome_iff_exists.1 (by assumption)
    refine leafB hK ?_
    simp only [matchesM, hm, testM, Option.getD_some, nd_eta]
    first | done | grind
theorem s29 : (CtrOK Tryd.prog 29 (.pure F29) ∧ Callable Tryd.prog 29) := by
  refine pure_ok (E := E29) (mkE_cons s43 (mkE_cons s44 (mkE_cons s45 (mkE_nil tab_ok)))) mix (O := O29) (F := F29) Tryd.func29 rfl (by rfl) (by kernel_rfl) (fun args o v h => ?_) (fun args o v h => ?_) (fun args o v h hbd hp K hK => ?_)
  · unfold F29 at h; split at h <;> cases h; first | trivial | (simp [v29, Scalar, Scalar2, Scalar1, stC, ndC, itC, chC, nwC])
  · unfold F29 at h; split at h <;> cases h; exact Nat.le_of_ble_eq_true rfl
  · unfold F29 at h; split at h
    case h_2 => cases h
    cases h
    exact a29 ⟨_, _, _, _, _⟩ ⟨_, _, ⟨_, _, _, _, _⟩⟩ (by exact hbd) (hp _ rfl) K hK
end Go.Rs

