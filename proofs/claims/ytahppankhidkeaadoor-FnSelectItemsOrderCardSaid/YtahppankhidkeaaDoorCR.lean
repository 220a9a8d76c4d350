import Derived.Test.YtahppankhidkeaaDoorCQ
set_option linter.all false
namespace Go.Rs
open Go.Proofs
set_option maxRecDepth 100000
set_option linter.unusedVariables false
set_option linter.unusedSimpArgs false
noncomputable def c63 (n : Nd) (K : AV → List AV → Prop) : Prop :=
    ∀ l : List (List Bs), l.length ≤ 20000 → K (.ps .strs l) []
noncomputable def C63 : List AV → (AV → List AV → Prop) → Prop
  | [.st [.int .i64 n_0, .int .i64 n_1, .str n_2, .ps .str n_3, .ps .node n_4]], K => c63 ⟨n_0, n_1, n_2, n_3, n_4⟩ K
  | _, _ => False
noncomputable def E63 : Ctx := mkE tab [(26, .pure F26), (81, .gen .ps C81)]
noncomputable def O63 : Nat → List DI := ordL []
theorem a63 (n : Nd) (hb : BdAs [.st (ndC n)]) (K : AV → List AV → Prop) (h : c63 n K) : abody E63 O63 .ps Tryd.f63 (Tryd.f63.body.getD .skip) [.st (ndC n)] K := by
  simp only [BdAs, BdA, BdL, BdC, MX, ndC, shC, itC, stC, opC, chC, nwC, flC, rqC, rsC, enc, List.cons_append, List.nil_append, and_true, true_and] at hb
  unfold c63 at h
  have hK := h
  have h1 := fun h => validM_ok (n := n) h
  have h2 := fun h : validM n = true => okN_count (validM_ok h)
  conv => whnf
  repeat' first
    | (refine Cnd.mk (fun h => ?_) (fun h => ?_) <;> (try simp [nd_eta, sh_eta, it_eta, sto_eta, op_eta, ch_eta, nw_eta, fl_eta, rq_eta, rs_eta, elDef, -List.getD_eq_getElem?_getD] at h) <;> conv => whnf)
    | (refine Obl.mk (by first | omega | rfl | exact inK_byte _ | (simp only [inK, Int.toNat_natCast, nd_eta, sh_eta, it_eta, sto_eta, op_eta, ch_eta, nw_eta, fl_eta, rq_eta, rs_eta, elDef, m81] <;> first | omega | grind) | grind [inK, m81]) ?_ <;> conv => whnf)
    | (refine OblG.mk (by conv => whnf
                          repeat (first | (refine Bx.mk ?_) | (intro h; (try simp [nd_eta, sh_eta, it_eta, sto_eta, op_eta, ch_eta, nw_eta, fl_eta, rq_eta, rs_eta, elDef, -List.getD_eq_getElem?_getD] at h); conv => whnf))
                          first | omega | rfl | exact inK_byte _ | (simp only [inK, Int.toNat_natCast, nd_eta, sh_eta, it_eta, sto_eta, op_eta, ch_eta, nw_eta, fl_eta, rq_eta, rs_eta, elDef, m81] <;> first | omega | grind) | grind [inK, m81]) ?_ <;> conv => whnf)
    | (refine Gd.mk (fun h => ?_) <;> (try simp [nd_eta, sh_eta, it_eta, sto_eta, op_eta, ch_eta, nw_eta, fl_eta, rq_eta, rs_eta, elDef, -List.getD_eq_getElem?_getD] at h) <;> conv => whnf)
    | (refine And.intro ?_ ?_ <;> conv => whnf)
    | exact True.intro
    | (intro; conv => whnf)
  · exact hK [] (by simp)
  · rename_i l hl hx
    simp only [nd_eta] at hl
    have h3 := h2 (by assumption)
    exact hK l (by omega)
theorem s63 : (CtrOK Tryd.prog 63 (.gen .ps C63) ∧ Callable Tryd.prog 63) := by
  refine gen_ok (E := E63) (mkE_cons s26 (mkE_cons s81 (mkE_nil tab_ok))) mix (O := O63) (C := C63) (own := .ps) Tryd.func63 rfl (by rfl) (by kernel_rfl) (fun args K h hbd => ?_)
  unfold C63 at h; split at h
  case h_2 => exact h.elim
  exact ⟨Nat.le_of_ble_eq_true rfl, a63 ⟨_, _, _, _, _⟩ (by exact hbd) _ h⟩
noncomputable def c64 (code : List Int) (p : Int) (K : AV → List AV → Prop) : Prop :=
    Obl ((0 ≤ p ∧ p ≤ 100000000) ∧ byOk code) (∀ (l : List Bs) (p' : Int), p ≤ p' ∧ p' ≤ p + 20 → K (.ps .str l) [.ref [.ps .u8 code, .int .i64 p']])
noncomputable def C64 : List AV → (AV → List AV → Prop) → Prop
  | [.ref [.ps .u8 code, .int .i64 p]], K => c64 code p K
  | _, _ => False
noncomputable def E64 : Ctx := mkE tab [(39, .gen .ps C39), (40, .gen .ps C40), (82, .gen .ps C82)]
noncomputable def O64 : Nat → List DI := ordL []
theorem a64 (code : List Int) (p : Int) (hb : BdAs [.ref [.ps .u8 code, .int .i64 p]]) (K : AV → List AV → Prop) (h : c64 code p K) : abody E64 O64 .ps Tryd.f64 (Tryd.f64.body.getD .skip) [.ref [.ps .u8 code, .int .i64 p]] K := by
  simp only [BdAs, BdA, BdL, BdC, MX, ndC, shC, itC, stC, opC, chC, nwC, flC, rqC, rsC, enc, List.cons_append, List.nil_append, and_true, true_and] at hb
  unfold c64 at h
  obtain ⟨⟨hp, ho⟩, hK⟩ := h
  conv => whnf
  repeat' first
    | (refine Cnd.mk (fun h => ?_) (fun h => ?_) <;> (try simp [nd_eta, sh_eta, it_eta, sto_eta, op_eta, ch_eta, nw_eta, fl_eta, rq_eta, rs_eta, elDef, -List.getD_eq_getElem?_getD] at h) <;> conv => whnf)
    | (refine Obl.mk (by first | omega | rfl | exact inK_byte _ | (simp only [inK, Int.toNat_natCast, nd_eta, sh_eta, it_eta, sto_eta, op_eta, ch_eta, nw_eta, fl_eta, rq_eta, rs_eta, elDef] <;> first | omega | grind) | grind [inK]) ?_ <;> conv => whnf)
    | (refine OblG.mk (by conv => whnf
                          repeat (first | (refine Bx.mk ?_) | (intro h; (try simp [nd_eta, sh_eta, it_eta, sto_eta, op_eta, ch_eta, nw_eta, fl_eta, rq_eta, rs_eta, elDef, -List.getD_eq_getElem?_getD] at h); conv => whnf))
                          first | omega | rfl | exact inK_byte _ | (simp only [inK, Int.toNat_natCast, nd_eta, sh_eta, it_eta, sto_eta, op_eta, ch_eta, nw_eta, fl_eta, rq_eta, rs_eta, elDef] <;> first | omega | grind) | grind [inK]) ?_ <;> conv => whnf)
    | (refine Gd.mk (fun h => ?_) <;> (try simp [nd_eta, sh_eta, it_eta, sto_eta, op_eta, ch_eta, nw_eta, fl_eta, rq_eta, rs_eta, elDef, -List.getD_eq_getElem?_getD] at h) <;> conv => whnf)
    | (refine And.intro ?_ ?_ <;> conv => whnf)
    | exact True.intro
    | (intro; conv => whnf)
  rename_i r hr
  have hr0 : 0 ≤ r ∧ r ≤ 6 := by simp at hr; omega
  refine aloop_intro (Int × Int × List Bs) (fun ⟨c, q, l⟩ => (0 ≤ c ∧ l.length + c ≤ 6) ∧ p ≤ q ∧ q + c ≤ p + 8) (fun ⟨c, q, l⟩ => c.toNat) (fun ⟨c, q, l⟩ => [(4, .int .i64 c), (3, .ls 900)]) (fun ⟨c, q, l⟩ => [(900, .arr .str l), (1000000, .box [.ps .u8 code, .int .i64 q])]) [] (r, p + 1, []) [(900, 5)] [] ?_ ?_ (by exact sgOk_of (by rfl)) ?_
  · first | (simp; done) | (simp; assumption) | (simp only; grind)
  · (conv => whnf); (repeat' (first | exact trivial | rfl | (refine nilEq ?_; first | rfl | (simp only [*]; done) | (simp [*]; done) | grind) | apply And.intro | ((first | refine intEq ?_ | refine boolEq ?_ | refine strEq ?_ | refine psEq ?_ | refine nilEq ?_ | refine arrEq ?_); (try simp only [Int.toNat_natCast, nd_eta, sh_eta, it_eta, sto_eta, op_eta, ch_eta, nw_eta, fl_eta, rq_eta, rs_eta, elDef]); first | done | omega | grind | (simp only [*]; done) | (simp [*]; done)))); (all_goals (conv => whnf)); (repeat' (first | exact trivial | rfl | (refine nilEq ?_; first | rfl | (simp only [*]; done) | (simp [*]; done) | grind) | apply And.intro | ((first | refine intEq ?_ | refine boolEq ?_ | refine strEq ?_ | refine psEq ?_ | refine nilEq ?_ | refine arrEq ?_); (try simp only [Int.toNat_natCast, nd_eta, sh_eta, it_eta, sto_eta, op_eta, ch_eta, nw_eta, fl_eta, rq_eta, rs_eta, elDef]); first | done | omega | grind | (simp only [*]; done) | (simp [*]; done)) | ((try simp only [Int.toNat_natCast, nd_eta, sh_eta, it_eta, sto_eta, op_eta, ch_eta, nw_eta, fl_eta, rq_eta, rs_eta, elDef]); first | done | omega | grind | (simp only [*]; done) | (simp [*]; done))))
  rintro ⟨c, q, l⟩ hinv
  dsimp only at hinv
  conv => whnf
  obtain ⟨hi1, hi2, hi3⟩ := hinv
  repeat' first
    | (refine Cnd.mk (fun h => ?_) (fun h => ?_) <;> (try simp [nd_eta, sh_eta, it_eta, sto_eta, op_eta, ch_eta, nw_eta, fl_eta, rq_eta, rs_eta, elDef, -List.getD_eq_getElem?_getD] at h) <;> conv => whnf)
    | (refine Obl.mk (by first | omega | rfl | exact inK_byte _ | (simp only [inK, Int.toNat_natCast, nd_eta, sh_eta, it_eta, sto_eta, op_eta, ch_eta, nw_eta, fl_eta, rq_eta, rs_eta, elDef] <;> first | omega | grind) | grind [inK]) ?_ <;> conv => whnf)
    | (refine OblG.mk (by conv => whnf
                          repeat (first | (refine Bx.mk ?_) | (intro h; (try simp [nd_eta, sh_eta, it_eta, sto_eta, op_eta, ch_eta, nw_eta, fl_eta, rq_eta, rs_eta, elDef, -List.getD_eq_getElem?_getD] at h); conv => whnf))
                          first | omega | rfl | exact inK_byte _ | (simp only [inK, Int.toNat_natCast, nd_eta, sh_eta, it_eta, sto_eta, op_eta, ch_eta, nw_eta, fl_eta, rq_eta, rs_eta, elDef] <;> first | omega | grind) | grind [inK]) ?_ <;> conv => whnf)
    | (refine Gd.mk (fun h => ?_) <;> (try simp [nd_eta, sh_eta, it_eta, sto_eta, op_eta, ch_eta, nw_eta, fl_eta, rq_eta, rs_eta, elDef, -List.getD_eq_getElem?_getD] at h) <;> conv => whnf)
    | (refine And.intro ?_ ?_ <;> conv => whnf)
    | exact True.intro
    | (intro; conv => whnf)
  · rename_i rr hrr
    exact ⟨(c - 1, q + 1, l ++ [rr]), [(900, 18)], [], ⟨by simp; omega, by omega, by omega⟩, by show (c - 1).toNat < c.toNat; omega, by (conv => whnf); (repeat' (first | exact trivial | rfl | (refine nilEq ?_; first | rfl | (simp only [*]; done) | (simp [*]; done) | grind) | apply And.intro | ((first | refine intEq ?_ | refine boolEq ?_ | refine strEq ?_ | refine psEq ?_ | refine nilEq ?_ | refine arrEq ?_); (try simp only [Int.toNat_natCast, nd_eta, sh_eta, it_eta, sto_eta, op_eta, ch_eta, nw_eta, fl_eta, rq_eta, rs_eta, elDef]); first | done | omega | grind | (simp only [*]; done) | (simp [*]; done)))); (all_goals (conv => whnf)); (repeat' (first | exact trivial | rfl | (refine nilEq ?_; first | rfl | (simp only [*]; done) | (simp [*]; done) | grind) | apply And.intro | ((first | refine intEq ?_ | refine boolEq ?_ | refine strEq ?_ | refine psEq ?_ | refine nilEq ?_ | refine arrEq ?_); (try simp only [Int.toNat_natCast, nd_eta, sh_eta, it_eta, sto_eta, op_eta, ch_eta, nw_eta, fl_eta, rq_eta, rs_eta, elDef]); first | done | omega | grind | (simp only [*]; done) | (simp [*]; done)) | ((try simp only [Int.toNat_natCast, nd_eta, sh_eta, it_eta, sto_eta, op_eta, ch_eta, nw_eta, fl_eta, rq_eta, rs_eta, elDef]); first | done | omega | grind | (simp only [*]; done) | (simp [*]; done)))), (by exact sgOk_of (by rfl))⟩
  all_goals exact hK _ _ (by omega)
theorem s64 : (CtrOK Tryd.prog 64 (.gen .ps C64) ∧ Callable Tryd.prog 64) := by
  refine gen_ok (E := E64) (mkE_cons s39 (mkE_cons s40 (mkE_cons s82 (mkE_nil tab_ok)))) mix (O := O64) (C := C64) (own := .ps) Tryd.func64 rfl (by rfl) (by kernel_rfl) (fun args K h hbd => ?_)
  unfold C64 at h; split at h
  case h_2 => exact h.elim
  exact ⟨Nat.le_of_ble_eq_true rfl, a64 _ _ (by exact hbd) _ h⟩
noncomputable def c42 (code : List Int) (p : Int) (n : Nd) (K : AV → List AV → Prop) : Prop :=
    Obl ((0 ≤ p ∧ p ≤ 50000000) ∧ byOk code) (∀ (l : List Bs) (p' : Int), p ≤ p' ∧ p' ≤ p + 30 → K (.ps .str l) [.ref [.ps .u8 code, .int .i64 p']])
noncomputable def C42 : List AV → (AV → List AV → Prop) → Prop
  | [.ref [.ps .u8 code, .int .i64 p], .st [.int .i64 n_0, .int .i64 n_1, .str n_2, .ps .str n_3, .ps .node n_4]], K => c42 code p ⟨n_0, n_1, n_2, n_3, n_4⟩ K
  | _, _ => False
noncomputable def E42 : Ctx := mkE tab [(39, .gen .ps C39), (63, .gen .ps C63), (64, .gen .ps C64)]
noncomputable def O42 : Nat → List DI := ordL []
theorem a42 (code : List Int) (p : Int) (n : Nd) (hb : BdAs [.ref [.ps .u8 code, .int .i64 p], .st (ndC n)]) (K : AV → List AV → Prop) (h : c42 code p n K) : abody E42 O42 .ps Tryd.f42 (Tryd.f42.body.getD .skip) [.ref [.ps .u8 code, .int .i64 p], .st (ndC n)] K := by
  simp only [BdAs, BdA, BdL, BdC, MX, ndC, shC, itC, stC, opC, chC, nwC, flC, rqC, rsC, enc, List.cons_append, List.nil_append, and_true, true_and] at hb
  unfold c42 at h
  obtain ⟨⟨hp, ho⟩, hK⟩ := h
  conv => whnf
  repeat' first
    | (refine Cnd.mk (fun h => ?_) (fun h => ?_) <;> (try simp [nd_eta, sh_eta, it_eta, sto_eta, op_eta, ch_eta, nw_eta, fl_eta, rq_eta, rs_eta, elDef, -List.getD_eq_getElem?_getD] at h) <;> conv => whnf)
    | (refine Obl.mk (by first | omega | rfl | exact inK_byte _ | (simp only [inK, Int.toNat_natCast, nd_eta, sh_eta, it_eta, sto_eta, op_eta, ch_eta, nw_eta, fl_eta, rq_eta, rs_eta, elDef] <;> first | omega | grind) | grind [inK]) ?_ <;> conv => whnf)
    | (refine OblG.mk (by conv => whnf
                          repeat (first | (refine Bx.mk ?_) | (intro h; (try simp [nd_eta, sh_eta, it_eta, sto_eta, op_eta, ch_eta, nw_eta, fl_eta, rq_eta, rs_eta, elDef, -List.getD_eq_getElem?_getD] at h); conv => whnf))
                          first | omega | rfl | exact inK_byte _ | (simp only [inK, Int.toNat_natCast, nd_eta, sh_eta, it_eta, sto_eta, op_eta, ch_eta, nw_eta, fl_eta, rq_eta, rs_eta, elDef] <;> first | omega | grind) | grind [inK]) ?_ <;> conv => whnf)
    | (refine Gd.mk (fun h => ?_) <;> (try simp [nd_eta, sh_eta, it_eta, sto_eta, op_eta, ch_eta, nw_eta, fl_eta, rq_eta, rs_eta, elDef, -List.getD_eq_getElem?_getD] at h) <;> conv => whnf)
    | (refine And.intro ?_ ?_ <;> conv => whnf)
    | exact True.intro
    | (intro; conv => whnf)
  all_goals exact hK _ _ (by omega)
theorem s42 : (CtrOK Tryd.prog 42 (.gen .ps C42) ∧ Callable Tryd.prog 42) := by
  refine gen_ok (E := E42) (mkE_cons s39 (mkE_cons s63 (mkE_cons s64 (mkE_nil tab_ok)))) mix (O := O42) (C := C42) (own := .ps) Tryd.func42 rfl (by rfl) (by kernel_rfl) (fun args K h hbd => ?_)
  unfold C42 at h; split at h
  case h_2 => exact h.elim
  exact ⟨Nat.le_of_ble_eq_true rfl, a42 _ _ ⟨_, _, _, _, _⟩ (by exact hbd) _ h⟩
noncomputable def c22 (code : List Int) (p : Int) (n : Nd) (K : AV → List AV → Prop) : Prop :=
    Obl ((0 ≤ p ∧ p ≤ 9000000) ∧ byOk code) (∀ (f : Flt) (p' : Int), p ≤ p' ∧ p' ≤ p + 5000 → K (.st (flC f)) [.ref [.ps .u8 code, .int .i64 p']])
noncomputable def C22 : List AV → (AV → List AV → Prop) → Prop
  | [.ref [.ps .u8 code, .int .i64 p], .st [.int .i64 n_0, .int .i64 n_1, .str n_2, .ps .str n_3, .ps .node n_4]], K => c22 code p ⟨n_0, n_1, n_2, n_3, n_4⟩ K
  | _, _ => False
noncomputable def E22 : Ctx := mkE tab [(21, .gen .ps C21), (39, .gen .ps C39), (40, .gen .ps C40), (42, .gen .ps C42), (43, .gen .ps C43), (44, .gen .ow C44)]
noncomputable def O22 : Nat → List DI := ordL []
theorem a22 (code : List Int) (p : Int) (n : Nd) (hb : BdAs [.ref [.ps .u8 code, .int .i64 p], .st (ndC n)]) (K : AV → List AV → Prop) (h : c22 code p n K) : abody E22 O22 .ps Tryd.f22 (Tryd.f22.body.getD .skip) [.ref [.ps .u8 code, .int .i64 p], .st (ndC n)] K := by
  simp only [BdAs, BdA, BdL, BdC, MX, ndC, shC, itC, stC, opC, chC, nwC, flC, rqC, rsC, enc, List.cons_append, List.nil_append, and_true, true_and] at hb
  unfold c22 at h
  obtain ⟨⟨hp, ho⟩, hK⟩ := h
  have hc := (cost_facts 2).2.2
  conv => whnf
  repeat' first
    | (refine Cnd.mk (fun h => ?_) (fun h => ?_) <;> (try simp [nd_eta, sh_eta, it_eta, sto_eta, op_eta, ch_eta, nw_eta, fl_eta, rq_eta, rs_eta, elDef, -List.getD_eq_getElem?_getD] at h) <;> conv => whnf)
    | (refine Obl.mk (by first | omega | rfl | exact inK_byte _ | (simp only [inK, Int.toNat_natCast, nd_eta, sh_eta, it_eta, sto_eta, op_eta, ch_eta, nw_eta, fl_eta, rq_eta, rs_eta, elDef, m44] <;> first | omega | grind) | grind [inK, m44]) ?_ <;> conv => whnf)
    | (refine OblG.mk (by conv => whnf
                          repeat (first | (refine Bx.mk ?_) | (intro h; (try simp [nd_eta, sh_eta, it_eta, sto_eta, op_eta, ch_eta, nw_eta, fl_eta, rq_eta, rs_eta, elDef, -List.getD_eq_getElem?_getD] at h); conv => whnf))
                          first | omega | rfl | exact inK_byte _ | (simp only [inK, Int.toNat_natCast, nd_eta, sh_eta, it_eta, sto_eta, op_eta, ch_eta, nw_eta, fl_eta, rq_eta, rs_eta, elDef, m44] <;> first | omega | grind) | grind [inK, m44]) ?_ <;> conv => whnf)
    | (refine Gd.mk (fun h => ?_) <;> (try simp [nd_eta, sh_eta, it_eta, sto_eta, op_eta, ch_eta, nw_eta, fl_eta, rq_eta, rs_eta, elDef, -List.getD_eq_getElem?_getD] at h) <;> conv => whnf)
    | (refine And.intro ?_ ?_ <;> conv => whnf)
    | exact True.intro
    | (intro; conv => whnf)
  all_goals exact hK ⟨_, _, ⟨_, _, _, _, _⟩⟩ _ (by omega)
theorem s22 : (CtrOK Tryd.prog 22 (.gen .ps C22) ∧ Callable Tryd.prog 22) := by
  refine gen_ok (E := E22) (mkE_cons s21 (mkE_cons s39 (mkE_cons s40 (mkE_cons s42 (mkE_cons s43 (mkE_cons s44 (mkE_nil tab_ok))))))) mix (O := O22) (C := C22) (own := .ps) Tryd.func22 rfl (by rfl) (by kernel_rfl) (fun args K h hbd => ?_)
  unfold C22 at h; split at h
  case h_2 => exact h.elim
  exact ⟨Nat.le_of_ble_eq_true rfl, a22 _ _ ⟨_, _, _, _, _⟩ (by exact hbd) _ h⟩
noncomputable def c9 (code : List Int) (K : AV → List AV → Prop) : Prop :=
    Obl (byOk code) (∀ (n : Nd) (f : Flt), K (.tup [.st (ndC n), .st (flC f)]) [])
noncomputable def C9 : List AV → (AV → List AV → Prop) → Prop
  | [.ps .u8 code], K => c9 code K
  | _, _ => False
noncomputable def E9 : Ctx := mkE tab [(20, .gen .ow C20), (21, .gen .ps C21), (22, .gen .ps C22)]
noncomputable def O9 : Nat → List DI := ordL [(3, [.q 0, .q 1, .q 2, .l 3 [0], .l 4 [], .l 5 []])]
theorem a9 (code : List Int) (hb : BdAs [.ps .u8 code]) (K : AV → List AV → Prop) (h : c9 code K) : abody E9 O9 .ps Tryd.f9 (Tryd.f9.body.getD .skip) [.ps .u8 code] K := by
  simp only [BdAs, BdA, BdL, BdC, MX, ndC, shC, itC, stC, opC, chC, nwC, flC, rqC, rsC, enc, List.cons_append, List.nil_append, and_true, true_and] at hb
  unfold c9 at h
  obtain ⟨ho, hK⟩ := h
  conv => whnf
  repeat' first
    | (refine Cnd.mk (fun h => ?_) (fun h => ?_) <;> (try simp [nd_eta, sh_eta, it_eta, sto_eta, op_eta, ch_eta, nw_eta, fl_eta, rq_eta, rs_eta, elDef, -List.getD_eq_getElem?_getD] at h) <;> conv => whnf)
    | (refine Obl.mk (by first | omega | rfl | exact inK_byte _ | (simp only [inK, Int.toNat_natCast, nd_eta, sh_eta, it_eta, sto_eta, op_eta, ch_eta, nw_eta, fl_eta, rq_eta, rs_eta, elDef] <;> first | omega | grind) | grind [inK]) ?_ <;> conv => whnf)
    | (refine OblG.mk (by conv => whnf
                          repeat (first | (refine Bx.mk ?_) | (intro h; (try simp [nd_eta, sh_eta, it_eta, sto_eta, op_eta, ch_eta, nw_eta, fl_eta, rq_eta, rs_eta, elDef, -List.getD_eq_getElem?_getD] at h); conv => whnf))
                          first | omega | rfl | exact inK_byte _ | (simp only [inK, Int.toNat_natCast, nd_eta, sh_eta, it_eta, sto_eta, op_eta, ch_eta, nw_eta, fl_eta, rq_eta, rs_eta, elDef] <;> first | omega | grind) | grind [inK]) ?_ <;> conv => whnf)
    | (refine Gd.mk (fun h => ?_) <;> (try simp [nd_eta, sh_eta, it_eta, sto_eta, op_eta, ch_eta, nw_eta, fl_eta, rq_eta, rs_eta, elDef, -List.getD_eq_getElem?_getD] at h) <;> conv => whnf)
    | (refine And.intro ?_ ?_ <;> conv => whnf)
    | exact True.intro
    | (intro; conv => whnf)
  all_goals exact hK ⟨_, _, _, _, _⟩ ⟨_, _, ⟨_, _, _, _, _⟩⟩
theorem s9 : (CtrOK Tryd.prog 9 (.gen .ps C9) ∧ Callable Tryd.prog 9) := by
  refine gen_ok (E := E9) (mkE_cons s20 (mkE_cons s21 (mkE_cons s22 (mkE_nil tab_ok)))) mix (O := O9) (C := C9) (own := .ps) Tryd.func9 rfl (by rfl) (by kernel_rfl) (fun args K h hbd => ?_)
  unfold C9 at h; split at h
  case h_2 => exact h.elim
  exact ⟨Nat.le_of_ble_eq_true rfl, a9 _ (by exact hbd) _ h⟩
noncomputable def v23 (f : Flt) : AV := .bool (filterM f)
noncomputable def o23 (f : Flt) : Prop := True
noncomputable def F23 : List AV → QR
  | [.st [.ps .str f_0, .int .i64 f_1, .int .i64 f_2_0, .int .i64 f_2_1, .str f_2_2, .ps .str f_2_3, .ps .node f_2_4]] => some (none, v23 ⟨f_0, f_1, ⟨f_2_0, f_2_1, f_2_2, f_2_3, f_2_4⟩⟩)
  | _ => none
noncomputable def E23 : Ctx := mkE tab [(12, .pure F12), (30, .pure F30)]
noncomputable def O23 : Nat → List DI := ordL []
theorem a23 (f : Flt) (hb : BdAs [.st (flC f)]) (ho : o23 f) (K : AV → List AV → Prop) (hK : K (v23 f) []) : abody E23 O23 .ps Tryd.f23 (Tryd.f23.body.getD .skip) [.st (flC f)] K := by
  simp only [BdAs, BdA, BdL, BdC, MX, ndC, shC, itC, stC, opC, chC, nwC, flC, rqC, rsC, enc, List.cons_append, List.nil_append, and_true, true_and] at hb
  unfold v23 at hK
  conv => whnf
  repeat' first
    | (refine Cnd.mk (fun h => ?_) (fun h => ?_) <;> (try simp [nd_eta, sh_eta, it_eta, sto_eta, op_eta, ch_eta, nw_eta, fl_eta, rq_eta, rs_eta, elDef, -List.getD_eq_getElem?_getD] at h) <;> conv => whnf)
    | (refine Obl.mk (by first | omega | rfl | exact inK_byte _ | (simp only [inK, Int.toNat_natCast, nd_eta, sh_eta, it_eta, sto_eta, op_eta, ch_eta, nw_eta, fl_eta, rq_eta, rs_eta, elDef] <;> first | omega | grind) | grind [inK]) ?_ <;> conv => whnf)
    | (refine OblG.mk (by conv => whnf
                          repeat (first | (refine Bx.mk ?_) | (intro h; (try simp [nd_eta, sh_eta, it_eta, sto_eta, op_eta, ch_eta, nw_eta, fl_eta, rq_eta, rs_eta, elDef, -List.getD_eq_getElem?_getD] at h); conv => whnf))
                          first | omega | rfl | exact inK_byte _ | (simp only [inK, Int.toNat_natCast, nd_eta, sh_eta, it_eta, sto_eta, op_eta, ch_eta, nw_eta, fl_eta, rq_eta, rs_eta, elDef] <;> first | omega | grind) | grind [inK]) ?_ <;> conv => whnf)
    | (refine Gd.mk (fun h => ?_) <;> (try simp [nd_eta, sh_eta, it_eta, sto_eta, op_eta, ch_eta, nw_eta, fl_eta, rq_eta, rs_eta, elDef, -List.getD_eq_getElem?_getD] at h) <;> conv => whnf)
    | (refine And.intro ?_ ?_ <;> conv => whnf)
    | exact True.intro
    | (intro; conv => whnf)
  all_goals exact leafB hK (by simp only [filterM, nd_eta]; grind)
theorem s23 : (CtrOK Tryd.prog 23 (.pure F23) ∧ Callable Tryd.prog 23) := by
  refine pure_ok (E := E23) (mkE_cons s12 (mkE_cons s30 (mkE_nil tab_ok))) mix (O := O23) (F := F23) Tryd.func23 rfl (by rfl) (by kernel_rfl) (fun args o v h => ?_) (fun args o v h => ?_) (fun args o v h hbd hp K hK => ?_)
  · unfold F23 at h; split at h <;> cases h; first | trivial | (simp [v23, Scalar, Scalar1])
  · unfold F23 at h; split at h <;> cases h; exact Nat.le_of_ble_eq_true rfl
  · unfold F23 at h; split at h
    case h_2 => cases h
    cases h
    exact a23 ⟨_, _, ⟨_, _, _, _, _⟩⟩ (by exact hbd) trivial K hK
noncomputable def v27 (f : Flt) : AV := .bool (filterM f)
noncomputable def o27 (f : Flt) : Prop := True
noncomputable def F27 : List AV → QR
  | [.st [.ps .str f_0, .int .i64 f_1, .int .i64 f_2_0, .int .i64 f_2_1, .str f_2_2, .ps .str f_2_3, .ps .node f_2_4]] => some (none, v27 ⟨f_0, f_1, ⟨f_2_0, f_2_1, f_2_2, f_2_3, f_2_4⟩⟩)
  | _ => none
noncomputable def E27 : Ctx := mkE tab [(26, .pure F26), (50, .pure F50), (51, .pure F51)]
noncomputable def O27 : Nat → List DI := ordL []
theorem a27 (f : Flt) (hb : BdAs [.st (flC f)]) (ho : o27 f) (K : AV → List AV → Prop) (hK : K (v27 f) []) : abody E27 O27 .ps Tryd.f27 (Tryd.f27.body.getD .skip) [.st (flC f)] K := by
  simp only [BdAs, BdA, BdL, BdC, MX, ndC, shC, itC, stC, opC, chC, nwC, flC, rqC, rsC, enc, List.cons_append, List.nil_append, and_true, true_and] at hb
  unfold v27 at hK
  conv => whnf
  repeat' first
    | (refine Cnd.mk (fun h => ?_) (fun h => ?_) <;> (try simp [nd_eta, sh_eta, it_eta, sto_eta, op_eta, ch_eta, nw_eta, fl_eta, rq_eta, rs_eta, elDef, -List.getD_eq_getElem?_getD] at h) <;> conv => whnf)
    | (refine Obl.mk (by first | omega | rfl | exact inK_byte _ | (simp only [inK, Int.toNat_natCast, nd_eta, sh_eta, it_eta, sto_eta, op_eta, ch_eta, nw_eta, fl_eta, rq_eta, rs_eta, elDef] <;> first | omega | grind) | grind [inK]) ?_ <;> conv => whnf)
    | (refine OblG.mk (by conv => whnf
                          repeat (first | (refine Bx.mk ?_) | (intro h; (try simp [nd_eta, sh_eta, it_eta, sto_eta, op_eta, ch_eta, nw_eta, fl_eta, rq_eta, rs_eta, elDef, -List.getD_eq_getElem?_getD] at h); conv => whnf))
                          first | omega | rfl | exact inK_byte _ | (simp only [inK, Int.toNat_natCast, nd_eta, sh_eta, it_eta, sto_eta, op_eta, ch_eta, nw_eta, fl_eta, rq_eta, rs_eta, elDef] <;> first | omega | grind) | grind [inK]) ?_ <;> conv => whnf)
    | (refine Gd.mk (fun h => ?_) <;> (try simp [nd_eta, sh_eta, it_eta, sto_eta, op_eta, ch_eta, nw_eta, fl_eta, rq_eta, rs_eta, elDef, -List.getD_eq_getElem?_getD] at h) <;> conv => whnf)
    | (refine And.intro ?_ ?_ <;> conv => whnf)
    | exact True.intro
    | (intro; conv => whnf)
  all_goals exact leafB hK (by simp only [filterM, nd_eta]; first | done | grind)
theorem s27 : (CtrOK Tryd.prog 27 (.pure F27) ∧ Callable Tryd.prog 27) := by
  refine pure_ok (E := E27) (mkE_cons s26 (mkE_cons s50 (mkE_cons s51 (mkE_nil tab_ok)))) mix (O := O27) (F := F27) Tryd.func27 rfl (by rfl) (by kernel_rfl) (fun args o v h => ?_) (fun args o v h => ?_) (fun args o v h hbd hp K hK => ?_)
  · unfold F27 at h; split at h <;> cases h; first | trivial | (simp [v27, Scalar, Scalar1])
  · unfold F27 at h; split at h <;> cases h; exact Nat.le_of_ble_eq_true rfl
  · unfold F27 at h; split at h
    case h_2 => cases h
    cases h
    exact a27 ⟨_, _, ⟨_, _, _, _, _⟩⟩ (by exact hbd) trivial K hK
noncomputable def v53 (a : Nd) (b : Nd) : AV := .bool (decide (cmpN a b = 0))
noncomputable def o53 (a : Nd) (b : Nd) : Prop := okN a ∧ okN b
noncomputable def F53 : List AV → QR
  | [.st [.int .i64 a_0, .int .i64 a_1, .str a_2, .ps .str a_3, .ps .node a_4], .st [.int .i64 b_0, .int .i64 b_1, .str b_2, .ps .str b_3, .ps .node b_4]] => some (some (o53 ⟨a_0, a_1, a_2, a_3, a_4⟩ ⟨b_0, b_1, b_2, b_3, b_4⟩), v53 ⟨a_0, a_1, a_2, a_3, a_4⟩ ⟨b_0, b_1, b_2, b_3, b_4⟩)
  | _ => none
noncomputable def E53 : Ctx := mkE tab [(54, .pure F54)]
noncomputable def O53 : Nat → List DI := ordL []
theorem a53 (a : Nd) (b : Nd) (hb : BdAs [.st (ndC a), .st (ndC b)]) (ho : o53 a b) (K : AV → List AV → Prop) (hK : K (v53 a b) []) : abody E53 O53 .ps Tryd.f53 (Tryd.f53.body.getD .skip) [.st (ndC a), .st (ndC b)] K := by
  simp only [BdAs, BdA, BdL, BdC, MX, ndC, shC, itC, stC, opC, chC, nwC, flC, rqC, rsC, enc, List.cons_append, List.nil_append, and_true, true_and] at hb
  unfold o53 at ho
  unfold v53 at hK
  conv => whnf
  repeat' first
    | (refine Cnd.mk (fun h => ?_) (fun h => ?_) <;> (try simp [nd_eta, sh_eta, it_eta, sto_eta, op_eta, ch_eta, nw_eta, fl_eta, rq_eta, rs_eta, elDef, -List.getD_eq_getElem?_getD] at h) <;> conv => whnf)
    | (refine Obl.mk (by first | omega | rfl | exact inK_byte _ | (simp only [inK, Int.toNat_natCast, nd_eta, sh_eta, it_eta, sto_eta, op_eta, ch_eta, nw_eta, fl_eta, rq_eta, rs_eta, elDef, o54, m54] <;> first | omega | grind) | grind [inK, o54, m54]) ?_ <;> conv => whnf)
    | (refine OblG.mk (by conv => whnf
                          repeat (first | (refine Bx.mk ?_) | (intro h; (try simp [nd_eta, sh_eta, it_eta, sto_eta, op_eta, ch_eta, nw_eta, fl_eta, rq_eta, rs_eta, elDef, -List.getD_eq_getElem?_getD] at h); conv => whnf))
                          first | omega | rfl | exact inK_byte _ | (simp only [inK, Int.toNat_natCast, nd_eta, sh_eta, it_eta, sto_eta, op_eta, ch_eta, nw_eta, fl_eta, rq_eta, rs_eta, elDef, o54, m54] <;> first | omega | grind) | grind [inK, o54, m54]) ?_ <;> conv => whnf)
    | (refine Gd.mk (fun h => ?_) <;> (try simp [nd_eta, sh_eta, it_eta, sto_eta, op_eta, ch_eta, nw_eta, fl_eta, rq_eta, rs_eta, elDef, -List.getD_eq_getElem?_getD] at h) <;> conv => whnf)
    | (refine And.intro ?_ ?_ <;> conv => whnf)
    | exact True.intro
    | (intro; conv => whnf)
  all_goals first | exact hK | exact leafB hK (by simp only [nd_eta])
theorem s53 : (CtrOK Tryd.prog 53 (.pure F53) ∧ Callable Tryd.prog 53) := by
  refine pure_ok (E := E53) (mkE_cons s54 (mkE_nil tab_ok)) mix (O := O53) (F := F53) Tryd.func53 rfl (by rfl) (by kernel_rfl) (fun args o v h => ?_) (fun args o v h => ?_) (fun args o v h hbd hp K hK => ?_)
  · unfold F53 at h; split at h <;> cases h; first | trivial | (simp [v53, Scalar, Scalar1])
  · unfold F53 at h; split at h <;> cases h; exact Nat.le_of_ble_eq_true rfl
  · unfold F53 at h; split at h
    case h_2 => cases h
    cases h
    exact a53 ⟨_, _, _, _, _⟩ ⟨_, _, _, _, _⟩ (by exact hbd) (hp _ rfl) K hK
noncomputable def v10 (n : Nd) (f : Flt) : AV := .bool (matchM n f)
noncomputable def o10 (n : Nd) (f : Flt) : Prop := True
noncomputable def F10 : List AV → QR
  | [.st [.int .i64 n_0, .int .i64 n_1, .str n_2, .ps .str n_3, .ps .node n_4], .st [.ps .str f_0, .int .i64 f_1, .int .i64 f_2_0, .int .i64 f_2_1, .str f_2_2, .ps .str f_2_3, .ps .node f_2_4]] => some (none, v10 ⟨n_0, n_1, n_2, n_3, n_4⟩ ⟨f_0, f_1, ⟨f_2_0, f_2_1, f_2_2, f_2_3, f_2_4⟩⟩)
  | _ => none
noncomputable def E10 : Ctx := mkE tab [(12, .pure F12), (23, .pure F23), (24, .gen .ps C24), (25, .pure F25)]
noncomputable def O10 : Nat → List DI := ordL []
theorem a10 (n : Nd) (f : Flt) (hb : BdAs [.st (ndC n), .st (flC f)]) (ho : o10 n f) (K : AV → List AV → Prop) (hK : K (v10 n f) []) : abody E10 O10 .ps Tryd.f10 (Tryd.f10.body.getD .skip) [.st (ndC n), .st (flC f)] K := by
  simp only [BdAs, BdA, BdL, BdC, MX, ndC, shC, itC, stC, opC, chC, nwC, flC, rqC, rsC, enc, List.cons_append, List.nil_append, and_true, true_and] at hb
  unfold v10 at hK
  have h1 := fun h => validM_ok (n := n) h
  have h2 : validM n = true → okN ((findM n f.path).getD default) := fun h => by
    cases e : findM n f.path with
    | none => exact okN_default
    | some m => exact findM_ok (validM_ok h) e
  have h3 : filterM f = true → okN f.value := fun h => by simp only [filterM, Bool.and_eq_true] at h; exact validM_ok h.2
  have h4 := fun m (e : findM n f.path = some m) => (show matchesM n f = testM f.test m f.value by unfold matchesM; rw [e])
  conv => whnf
  repeat' first
    | (refine Cnd.mk (fun h => ?_) (fun h => ?_) <;> (try simp [nd_eta, sh_eta, it_eta, sto_eta, op_eta, ch_eta, nw_eta, fl_eta, rq_eta, rs_eta, elDef, -List.getD_eq_getElem?_getD] at h) <;> conv => whnf)
    | (refine Obl.mk (by first | omega | rfl | exact inK_byte _ | (simp only [inK, Int.toNat_natCast, nd_eta, sh_eta, it_eta, sto_eta, op_eta, ch_eta, nw_eta, fl_eta, rq_eta, rs_eta, elDef, o25, m25] <;> first | omega | grind) | grind [inK, o25, m25]) ?_ <;> conv => whnf)
    | (refine OblG.mk (by conv => whnf
                          repeat (first | (refine Bx.mk ?_) | (intro h; (try simp [nd_eta, sh_eta, it_eta, sto_eta, op_eta, ch_eta, nw_eta, fl_eta, rq_eta, rs_eta, elDef, -List.getD_eq_getElem?_getD] at h); conv => whnf))
                          first | omega | rfl | exact inK_byte _ | (simp only [inK, Int.toNat_natCast, nd_eta, sh_eta, it_eta, sto_eta, op_eta, ch_eta, nw_eta, fl_eta, rq_eta, rs_eta, elDef, o25, m25] <;> first | omega | grind) | grind [inK, o25, m25]) ?_ <;> conv => whnf)
    | (refine Gd.mk (fun h => ?_) <;> (try simp [nd_eta, sh_eta, it_eta, sto_eta, op_eta, ch_eta, nw_eta, fl_eta, rq_eta, rs_eta, elDef, -List.getD_eq_getElem?_getD] at h) <;> conv => whnf)
    | (refine And.intro ?_ ?_ <;> conv => whnf)
    | exact True.intro
    | (intro; conv => whnf)
  · exact leafB hK (by simp only [matchM]; grind)
  · exact leafB hK (by simp only [matchM, matchesM]; rw [h]; simp)
  all_goals
    obtain ⟨m, hm⟩ := Option.isSome_iff_exists.1 (by assumption)
    refine leafB hK ?_
    simp only [matchM, h4 _ hm, hm, testM, Option.getD_some, nd_eta]
    first | done | grind
theorem s10 : (CtrOK Tryd.prog 10 (.pure F10) ∧ Callable Tryd.prog 10) := by
  refine pure_ok (E := E10) (mkE_cons s12 (mkE_cons s23 (mkE_cons s24 (mkE_cons s25 (mkE_nil tab_ok))))) mix (O := O10) (F := F10) Tryd.func10 rfl (by rfl) (by kernel_rfl) (fun args o v h => ?_) (fun args o v h => ?_) (fun args o v h hbd hp K hK => ?_)
  · unfold F10 at h; split at h <;> cases h; first | trivial | (simp [v10, Scalar, Scalar1])
  · unfold F10 at h; split at h <;> cases h; exact Nat.le_of_ble_eq_true rfl
  · unfold F10 at h; split at h
    case h_2 => cases h
    cases h
    exact a10 ⟨_, _, _, _, _⟩ ⟨_, _, ⟨_, _, _, _, _⟩⟩ (by exact hbd) trivial K hK
noncomputable def v28 (n : Nd) (f : Flt) : AV := .bool (matchesM n f)
noncomputable def o28 (n : Nd) (f : Flt) : Prop := okN n ∧ okN f.value
noncomputable def F28 : List AV → QR
  | [.st [.int .i64 n_0, .int .i64 n_1, .str n_2, .ps .str n_3, .ps .node n_4], .st [.ps .str f_0, .int .i64 f_1, .int .i64 f_2_0, .int .i64 f_2_1, .str f_2_2, .ps .str f_2_3, .ps .node f_2_4]] => some (some (o28 ⟨n_0, n_1, n_2, n_3, n_4⟩ ⟨f_0, f_1, ⟨f_2_0, f_2_1, f_2_2, f_2_3, f_2_4⟩⟩), v28 ⟨n_0, n_1, n_2, n_3, n_4⟩ ⟨f_0, f_1, ⟨f_2_0, f_2_1, f_2_2, f_2_3, f_2_4⟩⟩)
  | _ => none
noncomputable def E28 : Ctx := mkE tab [(52, .gen .ps C52), (53, .pure F53), (54, .pure F54)]
noncomputable def O28 : Nat → List DI := ordL []
theorem a28 (n : Nd) (f : Flt) (hb : BdAs [.st (ndC n), .st (flC f)]) (ho : o28 n f) (K : AV → List AV → Prop) (hK : K (v28 n f) []) : abody E28 O28 .ps Tryd.f28 (Tryd.f28.body.getD .skip) [.st (ndC n), .st (flC f)] K := by
  simp only [BdAs, BdA, BdL, BdC, MX, ndC, shC, itC, stC, opC, chC, nwC, flC, rqC, rsC, enc, List.cons_append, List.nil_append, and_true, true_and] at hb
  unfold o28 at ho
  unfold v28 at hK
  obtain ⟨ho, ho2⟩ := ho
  have h2 : okN ((findM n f.path).getD default) := by
    cases e : findM n f.path with
    | none => exact okN_default
    | some m => exact findM_ok ho e
  conv => whnf
  repeat' first
    | (refine Cnd.mk (fun h => ?_) (fun h => ?_) <;> (try simp [nd_eta, sh_eta, it_eta, sto_eta, op_eta, ch_eta, nw_eta, fl_eta, rq_eta, rs_eta, elDef, -List.getD_eq_getElem?_getD] at h) <;> conv => whnf)
    | (refine Obl.mk (by first | omega | rfl | exact inK_byte _ | (simp only [inK, Int.toNat_natCast, nd_eta, sh_eta, it_eta, sto_eta, op_eta, ch_eta, nw_eta, fl_eta, rq_eta, rs_eta, elDef, o53, o54, m54] <;> first | omega | grind) | grind [inK, o53, o54, m54]) ?_ <;> conv => whnf)
    | (refine OblG.mk (by conv => whnf
                          repeat (first | (refine Bx.mk ?_) | (intro h; (try simp [nd_eta, sh_eta, it_eta, sto_eta, op_eta, ch_eta, nw_eta, fl_eta, rq_eta, rs_eta, elDef, -List.getD_eq_getElem?_getD] at h); conv => whnf))
                          first | omega | rfl | exact inK_byte _ | (simp only [inK, Int.toNat_natCast, nd_eta, sh_eta, it_eta, sto_eta, op_eta, ch_eta, nw_eta, fl_eta, rq_eta, rs_eta, elDef, o53, o54, m54] <;> first | omega | grind) | grind [inK, o53, o54, m54]) ?_ <;> conv => whnf)
    | (refine Gd.mk (fun h => ?_) <;> (try simp [nd_eta, sh_eta, it_eta, sto_eta, op_eta, ch_eta, nw_eta, fl_eta, rq_eta, rs_eta, elDef, -List.getD_eq_getElem?_getD] at h) <;> conv => whnf)
    | (refine And.intro ?_ ?_ <;> conv => whnf)
    | exact True.intro
    | (intro; conv => whnf)
  · exact leafB hK (by simp only [matchesM]; rw [h])
  all_goals
    obtain ⟨m, hm⟩ := Option.isSome_iff_exists.1 (by assumption)
    refine leafB hK ?_
    simp only [matchesM, hm, testM, Option.getD_some, nd_eta]
    first | done | grind
theorem s28 : (CtrOK Tryd.prog 28 (.pure F28) ∧ Callable Tryd.prog 28) := by
  refine pure_ok (E := E28) (mkE_cons s52 (mkE_cons s53 (mkE_cons s54 (mkE_nil tab_ok)))) mix (O := O28) (F := F28) Tryd.func28 rfl (by rfl) (by kernel_rfl) (fun args o v h => ?_) (fun args o v h => ?_) (fun args o v h hbd hp K hK => ?_)
  · unfold F28 at h; split at h <;> cases h; first | trivial | (simp [v28, Scalar, Scalar1])
  · unfold F28 at h; split at h <;> cases h; exact Nat.le_of_ble_eq_true rfl
  · unfold F28 at h; split at h
    case h_2 => cases h
    cases h
    exact a28 ⟨_, _, _, _, _⟩ ⟨_, _, ⟨_, _, _, _, _⟩⟩ (by exact hbd) (hp _ rfl) K hK
noncomputable def v11 (n : Nd) (f : Flt) : AV := .bool (matchM n f)
noncomputable def o11 (n : Nd) (f : Flt) : Prop := True
noncomputable def F11 : List AV → QR
  | [.st [.int .i64 n_0, .int .i64 n_1, .str n_2, .ps .str n_3, .ps .node n_4], .st [.ps .str f_0, .int .i64 f_1, .int .i64 f_2_0, .int .i64 f_2_1, .str f_2_2, .ps .str f_2_3, .ps .node f_2_4]] => some (none, v11 ⟨n_0, n_1, n_2, n_3, n_4⟩ ⟨f_0, f_1, ⟨f_2_0, f_2_1, f_2_2, f_2_3, f_2_4⟩⟩)
  | _ => none
noncomputable def E11 : Ctx := mkE tab [(26, .pure F26), (27, .pure F27), (28, .pure F28)]
noncomputable def O11 : Nat → List DI := ordL []
theorem a11 (n : Nd) (f : Flt) (hb : BdAs [.st (ndC n), .st (flC f)]) (ho : o11 n f) (K : AV → List AV → Prop) (hK : K (v11 n f) []) : abody E11 O11 .ps Tryd.f11 (Tryd.f11.body.getD .skip) [.st (ndC n), .st (flC f)] K := by
  simp only [BdAs, BdA, BdL, BdC, MX, ndC, shC, itC, stC, opC, chC, nwC, flC, rqC, rsC, enc, List.cons_append, List.nil_append, and_true, true_and] at hb
  unfold v11 at hK
  have h1 := fun h => validM_ok (n := n) h
  have h3 : filterM f = true → okN f.value := fun h => by simp only [filterM, Bool.and_eq_true] at h; exact validM_ok h.2
  conv => whnf
  repeat' first
    | (refine Cnd.mk (fun h => ?_) (fun h => ?_) <;> (try simp [nd_eta, sh_eta, it_eta, sto_eta, op_eta, ch_eta, nw_eta, fl_eta, rq_eta, rs_eta, elDef, -List.getD_eq_getElem?_getD] at h) <;> conv => whnf)
    | (refine Obl.mk (by first | omega | rfl | exact inK_byte _ | (simp only [inK, Int.toNat_natCast, nd_eta, sh_eta, it_eta, sto_eta, op_eta, ch_eta, nw_eta, fl_eta, rq_eta, rs_eta, elDef, o28] <;> first | omega | grind) | grind [inK, o28]) ?_ <;> conv => whnf)
    | (refine OblG.mk (by conv => whnf
                          repeat (first | (refine Bx.mk ?_) | (intro h; (try simp [nd_eta, sh_eta, it_eta, sto_eta, op_eta, ch_eta, nw_eta, fl_eta, rq_eta, rs_eta, elDef, -List.getD_eq_getElem?_getD] at h); conv => whnf))
                          first | omega | rfl | exact inK_byte _ | (simp only [inK, Int.toNat_natCast, nd_eta, sh_eta, it_eta, sto_eta, op_eta, ch_eta, nw_eta, fl_eta, rq_eta, rs_eta, elDef, o28] <;> first | omega | grind) | grind [inK, o28]) ?_ <;> conv => whnf)
    | (refine Gd.mk (fun h => ?_) <;> (try simp [nd_eta, sh_eta, it_eta, sto_eta, op_eta, ch_eta, nw_eta, fl_eta, rq_eta, rs_eta, elDef, -List.getD_eq_getElem?_getD] at h) <;> conv => whnf)
    | (refine And.intro ?_ ?_ <;> conv => whnf)
    | exact True.intro
    | (intro; conv => whnf)
  all_goals exact leafB hK (by simp only [matchM, nd_eta, fl_eta]; first | done | grind)
theorem s11 : (CtrOK Tryd.prog 11 (.pure F11) ∧ Callable Tryd.prog 11) := by
  refine pure_ok (E := E11) (mkE_cons s26 (mkE_cons s27 (mkE_cons s28 (mkE_nil tab_ok)))) mix (O := O11) (F := F11) Tryd.func11 rfl (by rfl) (by kernel_rfl) (fun args o v h => ?_) (fun args o v h => ?_) (fun args o v h hbd hp K hK => ?_)
  · unfold F11 at h; split at h <;> cases h; first | trivial | (simp [v11, Scalar, Scalar1])
  · unfold F11 at h; split at h <;> cases h; exact Nat.le_of_ble_eq_true rfl
  · unfold F11 at h; split at h
    case h_2 => cases h
    cases h
    exact a11 ⟨_, _, _, _, _⟩ ⟨_, _, ⟨_, _, _, _, _⟩⟩ (by exact hbd) trivial K hK
end Go.Rs

