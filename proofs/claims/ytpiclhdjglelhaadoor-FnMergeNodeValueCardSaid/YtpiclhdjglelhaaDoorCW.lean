import Derived.Test.YtpiclhdjglelhaaDoorCU
import Derived.Test.YtpiclhdjglelhaaDoorCR
set_option linter.all false
namespace Go.Rs
open Go.Proofs
set_option maxRecDepth 100000
set_option linter.unusedVariables false
set_option linter.unusedSimpArgs false
noncomputable def c31 (code : List Int) (p : Int) (n : Nd) (K : AV → List AV → Prop) : Prop :=
    Obl (((0 ≤ p ∧ p ≤ 9000000) ∧ byOk code) ∧ validM n = true) (∀ (m : Nd) (p' : Int), smN m → p ≤ p' ∧ p' ≤ p + 5000 → K (.st (ndC m)) [.ref [.ps .u8 code, .int .i64 p']])
noncomputable def C31 : List AV → (AV → List AV → Prop) → Prop
  | [.ref [.ps .u8 code, .int .i64 p], .st [.int .i64 n_0, .int .i64 n_1, .str n_2, .ps .str n_3, .ps .node n_4]], K => c31 code p ⟨n_0, n_1, n_2, n_3, n_4⟩ K
  | _, _ => False
noncomputable def E31 : Ctx := mkE tab [(29, .gen .ps C29), (30, .pure F30), (56, .gen .ow C56), (59, .gen .ps C59), (60, .gen .ps C60), (61, .gen .ps C61), (62, .gen .ps C62), (63, .gen .ps C63), (64, .gen .ow C64), (65, .gen .ps C65)]
noncomputable def O31 : Nat → List DI := ordL [(9, [.q 0, .q 2, .q 4, .q 9, .a 1, .l 3 [0], .a 5, .l 6 [0], .l 7 [0], .l 8 [0], .l 10 [0], .l 11 [], .q 12, .q 13, .q 14, .l 15 [], .q 16]), (11, [.q 0, .q 1, .q 2, .l 3 [0], .l 4 [], .q 5, .q 6, .q 7, .l 8 [], .q 9])]
theorem a31 (code : List Int) (p : Int) (n : Nd) (hb : BdAs [.ref [.ps .u8 code, .int .i64 p], .st (ndC n)]) (K : AV → List AV → Prop) (h : c31 code p n K) : abody E31 O31 .ps Tryd.f31 (Tryd.f31.body.getD .skip) [.ref [.ps .u8 code, .int .i64 p], .st (ndC n)] K := by
  simp only [BdAs, BdA, BdL, BdC, MX, ndC, shC, itC, stC, opC, chC, nwC, flC, rqC, rsC, enc, List.cons_append, List.nil_append, and_true, true_and] at hb
  unfold c31 at h
  obtain ⟨⟨⟨hp, ho⟩, hv⟩, hK⟩ := h
  have hok := validM_ok hv
  have hsm := hok.sm
  have hc := (cost_facts 2).2.2
  have hd5 : depthM n ≤ 5 := by obtain ⟨d, hd, h⟩ := hok; exact Nat.le_trans (depth_le h) hd
  have hcp : 0 < countM n := by rw [countM_eq]; omega
  conv => whnf
  repeat' first
    | (refine Cnd.mk (fun h => ?_) (fun h => ?_) <;> (try simp [nd_eta, sh_eta, it_eta, sto_eta, op_eta, ch_eta, nw_eta, fl_eta, rq_eta, rs_eta, elDef, -List.getD_eq_getElem?_getD] at h) <;> conv => whnf)
    | (refine Obl.mk (by first | omega | rfl | exact inK_byte _ | (simp only [inK, Int.toNat_natCast, nd_eta, sh_eta, it_eta, sto_eta, op_eta, ch_eta, nw_eta, fl_eta, rq_eta, rs_eta, elDef, m59, m60, m64, m65] <;> first | omega | grind) | grind [inK, m59, m60, m64, m65]) ?_ <;> conv => whnf)
    | (refine OblG.mk (by conv => whnf
                          repeat (first | (refine Bx.mk ?_) | (intro h; (try simp [nd_eta, sh_eta, it_eta, sto_eta, op_eta, ch_eta, nw_eta, fl_eta, rq_eta, rs_eta, elDef, -List.getD_eq_getElem?_getD] at h); conv => whnf))
                          first | omega | rfl | exact inK_byte _ | (simp only [inK, Int.toNat_natCast, nd_eta, sh_eta, it_eta, sto_eta, op_eta, ch_eta, nw_eta, fl_eta, rq_eta, rs_eta, elDef, m59, m60, m64, m65] <;> first | omega | grind) | grind [inK, m59, m60, m64, m65]) ?_ <;> conv => whnf)
    | (refine Gd.mk (fun h => ?_) <;> (try simp [nd_eta, sh_eta, it_eta, sto_eta, op_eta, ch_eta, nw_eta, fl_eta, rq_eta, rs_eta, elDef, -List.getD_eq_getElem?_getD] at h) <;> conv => whnf)
    | (refine And.intro ?_ ?_ <;> conv => whnf)
    | exact True.intro
    | (intro; conv => whnf)
  rename_i l hl1 hl2 r hr
  rw [nd_eta] at hl1
  simp only [nd_eta] at hl2
  have hpl : (l.getD r.toNat []).length < depthM n := hl2 _ (getD_mem (by omega))
  repeat' first
    | (refine Cnd.mk (fun h => ?_) (fun h => ?_) <;> (try simp [nd_eta, sh_eta, it_eta, sto_eta, op_eta, ch_eta, nw_eta, fl_eta, rq_eta, rs_eta, elDef, -List.getD_eq_getElem?_getD] at h) <;> conv => whnf)
    | (refine Obl.mk (by first | omega | rfl | exact inK_byte _ | (simp only [inK, Int.toNat_natCast, nd_eta, sh_eta, it_eta, sto_eta, op_eta, ch_eta, nw_eta, fl_eta, rq_eta, rs_eta, elDef, m59, m60, m64, m65] <;> first | omega | grind) | grind [inK, m59, m60, m64, m65]) ?_ <;> conv => whnf)
    | (refine OblG.mk (by conv => whnf
                          repeat (first | (refine Bx.mk ?_) | (intro h; (try simp [nd_eta, sh_eta, it_eta, sto_eta, op_eta, ch_eta, nw_eta, fl_eta, rq_eta, rs_eta, elDef, -List.getD_eq_getElem?_getD] at h); conv => whnf))
                          first | omega | rfl | exact inK_byte _ | (simp only [inK, Int.toNat_natCast, nd_eta, sh_eta, it_eta, sto_eta, op_eta, ch_eta, nw_eta, fl_eta, rq_eta, rs_eta, elDef, m59, m60, m64, m65] <;> first | omega | grind) | grind [inK, m59, m60, m64, m65]) ?_ <;> conv => whnf)
    | (refine Gd.mk (fun h => ?_) <;> (try simp [nd_eta, sh_eta, it_eta, sto_eta, op_eta, ch_eta, nw_eta, fl_eta, rq_eta, rs_eta, elDef, -List.getD_eq_getElem?_getD] at h) <;> conv => whnf)
    | (refine And.intro ?_ ?_ <;> conv => whnf)
    | exact True.intro
    | (intro; conv => whnf)
  all_goals (refine hK ⟨_, _, _, _, _⟩ _ ?_ ?_ <;> first | omega | exact smN_eta hsm | (simp only [nd_eta]; exact (validM_ok h.2).sm) | exact (by assumption : smN _ ∧ _).1)
theorem s31 : (CtrOK Tryd.prog 31 (.gen .ps C31) ∧ Callable Tryd.prog 31) := by
  refine gen_ok (E := E31) (mkE_cons s29 (mkE_cons s30 (mkE_cons s56 (mkE_cons s59 (mkE_cons s60 (mkE_cons s61 (mkE_cons s62 (mkE_cons s63 (mkE_cons s64 (mkE_cons s65 (mkE_nil tab_ok))))))))))) mix (O := O31) (C := C31) (own := .ps) Tryd.func31 rfl (by rfl) (by kernel_rfl) (fun args K h hbd => ?_)
  unfold C31 at h; split at h
  case h_2 => exact h.elim
  exact ⟨Nat.le_of_ble_eq_true rfl, a31 _ _ ⟨_, _, _, _, _⟩ (by exact hbd) _ h⟩
noncomputable def c41 (code : List Int) (p : Int) (K : AV → List AV → Prop) : Prop :=
    Obl ((0 ≤ p ∧ p ≤ 8000000) ∧ byOk code) (∀ (a b : Nd) (p' : Int), smN a → smN b → p ≤ p' ∧ p' ≤ p + 8000 → K (.tup [.st (ndC a), .st (ndC b)]) [.ref [.ps .u8 code, .int .i64 p']])
noncomputable def C41 : List AV → (AV → List AV → Prop) → Prop
  | [.ref [.ps .u8 code, .int .i64 p]], K => c41 code p K
  | _, _ => False
noncomputable def E41 : Ctx := mkE tab [(29, .gen .ps C29), (30, .pure F30), (31, .gen .ps C31), (53, .gen .ps C53)]
noncomputable def O41 : Nat → List DI := ordL [(3, [.q 0, .q 1, .q 2, .l 3 [0], .l 4 [], .l 5 []]), (4, [.q 0, .q 1, .l 2 [0], .l 3 [], .l 4 []])]
theorem a41 (code : List Int) (p : Int) (hb : BdAs [.ref [.ps .u8 code, .int .i64 p]]) (K : AV → List AV → Prop) (h : c41 code p K) : abody E41 O41 .ps Tryd.f41 (Tryd.f41.body.getD .skip) [.ref [.ps .u8 code, .int .i64 p]] K := by
  simp only [BdAs, BdA, BdL, BdC, MX, ndC, shC, itC, stC, opC, chC, nwC, flC, rqC, rsC, enc, List.cons_append, List.nil_append, and_true, true_and] at hb
  unfold c41 at h
  obtain ⟨⟨hp, ho⟩, hK⟩ := h
  conv => whnf
  repeat' first
    | (refine Cnd.mk (fun h => ?_) (fun h => ?_) <;> (try simp [nd_eta, sh_eta, it_eta, sto_eta, op_eta, ch_eta, nw_eta, fl_eta, rq_eta, rs_eta, elDef, -List.getD_eq_getElem?_getD] at h) <;> conv => whnf)
    | (refine Obl.mk (by first | omega | rfl | exact inK_byte _ | (simp only [inK, Int.toNat_natCast, nd_eta, sh_eta, it_eta, sto_eta, op_eta, ch_eta, nw_eta, fl_eta, rq_eta, rs_eta, elDef] <;> first | omega | grind) | grind [inK]) ?_ <;> conv => whnf)
    | (refine OblG.mk (by conv => whnf
                          repeat (first | (refine Bx.mk ?_) | (intro h; (try simp [nd_eta, sh_eta, it_eta, sto_eta, op_eta, ch_eta, nw_eta, fl_eta, rq_eta, rs_eta, elDef, -List.getD_eq_getElem?_getD] at h); conv => whnf))
                          first | omega | rfl | exact inK_byte _ | (simp only [inK, Int.toNat_natCast, nd_eta, sh_eta, it_eta, sto_eta, op_eta, ch_eta, nw_eta, fl_eta, rq_eta, rs_eta, elDef] <;> first | omega | grind) | grind [inK]) ?_ <;> conv => whnf)
    | (refine Gd.mk (fun h => ?_) <;> (try simp [nd_eta, sh_eta, it_eta, sto_eta, op_eta, ch_eta, nw_eta, fl_eta, rq_eta, rs_eta, elDef, -List.getD_eq_getElem?_getD] at h) <;> conv => whnf)
    | (refine And.intro ?_ ?_ <;> conv => whnf)
    | exact True.intro
    | (intro; conv => whnf)
  all_goals (refine hK ⟨_, _, _, _, _⟩ ⟨_, _, _, _, _⟩ _ ?_ ?_ ?_ <;> first | exact smN_eta (by assumption) | omega)
theorem s41 : (CtrOK Tryd.prog 41 (.gen .ps C41) ∧ Callable Tryd.prog 41) := by
  refine gen_ok (E := E41) (mkE_cons s29 (mkE_cons s30 (mkE_cons s31 (mkE_cons s53 (mkE_nil tab_ok))))) mix (O := O41) (C := C41) (own := .ps) Tryd.func41 rfl (by rfl) (by kernel_rfl) (fun args K h hbd => ?_)
  unfold C41 at h; split at h
  case h_2 => exact h.elim
  exact ⟨Nat.le_of_ble_eq_true rfl, a41 _ _ (by exact hbd) _ h⟩
noncomputable def c20 (code : List Int) (K : AV → List AV → Prop) : Prop :=
    Obl (byOk code) (∀ (a b : Nd), smN a → smN b → K (.tup [.st (ndC a), .st (ndC b)]) [])
noncomputable def C20 : List AV → (AV → List AV → Prop) → Prop
  | [.ps .u8 code], K => c20 code K
  | _, _ => False
noncomputable def E20 : Ctx := mkE tab [(27, .gen .ow C27), (41, .gen .ps C41)]
noncomputable def O20 : Nat → List DI := ordL []
theorem a20 (code : List Int) (hb : BdAs [.ps .u8 code]) (K : AV → List AV → Prop) (h : c20 code K) : abody E20 O20 .ps Tryd.f20 (Tryd.f20.body.getD .skip) [.ps .u8 code] K := by
  simp only [BdAs, BdA, BdL, BdC, MX, ndC, shC, itC, stC, opC, chC, nwC, flC, rqC, rsC, enc, List.cons_append, List.nil_append, and_true, true_and] at hb
  unfold c20 at h
  obtain ⟨ho, hK⟩ := h
  conv => whnf
  repeat' first
    | (refine Cnd.mk (fun h => ?_) (fun h => ?_) <;> (try simp [nd_eta, sh_eta, it_eta, sto_eta, op_eta, ch_eta, nw_eta, fl_eta, rq_eta, rs_eta, elDef, -List.getD_eq_getElem?_getD] at h) <;> conv => whnf)
    | (refine Obl.mk (by first | omega | rfl | exact inK_byte _ | (simp only [inK, Int.toNat_natCast, nd_eta, sh_eta, it_eta, sto_eta, op_eta, ch_eta, nw_eta, fl_eta, rq_eta, rs_eta, elDef] <;> first | omega | grind) | grind [inK]) ?_ <;> conv => whnf)
    | (refine OblG.mk (by conv => whnf
                          repeat (first | (refine Bx.mk ?_) | (intro h; (try simp [nd_eta, sh_eta, it_eta, sto_eta, op_eta, ch_eta, nw_eta, fl_eta, rq_eta, rs_eta, elDef, -List.getD_eq_getElem?_getD] at h); conv => whnf))
                          first | omega | rfl | exact inK_byte _ | (simp only [inK, Int.toNat_natCast, nd_eta, sh_eta, it_eta, sto_eta, op_eta, ch_eta, nw_eta, fl_eta, rq_eta, rs_eta, elDef] <;> first | omega | grind) | grind [inK]) ?_ <;> conv => whnf)
    | (refine Gd.mk (fun h => ?_) <;> (try simp [nd_eta, sh_eta, it_eta, sto_eta, op_eta, ch_eta, nw_eta, fl_eta, rq_eta, rs_eta, elDef, -List.getD_eq_getElem?_getD] at h) <;> conv => whnf)
    | (refine And.intro ?_ ?_ <;> conv => whnf)
    | exact True.intro
    | (intro; conv => whnf)
  all_goals (refine hK ⟨_, _, _, _, _⟩ ⟨_, _, _, _, _⟩ ?_ ?_ <;> first | exact smN_eta (by assumption) | omega)
theorem s20 : (CtrOK Tryd.prog 20 (.gen .ps C20) ∧ Callable Tryd.prog 20) := by
  refine gen_ok (E := E20) (mkE_cons s27 (mkE_cons s41 (mkE_nil tab_ok))) mix (O := O20) (C := C20) (own := .ps) Tryd.func20 rfl (by rfl) (by kernel_rfl) (fun args K h hbd => ?_)
  unfold C20 at h; split at h
  case h_2 => exact h.elim
  exact ⟨Nat.le_of_ble_eq_true rfl, a20 _ (by exact hbd) _ h⟩
noncomputable def c17 (code : List Int) (K : AV → List AV → Prop) : Prop :=
    Obl (byOk code) (∀ (a b : Nd), smN a → smN b → K (.tup [.st (ndC a), .st (ndC b)]) [])
noncomputable def C17 : List AV → (AV → List AV → Prop) → Prop
  | [.ps .u8 code], K => c17 code K
  | _, _ => False
noncomputable def E17 : Ctx := mkE tab [(27, .gen .ow C27), (41, .gen .ps C41)]
noncomputable def O17 : Nat → List DI := ordL []
theorem a17 (code : List Int) (hb : BdAs [.ps .u8 code]) (K : AV → List AV → Prop) (h : c17 code K) : abody E17 O17 .ps Tryd.f17 (Tryd.f17.body.getD .skip) [.ps .u8 code] K := by
  simp only [BdAs, BdA, BdL, BdC, MX, ndC, shC, itC, stC, opC, chC, nwC, flC, rqC, rsC, enc, List.cons_append, List.nil_append, and_true, true_and] at hb
  unfold c17 at h
  obtain ⟨ho, hK⟩ := h
  conv => whnf
  repeat' first
    | (refine Cnd.mk (fun h => ?_) (fun h => ?_) <;> (try simp [nd_eta, sh_eta, it_eta, sto_eta, op_eta, ch_eta, nw_eta, fl_eta, rq_eta, rs_eta, elDef, -List.getD_eq_getElem?_getD] at h) <;> conv => whnf)
    | (refine Obl.mk (by first | omega | rfl | exact inK_byte _ | (simp only [inK, Int.toNat_natCast, nd_eta, sh_eta, it_eta, sto_eta, op_eta, ch_eta, nw_eta, fl_eta, rq_eta, rs_eta, elDef] <;> first | omega | grind) | grind [inK]) ?_ <;> conv => whnf)
    | (refine OblG.mk (by conv => whnf
                          repeat (first | (refine Bx.mk ?_) | (intro h; (try simp [nd_eta, sh_eta, it_eta, sto_eta, op_eta, ch_eta, nw_eta, fl_eta, rq_eta, rs_eta, elDef, -List.getD_eq_getElem?_getD] at h); conv => whnf))
                          first | omega | rfl | exact inK_byte _ | (simp only [inK, Int.toNat_natCast, nd_eta, sh_eta, it_eta, sto_eta, op_eta, ch_eta, nw_eta, fl_eta, rq_eta, rs_eta, elDef] <;> first | omega | grind) | grind [inK]) ?_ <;> conv => whnf)
    | (refine Gd.mk (fun h => ?_) <;> (try simp [nd_eta, sh_eta, it_eta, sto_eta, op_eta, ch_eta, nw_eta, fl_eta, rq_eta, rs_eta, elDef, -List.getD_eq_getElem?_getD] at h) <;> conv => whnf)
    | (refine And.intro ?_ ?_ <;> conv => whnf)
    | exact True.intro
    | (intro; conv => whnf)
  all_goals (refine hK ⟨_, _, _, _, _⟩ ⟨_, _, _, _, _⟩ ?_ ?_ <;> first | exact smN_eta (by assumption) | omega)
theorem s17 : (CtrOK Tryd.prog 17 (.gen .ps C17) ∧ Callable Tryd.prog 17) := by
  refine gen_ok (E := E17) (mkE_cons s27 (mkE_cons s41 (mkE_nil tab_ok))) mix (O := O17) (C := C17) (own := .ps) Tryd.func17 rfl (by rfl) (by kernel_rfl) (fun args K h hbd => ?_)
  unfold C17 at h; split at h
  case h_2 => exact h.elim
  exact ⟨Nat.le_of_ble_eq_true rfl, a17 _ (by exact hbd) _ h⟩
end Go.Rs

