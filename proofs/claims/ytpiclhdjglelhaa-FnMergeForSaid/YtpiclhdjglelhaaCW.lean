import Derived.Test.YtpiclhdjglelhaaCU
import Derived.Test.YtpiclhdjglelhaaCR
set_option linter.all false
namespace Go.Rs
open Go.Proofs
set_option maxRecDepth 100000
set_option linter.unusedVariables false
set_option linter.unusedSimpArgs false
noncomputable def c26 (code : List Int) (p : Int) (n : Nd) (K : AV → List AV → Prop) : Prop :=
    Obl (((0 ≤ p ∧ p ≤ 9000000) ∧ byOk code) ∧ validM n = true) (∀ (m : Nd) (p' : Int), smN m → p ≤ p' ∧ p' ≤ p + 5000 → K (.st (ndC m)) [.ref [.ps .u8 code, .int .i64 p']])
noncomputable def C26 : List AV → (AV → List AV → Prop) → Prop
  | [.ref [.ps .u8 code, .int .i64 p], .st [.int .i64 n_0, .int .i64 n_1, .str n_2, .ps .str n_3, .ps .node n_4]], K => c26 code p ⟨n_0, n_1, n_2, n_3, n_4⟩ K
  | _, _ => False
noncomputable def E26 : Ctx := mkE tab [(12, .gen .ps C12), (13, .pure F13), (29, .gen .ps C29), (31, .gen .ps C31), (42, .gen .ow C42), (44, .gen .ps C44), (45, .gen .ps C45), (46, .gen .ps C46), (47, .gen .ow C47), (48, .gen .ps C48)]
noncomputable def O26 : Nat → List DI := ordL [(9, [.q 0, .q 2, .q 4, .q 9, .a 1, .l 3 [0], .a 5, .l 6 [0], .l 7 [0], .l 8 [0], .l 10 [0], .l 11 [], .q 12, .q 13, .q 14, .l 15 [], .q 16]), (11, [.q 0, .q 1, .q 2, .l 3 [0], .l 4 [], .q 5, .q 6, .q 7, .l 8 [], .q 9])]
theorem a26 (code : List Int) (p : Int) (n : Nd) (hb : BdAs [.ref [.ps .u8 code, .int .i64 p], .st (ndC n)]) (K : AV → List AV → Prop) (h : c26 code p n K) : abody E26 O26 .ps Try.f26 (Try.f26.body.getD .skip) [.ref [.ps .u8 code, .int .i64 p], .st (ndC n)] K := by
  simp only [BdAs, BdA, BdL, BdC, MX, ndC, shC, itC, stC, opC, chC, nwC, flC, rqC, rsC, enc, List.cons_append, List.nil_append, and_true, true_and] at hb
  unfold c26 at h
  obtain ⟨⟨⟨hp, ho⟩, hv⟩, hK⟩ := h
  have hok := validM_ok hv
  have hsm := hok.sm
  have hc := (cost_facts 2).2.2
  have hd5 : depthM n ≤ 5 := by obtain ⟨d, hd, h⟩ := hok; exact Nat.le_trans (depth_le h) hd
  have hcp : 0 < countM n := by rw [countM_eq]; omega
  conv => whnf
  repeat' first
    | (refine Cnd.mk (fun h => ?_) (fun h => ?_) <;> (try simp [nd_eta, sh_eta, it_eta, sto_eta, op_eta, ch_eta, nw_eta, fl_eta, rq_eta, rs_eta, elDef, -List.getD_eq_getElem?_getD] at h) <;> conv => whnf)
    | (refine Obl.mk (by first | omega | rfl | exact inK_byte _ | (simp only [inK, Int.toNat_natCast, nd_eta, sh_eta, it_eta, sto_eta, op_eta, ch_eta, nw_eta, fl_eta, rq_eta, rs_eta, elDef, m29, m44, m47, m48] <;> first | omega | grind) | grind [inK, m29, m44, m47, m48]) ?_ <;> conv => whnf)
    | (refine OblG.mk (by conv => whnf
                          repeat (first | (refine Bx.mk ?_) | (intro h; (try simp [nd_eta, sh_eta, it_eta, sto_eta, op_eta, ch_eta, nw_eta, fl_eta, rq_eta, rs_eta, elDef, -List.getD_eq_getElem?_getD] at h); conv => whnf))
                          first | omega | rfl | exact inK_byte _ | (simp only [inK, Int.toNat_natCast, nd_eta, sh_eta, it_eta, sto_eta, op_eta, ch_eta, nw_eta, fl_eta, rq_eta, rs_eta, elDef, m29, m44, m47, m48] <;> first | omega | grind) | grind [inK, m29, m44, m47, m48]) ?_ <;> conv => whnf)
    | (refine Gd.mk (fun h => ?_) <;> (try simp [nd_eta, sh_eta, it_eta, sto_eta, op_eta, ch_eta, nw_eta, fl_eta, rq_eta, rs_eta, elDef, -List.getD_eq_getElem?_getD] at h) <;> conv => whnf)
    | (refine And.intro ?_ ?_ <;> conv => whnf)
    | exact True.intro
    | (intro; conv => whnf)
  rename_i l hl1 hl2 r hr
  rw [nd_eta] at hl1
  simp only [nd_eta] at hl2
  have hpl : (l.getD r.toNat []).length < depthM n := hl2 _ (getD_mem (by omega))
  repeat' first
    | (refine Cnd.mk (fun h => ?_) (fun h => ?_) <;> (try simp [nd_eta, sh_eta, it_eta, sto_eta, op_eta, ch_eta, nw_eta, fl_eta, rq_eta, rs_eta, elDef, -List.getD_eq_getElem?_getD] at h) <;> conv => whnf)
    | (refine Obl.mk (by first | omega | rfl | exact inK_byte _ | (simp only [inK, Int.toNat_natCast, nd_eta, sh_eta, it_eta, sto_eta, op_eta, ch_eta, nw_eta, fl_eta, rq_eta, rs_eta, elDef, m29, m44, m47, m48] <;> first | omega | grind) | grind [inK, m29, m44, m47, m48]) ?_ <;> conv => whnf)
    | (refine OblG.mk (by conv => whnf
                          repeat (first | (refine Bx.mk ?_) | (intro h; (try simp [nd_eta, sh_eta, it_eta, sto_eta, op_eta, ch_eta, nw_eta, fl_eta, rq_eta, rs_eta, elDef, -List.getD_eq_getElem?_getD] at h); conv => whnf))
                          first | omega | rfl | exact inK_byte _ | (simp only [inK, Int.toNat_natCast, nd_eta, sh_eta, it_eta, sto_eta, op_eta, ch_eta, nw_eta, fl_eta, rq_eta, rs_eta, elDef, m29, m44, m47, m48] <;> first | omega | grind) | grind [inK, m29, m44, m47, m48]) ?_ <;> conv => whnf)
    | (refine Gd.mk (fun h => ?_) <;> (try simp [nd_eta, sh_eta, it_eta, sto_eta, op_eta, ch_eta, nw_eta, fl_eta, rq_eta, rs_eta, elDef, -List.getD_eq_getElem?_getD] at h) <;> conv => whnf)
    | (refine And.intro ?_ ?_ <;> conv => whnf)
    | exact True.intro
    | (intro; conv => whnf)
  all_goals (refine hK ⟨_, _, _, _, _⟩ _ ?_ ?_ <;> first | omega | exact smN_eta hsm | (simp only [nd_eta]; exact (validM_ok h.2).sm) | exact (by assumption : smN _ ∧ _).1)
theorem s26 : (CtrOK Try.prog 26 (.gen .ps C26) ∧ Callable Try.prog 26) := by
  refine gen_ok (E := E26) (mkE_cons s12 (mkE_cons s13 (mkE_cons s29 (mkE_cons s31 (mkE_cons s42 (mkE_cons s44 (mkE_cons s45 (mkE_cons s46 (mkE_cons s47 (mkE_cons s48 (mkE_nil tab_ok))))))))))) mix (O := O26) (C := C26) (own := .ps) Try.func26 rfl (by rfl) (by kernel_rfl) (fun args K h hbd => ?_)
  unfold C26 at h; split at h
  case h_2 => exact h.elim
  exact ⟨Nat.le_of_ble_eq_true rfl, a26 _ _ ⟨_, _, _, _, _⟩ (by exact hbd) _ h⟩
noncomputable def c11 (code : List Int) (p : Int) (K : AV → List AV → Prop) : Prop :=
    Obl ((0 ≤ p ∧ p ≤ 8000000) ∧ byOk code) (∀ (a b : Nd) (p' : Int), smN a → smN b → p ≤ p' ∧ p' ≤ p + 8000 → K (.tup [.st (ndC a), .st (ndC b)]) [.ref [.ps .u8 code, .int .i64 p']])
noncomputable def C11 : List AV → (AV → List AV → Prop) → Prop
  | [.ref [.ps .u8 code, .int .i64 p]], K => c11 code p K
  | _, _ => False
noncomputable def E11 : Ctx := mkE tab [(12, .gen .ps C12), (13, .pure F13), (25, .gen .ps C25), (26, .gen .ps C26)]
noncomputable def O11 : Nat → List DI := ordL [(3, [.q 0, .q 1, .q 2, .l 3 [0], .l 4 [], .l 5 []]), (4, [.q 0, .q 1, .l 2 [0], .l 3 [], .l 4 []])]
theorem a11 (code : List Int) (p : Int) (hb : BdAs [.ref [.ps .u8 code, .int .i64 p]]) (K : AV → List AV → Prop) (h : c11 code p K) : abody E11 O11 .ps Try.f11 (Try.f11.body.getD .skip) [.ref [.ps .u8 code, .int .i64 p]] K := by
  simp only [BdAs, BdA, BdL, BdC, MX, ndC, shC, itC, stC, opC, chC, nwC, flC, rqC, rsC, enc, List.cons_append, List.nil_append, and_true, true_and] at hb
  unfold c11 at h
  obtain ⟨⟨hp, ho⟩, hK⟩ := h
  conv => whnf
  repeat' first
    | (refine Cnd.mk (fun h => ?_) (fun h => ?_) <;> (try simp [nd_eta, sh_eta, it_eta, sto_eta, op_eta, ch_eta, nw_eta, fl_eta, rq_eta, rs_eta, elDef, -List.getD_eq_getElem?_getD] at h) <;> conv => whnf)
    | (refine Obl.mk (by first | omega | rfl | exact inK_byte _ | (simp only [inK, Int.toNat_natCast, nd_eta, sh_eta, it_eta, sto_eta, op_eta, ch_eta, nw_eta, fl_eta, rq_eta, rs_eta, elDef] <;> first | omega | grind) | grind [inK]) ?_ <;> conv => whnf)
    | (refine OblG.mk (by conv => whnf
                          repeat (first | (refine Bx.mk ?_) | (intro h; (try simp [nd_eta, sh_eta, it_eta, sto_eta, op_eta, ch_eta, nw_eta, fl_eta, rq_eta, rs_eta, elDef, -List.getD_eq_getElem?_getD] at h); conv => whnf))
                          first | omega | rfl | exact inK_byte _ | (simp only [inK, Int.toNat_natCast, nd_eta, sh_eta, it_eta, sto_eta, op_eta, ch_eta, nw_eta, fl_eta, rq_eta, rs_eta, elDef] <;> first | omega | grind) | grind [inK]) ?_ <;> conv => whnf)
    | (refine Gd.mk (fun h => ?_) <;> (try simp [nd_eta, sh_eta, it_eta, sto_eta, op_eta, ch_eta, nw_eta, fl_eta, rq_eta, rs_eta, elDef, -List.getD_eq_getElem?_getD] at h) <;> conv => whnf)
    | (refine And.intro ?_ ?_ <;> conv => whnf)
    | exact True.intro
    | (intro; conv => whnf)
  all_goals (refine hK ⟨_, _, _, _, _⟩ ⟨_, _, _, _, _⟩ _ ?_ ?_ ?_ <;> first | exact smN_eta (by assumption) | omega)
theorem s11 : (CtrOK Try.prog 11 (.gen .ps C11) ∧ Callable Try.prog 11) := by
  refine gen_ok (E := E11) (mkE_cons s12 (mkE_cons s13 (mkE_cons s25 (mkE_cons s26 (mkE_nil tab_ok))))) mix (O := O11) (C := C11) (own := .ps) Try.func11 rfl (by rfl) (by kernel_rfl) (fun args K h hbd => ?_)
  unfold C11 at h; split at h
  case h_2 => exact h.elim
  exact ⟨Nat.le_of_ble_eq_true rfl, a11 _ _ (by exact hbd) _ h⟩
end Go.Rs

