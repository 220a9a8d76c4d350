import Derived.Test.YtgmilpefnaadmaaDoorCV
set_option linter.all false
namespace Go.Rs
open Go.Proofs
set_option maxRecDepth 100000
set_option linter.unusedVariables false
set_option linter.unusedSimpArgs false
noncomputable def c75 (code : List Int) (p : Int) (n : Nd) (K : AV → List AV → Prop) : Prop :=
    Obl (((0 ≤ p ∧ p ≤ 9000000) ∧ byOk code) ∧ validM n = true) (∀ (m : Nd) (p' : Int), smN m → p ≤ p' ∧ p' ≤ p + 5000 → K (.st (ndC m)) [.ref [.ps .u8 code, .int .i64 p']])
noncomputable def C75 : List AV → (AV → List AV → Prop) → Prop
  | [.ref [.ps .u8 code, .int .i64 p], .st [.int .i64 n_0, .int .i64 n_1, .str n_2, .ps .str n_3, .ps .node n_4]], K => c75 code p ⟨n_0, n_1, n_2, n_3, n_4⟩ K
  | _, _ => False
noncomputable def E75 : Ctx := mkE tab [(31, .pure F31), (34, .gen .ps C34), (45, .gen .ps C45), (46, .gen .ps C46), (47, .gen .ow C47), (48, .gen .ps C48), (63, .gen .ps C63), (67, .gen .ow C67), (69, .gen .ps C69), (91, .gen .ps C91)]
noncomputable def O75 : Nat → List DI := ordL [(9, [.q 0, .q 2, .q 4, .q 9, .a 1, .l 3 [0], .a 5, .l 6 [0], .l 7 [0], .l 8 [0], .l 10 [0], .l 11 [], .q 12, .q 13, .q 14, .l 15 [], .q 16]), (11, [.q 0, .q 1, .q 2, .l 3 [0], .l 4 [], .q 5, .q 6, .q 7, .l 8 [], .q 9])]
theorem a75 (code : List Int) (p : Int) (n : Nd) (hb : BdAs [.ref [.ps .u8 code, .int .i64 p], .st (ndC n)]) (K : AV → List AV → Prop) (h : c75 code p n K) : abody E75 O75 .ps Tryd.f75 (Tryd.f75.body.getD .skip) [.ref [.ps .u8 code, .int .i64 p], .st (ndC n)] K := by
  simp only [BdAs, BdA, BdL, BdC, MX, ndC, shC, itC, stC, opC, chC, nwC, flC, rqC, rsC, enc, List.cons_append, List.nil_append, and_true, true_and] at hb
  unfold c75 at h
  obtain ⟨⟨⟨hp, ho⟩, hv⟩, hK⟩ := h
  have hok := validM_ok hv
  have hsm := hok.sm
  have hc := (cost_facts 2).2.2
  have hd5 : depthM n ≤ 5 := by obtain ⟨d, hd, h⟩ := hok; exact Nat.le_trans (depth_le h) hd
  have hcp : 0 < countM n := by rw [countM_eq]; omega
  conv => whnf
  repeat' first
    | (refine Cnd.mk (fun h => ?_) (fun h => ?_) <;> (try simp [etas, elDef, -List.getD_eq_getElem?_getD] at h) <;> conv => whnf)
    | (refine Obl.mk (by first | omega | rfl | exact inK_byte _ | (simp only [inK, Int.toNat_natCast, etas, elDef, m47, m63, m69, m91] <;> first | omega | grind) | grind [inK, m47, m63, m69, m91]) ?_ <;> conv => whnf)
    | (refine OblG.mk (by conv => whnf
                          repeat (first | (refine Bx.mk ?_) | (intro h; (try simp [etas, elDef, -List.getD_eq_getElem?_getD] at h); conv => whnf))
                          first | omega | rfl | exact inK_byte _ | (simp only [inK, Int.toNat_natCast, etas, elDef, m47, m63, m69, m91] <;> first | omega | grind) | grind [inK, m47, m63, m69, m91]) ?_ <;> conv => whnf)
    | (refine Gd.mk (fun h => ?_) <;> (try simp [etas, elDef, -List.getD_eq_getElem?_getD] at h) <;> conv => whnf)
    | (refine And.intro ?_ ?_ <;> conv => whnf)
    | exact True.intro
    | (intro; conv => whnf)
  rename_i l hl1 hl2 r hr
  rw [nd_eta] at hl1
  simp only [nd_eta] at hl2
  have hpl : (l.getD r.toNat []).length < depthM n := hl2 _ (getD_mem (by omega))
  repeat' first
    | (refine Cnd.mk (fun h => ?_) (fun h => ?_) <;> (try simp [etas, elDef, -List.getD_eq_getElem?_getD] at h) <;> conv => whnf)
    | (refine Obl.mk (by first | omega | rfl | exact inK_byte _ | (simp only [inK, Int.toNat_natCast, etas, elDef, m47, m63, m69, m91] <;> first | omega | grind) | grind [inK, m47, m63, m69, m91]) ?_ <;> conv => whnf)
    | (refine OblG.mk (by conv => whnf
                          repeat (first | (refine Bx.mk ?_) | (intro h; (try simp [etas, elDef, -List.getD_eq_getElem?_getD] at h); conv => whnf))
                          first | omega | rfl | exact inK_byte _ | (simp only [inK, Int.toNat_natCast, etas, elDef, m47, m63, m69, m91] <;> first | omega | grind) | grind [inK, m47, m63, m69, m91]) ?_ <;> conv => whnf)
    | (refine Gd.mk (fun h => ?_) <;> (try simp [etas, elDef, -List.getD_eq_getElem?_getD] at h) <;> conv => whnf)
    | (refine And.intro ?_ ?_ <;> conv => whnf)
    | exact True.intro
    | (intro; conv => whnf)
  all_goals (refine hK ⟨_, _, _, _, _⟩ _ ?_ ?_ <;> first | omega | exact smN_eta hsm | (simp only [nd_eta]; exact (validM_ok h.2).sm) | exact (by assumption : smN _ ∧ _).1)
theorem s75 : (CtrOK Tryd.prog 75 (.gen .ps C75) ∧ Callable Tryd.prog 75) := by
  refine gen_ok (E := E75) (mkE_cons s31 (mkE_cons s34 (mkE_cons s45 (mkE_cons s46 (mkE_cons s47 (mkE_cons s48 (mkE_cons s63 (mkE_cons s67 (mkE_cons s69 (mkE_cons s91 (mkE_nil tab_ok))))))))))) mix (O := O75) (C := C75) (own := .ps) Tryd.func75 rfl (by rfl) (by kernel_rfl) (fun args K h hbd => ?_)
  unfold C75 at h; split at h
  case h_2 => exact h.elim
  exact ⟨Nat.le_of_ble_eq_true rfl, a75 _ _ ⟨_, _, _, _, _⟩ (by exact hbd) _ h⟩
noncomputable def c49 (code : List Int) (p : Int) (K : AV → List AV → Prop) : Prop :=
    Obl ((0 ≤ p ∧ p ≤ 8000000) ∧ byOk code) (∀ (a b : Nd) (p' : Int), smN a → smN b → p ≤ p' ∧ p' ≤ p + 8000 → K (.tup [.st (ndC a), .st (ndC b)]) [.ref [.ps .u8 code, .int .i64 p']])
noncomputable def C49 : List AV → (AV → List AV → Prop) → Prop
  | [.ref [.ps .u8 code, .int .i64 p]], K => c49 code p K
  | _, _ => False
noncomputable def E49 : Ctx := mkE tab [(31, .pure F31), (43, .gen .ps C43), (45, .gen .ps C45), (75, .gen .ps C75)]
noncomputable def O49 : Nat → List DI := ordL [(3, [.q 0, .q 1, .q 2, .l 3 [0], .l 4 [], .l 5 []]), (4, [.q 0, .q 1, .l 2 [0], .l 3 [], .l 4 []])]
theorem a49 (code : List Int) (p : Int) (hb : BdAs [.ref [.ps .u8 code, .int .i64 p]]) (K : AV → List AV → Prop) (h : c49 code p K) : abody E49 O49 .ps Tryd.f49 (Tryd.f49.body.getD .skip) [.ref [.ps .u8 code, .int .i64 p]] K := by
  simp only [BdAs, BdA, BdL, BdC, MX, ndC, shC, itC, stC, opC, chC, nwC, flC, rqC, rsC, enc, List.cons_append, List.nil_append, and_true, true_and] at hb
  unfold c49 at h
  obtain ⟨⟨hp, ho⟩, hK⟩ := h
  conv => whnf
  repeat' first
    | (refine Cnd.mk (fun h => ?_) (fun h => ?_) <;> (try simp [etas, elDef, -List.getD_eq_getElem?_getD] at h) <;> conv => whnf)
    | (refine Obl.mk (by first | omega | rfl | exact inK_byte _ | (simp only [inK, Int.toNat_natCast, etas, elDef] <;> first | omega | grind) | grind [inK]) ?_ <;> conv => whnf)
    | (refine OblG.mk (by conv => whnf
                          repeat (first | (refine Bx.mk ?_) | (intro h; (try simp [etas, elDef, -List.getD_eq_getElem?_getD] at h); conv => whnf))
                          first | omega | rfl | exact inK_byte _ | (simp only [inK, Int.toNat_natCast, etas, elDef] <;> first | omega | grind) | grind [inK]) ?_ <;> conv => whnf)
    | (refine Gd.mk (fun h => ?_) <;> (try simp [etas, elDef, -List.getD_eq_getElem?_getD] at h) <;> conv => whnf)
    | (refine And.intro ?_ ?_ <;> conv => whnf)
    | exact True.intro
    | (intro; conv => whnf)
  all_goals (refine hK ⟨_, _, _, _, _⟩ ⟨_, _, _, _, _⟩ _ ?_ ?_ ?_ <;> first | exact smN_eta (by assumption) | omega)
theorem s49 : (CtrOK Tryd.prog 49 (.gen .ps C49) ∧ Callable Tryd.prog 49) := by
  refine gen_ok (E := E49) (mkE_cons s31 (mkE_cons s43 (mkE_cons s45 (mkE_cons s75 (mkE_nil tab_ok))))) mix (O := O49) (C := C49) (own := .ps) Tryd.func49 rfl (by rfl) (by kernel_rfl) (fun args K h hbd => ?_)
  unfold C49 at h; split at h
  case h_2 => exact h.elim
  exact ⟨Nat.le_of_ble_eq_true rfl, a49 _ _ (by exact hbd) _ h⟩
end Go.Rs

