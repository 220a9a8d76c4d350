import Derived.Test.YtkalanmdpnapbaaDoorCU
import Derived.Test.YtkalanmdpnapbaaDoorCQ
set_option linter.all false
namespace Go.Rs
open Go.Proofs
set_option maxRecDepth 100000
set_option linter.unusedVariables false
set_option linter.unusedSimpArgs false
noncomputable def c74 (code : List Int) (p : Int) (n : Nd) (K : AV → List AV → Prop) : Prop :=
    Obl (((0 ≤ p ∧ p ≤ 9000000) ∧ byOk code) ∧ validM n = true) (∀ (m : Nd) (p' : Int), smN m → p ≤ p' ∧ p' ≤ p + 5000 → K (.st (ndC m)) [.ref [.ps .u8 code, .int .i64 p']])
noncomputable def C74 : List AV → (AV → List AV → Prop) → Prop
  | [.ref [.ps .u8 code, .int .i64 p], .st [.int .i64 n_0, .int .i64 n_1, .str n_2, .ps .str n_3, .ps .node n_4]], K => c74 code p ⟨n_0, n_1, n_2, n_3, n_4⟩ K
  | _, _ => False
noncomputable def E74 : Ctx := mkE tab [(42, .pure F42), (53, .gen .ps C53), (66, .gen .ow C66), (67, .gen .ps C67), (83, .gen .ps C83), (87, .gen .ow C87), (95, .gen .ps C95), (96, .gen .ps C96), (97, .gen .ps C97), (98, .gen .ps C98)]
noncomputable def O74 : Nat → List DI := ordL [(9, [.q 0, .q 2, .q 4, .q 9, .a 1, .l 3 [0], .a 5, .l 6 [0], .l 7 [0], .l 8 [0], .l 10 [0], .l 11 [], .q 12, .q 13, .q 14, .l 15 [], .q 16]), (11, [.q 0, .q 1, .q 2, .l 3 [0], .l 4 [], .q 5, .q 6, .q 7, .l 8 [], .q 9])]
theorem a74 (code : List Int) (p : Int) (n : Nd) (hb : BdAs [.ref [.ps .u8 code, .int .i64 p], .st (ndC n)]) (K : AV → List AV → Prop) (h : c74 code p n K) : abody E74 O74 .ps Tryd.f74 (Tryd.f74.body.getD .skip) [.ref [.ps .u8 code, .int .i64 p], .st (ndC n)] K := by
  simp only [BdAs, BdA, BdL, BdC, MX, ndC, shC, itC, stC, opC, chC, nwC, flC, rqC, rsC, enc, List.cons_append, List.nil_append, and_true, true_and] at hb
  unfold c74 at h
  obtain ⟨⟨⟨hp, ho⟩, hv⟩, hK⟩ := h
  have hok := validM_ok hv
  have hsm := hok.sm
  have hc := (cost_facts 2).2.2
  have hd5 : depthM n ≤ 5 := by obtain ⟨d, hd, h⟩ := hok; exact Nat.le_trans (depth_le h) hd
  have hcp : 0 < countM n := by rw [countM_eq]; omega
  conv => whnf
  repeat' first
    | (refine Cnd.mk (fun h => ?_) (fun h => ?_) <;> (try simp [etas, elDef, -List.getD_eq_getElem?_getD] at h) <;> conv => whnf)
    | (refine Obl.mk (by first | omega | rfl | exact inK_byte _ | (simp only [inK, Int.toNat_natCast, etas, elDef, m67, m87, m95, m98] <;> first | omega | grind) | grind [inK, m67, m87, m95, m98]) ?_ <;> conv => whnf)
    | (refine OblG.mk (by conv => whnf
                          repeat (first | (refine Bx.mk ?_) | (intro h; (try simp [etas, elDef, -List.getD_eq_getElem?_getD] at h); conv => whnf))
                          first | omega | rfl | exact inK_byte _ | (simp only [inK, Int.toNat_natCast, etas, elDef, m67, m87, m95, m98] <;> first | omega | grind) | grind [inK, m67, m87, m95, m98]) ?_ <;> conv => whnf)
    | (refine Gd.mk (fun h => ?_) <;> (try simp [etas, elDef, -List.getD_eq_getElem?_getD] at h) <;> conv => whnf)
    | (refine And.intro ?_ ?_ <;> conv => whnf)
    | exact True.intro
    | (intro; conv => whnf)
  rename_i l hl1 hl2 r hr
  rw [nd_eta] at hl1
  simp only [nd_eta] at hl2
  have hpl : (l.getD r.toNat []).length < depthM n := hl2 _ (getD_mem (by omega))
  repeat' first
    | (refine Cnd.mk (fun h => ?_) (fun h => ?_) <;> (try simp [etas, elDef, -List.getD_eq_getElem?_getD] at h) <;> conv => whnf)
    | (refine Obl.mk (by first | omega | rfl | exact inK_byte _ | (simp only [inK, Int.toNat_natCast, etas, elDef, m67, m87, m95, m98] <;> first | omega | grind) | grind [inK, m67, m87, m95, m98]) ?_ <;> conv => whnf)
    | (refine OblG.mk (by conv => whnf
                          repeat (first | (refine Bx.mk ?_) | (intro h; (try simp [etas, elDef, -List.getD_eq_getElem?_getD] at h); conv => whnf))
                          first | omega | rfl | exact inK_byte _ | (simp only [inK, Int.toNat_natCast, etas, elDef, m67, m87, m95, m98] <;> first | omega | grind) | grind [inK, m67, m87, m95, m98]) ?_ <;> conv => whnf)
    | (refine Gd.mk (fun h => ?_) <;> (try simp [etas, elDef, -List.getD_eq_getElem?_getD] at h) <;> conv => whnf)
    | (refine And.intro ?_ ?_ <;> conv => whnf)
    | exact True.intro
    | (intro; conv => whnf)
  all_goals (refine hK ⟨_, _, _, _, _⟩ _ ?_ ?_ <;> first | omega | exact smN_eta hsm | (simp only [nd_eta]; exact (validM_ok h.2).sm) | exact (by assumption : smN _ ∧ _).1)
theorem s74 : (CtrOK Tryd.prog 74 (.gen .ps C74) ∧ Callable Tryd.prog 74) := by
  refine gen_ok (E := E74) (mkE_cons s42 (mkE_cons s53 (mkE_cons s66 (mkE_cons s67 (mkE_cons s83 (mkE_cons s87 (mkE_cons s95 (mkE_cons s96 (mkE_cons s97 (mkE_cons s98 (mkE_nil tab_ok))))))))))) mix (O := O74) (C := C74) (own := .ps) Tryd.func74 rfl (by rfl) (by kernel_rfl) (fun args K h hbd => ?_)
  unfold C74 at h; split at h
  case h_2 => exact h.elim
  exact ⟨Nat.le_of_ble_eq_true rfl, a74 _ _ ⟨_, _, _, _, _⟩ (by exact hbd) _ h⟩
noncomputable def c47 (code : List Int) (p : Int) (K : AV → List AV → Prop) : Prop :=
    Obl ((0 ≤ p ∧ p ≤ 8000000) ∧ byOk code) (∀ (a b : Nd) (p' : Int), smN a → smN b → p ≤ p' ∧ p' ≤ p + 8000 → K (.tup [.st (ndC a), .st (ndC b)]) [.ref [.ps .u8 code, .int .i64 p']])
noncomputable def C47 : List AV → (AV → List AV → Prop) → Prop
  | [.ref [.ps .u8 code, .int .i64 p]], K => c47 code p K
  | _, _ => False
noncomputable def E47 : Ctx := mkE tab [(36, .gen .ps C36), (42, .pure F42), (53, .gen .ps C53), (74, .gen .ps C74)]
noncomputable def O47 : Nat → List DI := ordL [(3, [.q 0, .q 1, .q 2, .l 3 [0], .l 4 [], .l 5 []]), (4, [.q 0, .q 1, .l 2 [0], .l 3 [], .l 4 []])]
theorem a47 (code : List Int) (p : Int) (hb : BdAs [.ref [.ps .u8 code, .int .i64 p]]) (K : AV → List AV → Prop) (h : c47 code p K) : abody E47 O47 .ps Tryd.f47 (Tryd.f47.body.getD .skip) [.ref [.ps .u8 code, .int .i64 p]] K := by
  simp only [BdAs, BdA, BdL, BdC, MX, ndC, shC, itC, stC, opC, chC, nwC, flC, rqC, rsC, enc, List.cons_append, List.nil_append, and_true, true_and] at hb
  unfold c47 at h
  obtain ⟨⟨hp, ho⟩, hK⟩ := h
  conv => whnf
  repeat' first
    | (refine Cnd.mk (fun h => ?_) (fun h => ?_) <;> (try simp [etas, elDef, -List.getD_eq_getElem?_getD] at h) <;> conv => whnf)
    | (refine Obl.mk (by first | omega | rfl | exact inK_byte _ | (simp only [inK, Int.toNat_natCast, etas, elDef] <;> first | omega | grind) | grind [inK]) ?_ <;> conv => whnf)
    | (refine OblG.mk (by conv => whnf
                          repeat (first | (refine Bx.mk ?_) | (intro h; (try simp [etas, elDef, -List.getD_eq_getElem?_getD] at h); conv => whnf))
                          first | omega | rfl | exact inK_byte _ | (simp only [inK, Int.toNat_natCast, etas, elDef] <;> first | omega | grind) | grind [inK]) ?_ <;> conv => whnf)
    | (refine Gd.mk (fun h => ?_) <;> (try simp [etas, elDef, -List.getD_eq_getElem?_getD] at h) <;> conv => whnf)
    | (refine And.intro ?_ ?_ <;> conv => whnf)
    | exact True.intro
    | (intro; conv => whnf)
  all_goals (refine hK ⟨_, _, _, _, _⟩ ⟨_, _, _, _, _⟩ _ ?_ ?_ ?_ <;> first | exact smN_eta (by assumption) | omega)
theorem s47 : (CtrOK Tryd.prog 47 (.gen .ps C47) ∧ Callable Tryd.prog 47) := by
  refine gen_ok (E := E47) (mkE_cons s36 (mkE_cons s42 (mkE_cons s53 (mkE_cons s74 (mkE_nil tab_ok))))) mix (O := O47) (C := C47) (own := .ps) Tryd.func47 rfl (by rfl) (by kernel_rfl) (fun args K h hbd => ?_)
  unfold C47 at h; split at h
  case h_2 => exact h.elim
  exact ⟨Nat.le_of_ble_eq_true rfl, a47 _ _ (by exact hbd) _ h⟩
noncomputable def c18 (code : List Int) (K : AV → List AV → Prop) : Prop :=
    Obl (byOk code) (∀ (a b : Nd), smN a → smN b → K (.tup [.st (ndC a), .st (ndC b)]) [])
noncomputable def C18 : List AV → (AV → List AV → Prop) → Prop
  | [.ps .u8 code], K => c18 code K
  | _, _ => False
noncomputable def E18 : Ctx := mkE tab [(30, .gen .ow C30), (47, .gen .ps C47)]
noncomputable def O18 : Nat → List DI := ordL []
theorem a18 (code : List Int) (hb : BdAs [.ps .u8 code]) (K : AV → List AV → Prop) (h : c18 code K) : abody E18 O18 .ps Tryd.f18 (Tryd.f18.body.getD .skip) [.ps .u8 code] K := by
  simp only [BdAs, BdA, BdL, BdC, MX, ndC, shC, itC, stC, opC, chC, nwC, flC, rqC, rsC, enc, List.cons_append, List.nil_append, and_true, true_and] at hb
  unfold c18 at h
  obtain ⟨ho, hK⟩ := h
  conv => whnf
  repeat' first
    | (refine Cnd.mk (fun h => ?_) (fun h => ?_) <;> (try simp [etas, elDef, -List.getD_eq_getElem?_getD] at h) <;> conv => whnf)
    | (refine Obl.mk (by first | omega | rfl | exact inK_byte _ | (simp only [inK, Int.toNat_natCast, etas, elDef] <;> first | omega | grind) | grind [inK]) ?_ <;> conv => whnf)
    | (refine OblG.mk (by conv => whnf
                          repeat (first | (refine Bx.mk ?_) | (intro h; (try simp [etas, elDef, -List.getD_eq_getElem?_getD] at h); conv => whnf))
                          first | omega | rfl | exact inK_byte _ | (simp only [inK, Int.toNat_natCast, etas, elDef] <;> first | omega | grind) | grind [inK]) ?_ <;> conv => whnf)
    | (refine Gd.mk (fun h => ?_) <;> (try simp [etas, elDef, -List.getD_eq_getElem?_getD] at h) <;> conv => whnf)
    | (refine And.intro ?_ ?_ <;> conv => whnf)
    | exact True.intro
    | (intro; conv => whnf)
  all_goals (refine hK ⟨_, _, _, _, _⟩ ⟨_, _, _, _, _⟩ ?_ ?_ <;> first | exact smN_eta (by assumption) | omega)
theorem s18 : (CtrOK Tryd.prog 18 (.gen .ps C18) ∧ Callable Tryd.prog 18) := by
  refine gen_ok (E := E18) (mkE_cons s30 (mkE_cons s47 (mkE_nil tab_ok))) mix (O := O18) (C := C18) (own := .ps) Tryd.func18 rfl (by rfl) (by kernel_rfl) (fun args K h hbd => ?_)
  unfold C18 at h; split at h
  case h_2 => exact h.elim
  exact ⟨Nat.le_of_ble_eq_true rfl, a18 _ (by exact hbd) _ h⟩
end Go.Rs

