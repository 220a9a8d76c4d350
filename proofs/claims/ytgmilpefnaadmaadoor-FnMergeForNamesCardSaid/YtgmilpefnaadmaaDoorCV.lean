import Derived.Test.YtgmilpefnaadmaaDoorCU
import Derived.Test.YtgmilpefnaadmaaDoorCR
set_option linter.all false
namespace Go.Rs
open Go.Proofs
set_option maxRecDepth 100000
set_option linter.unusedVariables false
set_option linter.unusedSimpArgs false
noncomputable def c23 (code : List Int) (K : AV → List AV → Prop) : Prop :=
    Obl (byOk code) (∀ (n : Nd) (p : List Bs), K (.tup [.st (ndC n), .ps .str p]) [])
noncomputable def C23 : List AV → (AV → List AV → Prop) → Prop
  | [.ps .u8 code], K => c23 code K
  | _, _ => False
noncomputable def E23 : Ctx := mkE tab [(42, .gen .ow C42), (43, .gen .ps C43), (44, .gen .ps C44)]
noncomputable def O23 : Nat → List DI := ordL [(3, [.q 0, .q 1, .q 2, .l 3 [0], .l 4 [], .q 5])]
theorem a23 (code : List Int) (hb : BdAs [.ps .u8 code]) (K : AV → List AV → Prop) (h : c23 code K) : abody E23 O23 .ps Tryd.f23 (Tryd.f23.body.getD .skip) [.ps .u8 code] K := by
  simp only [BdAs, BdA, BdL, BdC, MX, ndC, shC, itC, stC, opC, chC, nwC, flC, rqC, rsC, enc, List.cons_append, List.nil_append, and_true, true_and] at hb
  unfold c23 at h
  obtain ⟨ho, hK⟩ := h
  conv => whnf
  repeat' first
    | (refine Cnd.mk (fun h => ?_) (fun h => ?_) <;> (try simp [etas, elDef, -List.getD_eq_getElem?_getD] at h) <;> conv => whnf)
    | (refine Obl.mk (by first | omega | rfl | exact inK_byte _ | (simp only [inK, Int.toNat_natCast, etas, elDef] <;> first | omega | grind) | grind [inK]) ?_ <;> conv => whnf)
    | (refine OblG.mk (by conv => whnf
                          repeat (first | (refine Bx.mk ?_) | (intro h; (try simp [etas, elDef, -List.getD_eq_getElem?_getD] at h); conv => whnf))
                          first | omega | rfl | exact inK_byte _ | (simp only [inK, Int.toNat_natCast, etas, elDef] <;> first | omega | grind) | grind [inK]) ?_ <;> conv => whnf)
    | (refine Gd.mk (fun h => ?_) <;> (try simp [etas, elDef, -List.getD_eq_getElem?_getD] at h) <;> conv => whnf)
    | (refine And.intro ?_ ?_ <;> conv => whnf)
    | exact True.intro
    | (intro; conv => whnf)
  all_goals exact hK ⟨_, _, _, _, _⟩ _
theorem s23 : (CtrOK Tryd.prog 23 (.gen .ps C23) ∧ Callable Tryd.prog 23) := by
  refine gen_ok (E := E23) (mkE_cons s42 (mkE_cons s43 (mkE_cons s44 (mkE_nil tab_ok)))) mix (O := O23) (C := C23) (own := .ps) Tryd.func23 rfl (by rfl) (by kernel_rfl) (fun args K h hbd => ?_)
  unfold C23 at h; split at h
  case h_2 => exact h.elim
  exact ⟨Nat.le_of_ble_eq_true rfl, a23 _ (by exact hbd) _ h⟩
noncomputable def c10 (code : List Int) (K : AV → List AV → Prop) : Prop :=
    Obl (byOk code) (∀ (n : Nd) (p : List Bs), K (.tup [.st (ndC n), .ps .str p]) [])
noncomputable def C10 : List AV → (AV → List AV → Prop) → Prop
  | [.ps .u8 code], K => c10 code K
  | _, _ => False
noncomputable def E10 : Ctx := mkE tab [(23, .gen .ps C23)]
noncomputable def O10 : Nat → List DI := ordL []
theorem a10 (code : List Int) (hb : BdAs [.ps .u8 code]) (K : AV → List AV → Prop) (h : c10 code K) : abody E10 O10 .ps Tryd.f10 (Tryd.f10.body.getD .skip) [.ps .u8 code] K := by
  simp only [BdAs, BdA, BdL, BdC, MX, ndC, shC, itC, stC, opC, chC, nwC, flC, rqC, rsC, enc, List.cons_append, List.nil_append, and_true, true_and] at hb
  unfold c10 at h
  obtain ⟨ho, hK⟩ := h
  conv => whnf
  repeat' first
    | (refine Cnd.mk (fun h => ?_) (fun h => ?_) <;> (try simp [etas, elDef, -List.getD_eq_getElem?_getD] at h) <;> conv => whnf)
    | (refine Obl.mk (by first | omega | rfl | exact inK_byte _ | (simp only [inK, Int.toNat_natCast, etas, elDef] <;> first | omega | grind) | grind [inK]) ?_ <;> conv => whnf)
    | (refine OblG.mk (by conv => whnf
                          repeat (first | (refine Bx.mk ?_) | (intro h; (try simp [etas, elDef, -List.getD_eq_getElem?_getD] at h); conv => whnf))
                          first | omega | rfl | exact inK_byte _ | (simp only [inK, Int.toNat_natCast, etas, elDef] <;> first | omega | grind) | grind [inK]) ?_ <;> conv => whnf)
    | (refine Gd.mk (fun h => ?_) <;> (try simp [etas, elDef, -List.getD_eq_getElem?_getD] at h) <;> conv => whnf)
    | (refine And.intro ?_ ?_ <;> conv => whnf)
    | exact True.intro
    | (intro; conv => whnf)
  all_goals exact hK ⟨_, _, _, _, _⟩ _
theorem s10 : (CtrOK Tryd.prog 10 (.gen .ps C10) ∧ Callable Tryd.prog 10) := by
  refine gen_ok (E := E10) (mkE_cons s23 (mkE_nil tab_ok)) mix (O := O10) (C := C10) (own := .ps) Tryd.func10 rfl (by rfl) (by kernel_rfl) (fun args K h hbd => ?_)
  unfold C10 at h; split at h
  case h_2 => exact h.elim
  exact ⟨Nat.le_of_ble_eq_true rfl, a10 _ (by exact hbd) _ h⟩
noncomputable def c12 (n : Nd) (p : List Bs) (K : AV → List AV → Prop) : Prop :=
    K (optN (removeNodeM n p)) []
noncomputable def C12 : List AV → (AV → List AV → Prop) → Prop
  | [.st [.int .i64 n_0, .int .i64 n_1, .str n_2, .ps .str n_3, .ps .node n_4], .ps .str p], K => c12 ⟨n_0, n_1, n_2, n_3, n_4⟩ p K
  | _, _ => False
noncomputable def E12 : Ctx := mkE tab [(31, .pure F31), (32, .pure F32), (33, .gen .ps C33), (34, .gen .ps C34)]
noncomputable def O12 : Nat → List DI := ordL []
theorem a12 (n : Nd) (p : List Bs) (hb : BdAs [.st (ndC n), .ps .str p]) (K : AV → List AV → Prop) (h : c12 n p K) : abody E12 O12 .ps Tryd.f12 (Tryd.f12.body.getD .skip) [.st (ndC n), .ps .str p] K := by
  simp only [BdAs, BdA, BdL, BdC, MX, ndC, shC, itC, stC, opC, chC, nwC, flC, rqC, rsC, enc, List.cons_append, List.nil_append, and_true, true_and] at hb
  unfold c12 at h
  have hK9 := h
  have h1 := fun h => validM_ok (n := n) h
  conv => whnf
  repeat' first
    | (refine Cnd.mk (fun h => ?_) (fun h => ?_) <;> (try simp [etas, elDef, -List.getD_eq_getElem?_getD] at h) <;> conv => whnf)
    | (refine Obl.mk (by first | omega | rfl | exact inK_byte _ | (simp only [inK, Int.toNat_natCast, etas, elDef] <;> first | omega | grind) | grind [inK]) ?_ <;> conv => whnf)
    | (refine OblG.mk (by conv => whnf
                          repeat (first | (refine Bx.mk ?_) | (intro h; (try simp [etas, elDef, -List.getD_eq_getElem?_getD] at h); conv => whnf))
                          first | omega | rfl | exact inK_byte _ | (simp only [inK, Int.toNat_natCast, etas, elDef] <;> first | omega | grind) | grind [inK]) ?_ <;> conv => whnf)
    | (refine Gd.mk (fun h => ?_) <;> (try simp [etas, elDef, -List.getD_eq_getElem?_getD] at h) <;> conv => whnf)
    | (refine And.intro ?_ ?_ <;> conv => whnf)
    | exact True.intro
    | (intro; conv => whnf)
  · have e : removeNodeM n p = none := by unfold removeNodeM; rw [if_neg (by grind)]
    exact leafV hK9 (by rw [e]; rfl)
  · have e : removeNodeM n p = if (removeAtM n p).isSome && validM ((removeAtM n p).getD default) then some ((removeAtM n p).getD default) else none := by
      unfold removeNodeM checkedM
      rw [if_pos (by grind)]
      cases removeAtM n p <;> simp
    refine leafV hK9 ?_
    rw [e]
    simp only [optN, nd_eta]; rfl
theorem s12 : (CtrOK Tryd.prog 12 (.gen .ps C12) ∧ Callable Tryd.prog 12) := by
  refine gen_ok (E := E12) (mkE_cons s31 (mkE_cons s32 (mkE_cons s33 (mkE_cons s34 (mkE_nil tab_ok))))) mix (O := O12) (C := C12) (own := .ps) Tryd.func12 rfl (by rfl) (by kernel_rfl) (fun args K h hbd => ?_)
  unfold C12 at h; split at h
  case h_2 => exact h.elim
  exact ⟨Nat.le_of_ble_eq_true rfl, a12 ⟨_, _, _, _, _⟩ _ (by exact hbd) _ h⟩
noncomputable def c18 (n : Nd) (p : List Bs) (x : Nd) (K : AV → List AV → Prop) : Prop :=
    K (optN (addNodeM n p x)) []
noncomputable def C18 : List AV → (AV → List AV → Prop) → Prop
  | [.st [.int .i64 n_0, .int .i64 n_1, .str n_2, .ps .str n_3, .ps .node n_4], .ps .str p, .st [.int .i64 x_0, .int .i64 x_1, .str x_2, .ps .str x_3, .ps .node x_4]], K => c18 ⟨n_0, n_1, n_2, n_3, n_4⟩ p ⟨x_0, x_1, x_2, x_3, x_4⟩ K
  | _, _ => False
noncomputable def E18 : Ctx := mkE tab [(31, .pure F31), (32, .pure F32), (33, .gen .ps C33), (48, .gen .ps C48)]
noncomputable def O18 : Nat → List DI := ordL []
theorem a18 (n : Nd) (p : List Bs) (x : Nd) (hb : BdAs [.st (ndC n), .ps .str p, .st (ndC x)]) (K : AV → List AV → Prop) (h : c18 n p x K) : abody E18 O18 .ps Tryd.f18 (Tryd.f18.body.getD .skip) [.st (ndC n), .ps .str p, .st (ndC x)] K := by
  simp only [BdAs, BdA, BdL, BdC, MX, ndC, shC, itC, stC, opC, chC, nwC, flC, rqC, rsC, enc, List.cons_append, List.nil_append, and_true, true_and] at hb
  unfold c18 at h
  have hK9 := h
  have h1 := fun h => validM_ok (n := n) h
  have h2 := fun h => (validM_ok (n := x) h).sm
  conv => whnf
  repeat' first
    | (refine Cnd.mk (fun h => ?_) (fun h => ?_) <;> (try simp [etas, elDef, -List.getD_eq_getElem?_getD] at h) <;> conv => whnf)
    | (refine Obl.mk (by first | omega | rfl | exact inK_byte _ | (simp only [inK, Int.toNat_natCast, etas, elDef] <;> first | omega | grind) | grind [inK]) ?_ <;> conv => whnf)
    | (refine OblG.mk (by conv => whnf
                          repeat (first | (refine Bx.mk ?_) | (intro h; (try simp [etas, elDef, -List.getD_eq_getElem?_getD] at h); conv => whnf))
                          first | omega | rfl | exact inK_byte _ | (simp only [inK, Int.toNat_natCast, etas, elDef] <;> first | omega | grind) | grind [inK]) ?_ <;> conv => whnf)
    | (refine Gd.mk (fun h => ?_) <;> (try simp [etas, elDef, -List.getD_eq_getElem?_getD] at h) <;> conv => whnf)
    | (refine And.intro ?_ ?_ <;> conv => whnf)
    | exact True.intro
    | (intro; conv => whnf)
  · have e : addNodeM n p x = none := by unfold addNodeM; rw [if_neg (by grind)]
    exact leafV hK9 (by rw [e]; rfl)
  · have e : addNodeM n p x = if (addAtM n p x).isSome && validM ((addAtM n p x).getD default) then some ((addAtM n p x).getD default) else none := by
      unfold addNodeM checkedM
      rw [if_pos (by grind)]
      cases addAtM n p x <;> simp
    refine leafV hK9 ?_
    rw [e]
    simp only [optN, nd_eta]; rfl
theorem s18 : (CtrOK Tryd.prog 18 (.gen .ps C18) ∧ Callable Tryd.prog 18) := by
  refine gen_ok (E := E18) (mkE_cons s31 (mkE_cons s32 (mkE_cons s33 (mkE_cons s48 (mkE_nil tab_ok))))) mix (O := O18) (C := C18) (own := .ps) Tryd.func18 rfl (by rfl) (by kernel_rfl) (fun args K h hbd => ?_)
  unfold C18 at h; split at h
  case h_2 => exact h.elim
  exact ⟨Nat.le_of_ble_eq_true rfl, a18 ⟨_, _, _, _, _⟩ _ ⟨_, _, _, _, _⟩ (by exact hbd) _ h⟩
noncomputable def c17 (code : List Int) (K : AV → List AV → Prop) : Prop :=
    Obl (byOk code) (∀ (n : Nd) (p : List Bs) (x : Nd), K (.tup [.st (ndC n), .ps .str p, .st (ndC x)]) [])
noncomputable def C17 : List AV → (AV → List AV → Prop) → Prop
  | [.ps .u8 code], K => c17 code K
  | _, _ => False
noncomputable def E17 : Ctx := mkE tab [(42, .gen .ow C42), (43, .gen .ps C43), (44, .gen .ps C44), (45, .gen .ps C45), (46, .gen .ps C46), (47, .gen .ow C47)]
noncomputable def O17 : Nat → List DI := ordL [(6, [.q 0, .q 1, .q 2, .l 3 [0], .l 4 [], .q 5, .l 6 []])]
theorem a17 (code : List Int) (hb : BdAs [.ps .u8 code]) (K : AV → List AV → Prop) (h : c17 code K) : abody E17 O17 .ps Tryd.f17 (Tryd.f17.body.getD .skip) [.ps .u8 code] K := by
  simp only [BdAs, BdA, BdL, BdC, MX, ndC, shC, itC, stC, opC, chC, nwC, flC, rqC, rsC, enc, List.cons_append, List.nil_append, and_true, true_and] at hb
  unfold c17 at h
  obtain ⟨ho, hK⟩ := h
  have hc := (cost_facts 2).2.2
  conv => whnf
  repeat' first
    | (refine Cnd.mk (fun h => ?_) (fun h => ?_) <;> (try simp [etas, elDef, -List.getD_eq_getElem?_getD] at h) <;> conv => whnf)
    | (refine Obl.mk (by first | omega | rfl | exact inK_byte _ | (simp only [inK, Int.toNat_natCast, etas, elDef, m47] <;> first | omega | grind) | grind [inK, m47]) ?_ <;> conv => whnf)
    | (refine OblG.mk (by conv => whnf
                          repeat (first | (refine Bx.mk ?_) | (intro h; (try simp [etas, elDef, -List.getD_eq_getElem?_getD] at h); conv => whnf))
                          first | omega | rfl | exact inK_byte _ | (simp only [inK, Int.toNat_natCast, etas, elDef, m47] <;> first | omega | grind) | grind [inK, m47]) ?_ <;> conv => whnf)
    | (refine Gd.mk (fun h => ?_) <;> (try simp [etas, elDef, -List.getD_eq_getElem?_getD] at h) <;> conv => whnf)
    | (refine And.intro ?_ ?_ <;> conv => whnf)
    | exact True.intro
    | (intro; conv => whnf)
  all_goals exact hK ⟨_, _, _, _, _⟩ _ ⟨_, _, _, _, _⟩
theorem s17 : (CtrOK Tryd.prog 17 (.gen .ps C17) ∧ Callable Tryd.prog 17) := by
  refine gen_ok (E := E17) (mkE_cons s42 (mkE_cons s43 (mkE_cons s44 (mkE_cons s45 (mkE_cons s46 (mkE_cons s47 (mkE_nil tab_ok))))))) mix (O := O17) (C := C17) (own := .ps) Tryd.func17 rfl (by rfl) (by kernel_rfl) (fun args K h hbd => ?_)
  unfold C17 at h; split at h
  case h_2 => exact h.elim
  exact ⟨Nat.le_of_ble_eq_true rfl, a17 _ (by exact hbd) _ h⟩
end Go.Rs

