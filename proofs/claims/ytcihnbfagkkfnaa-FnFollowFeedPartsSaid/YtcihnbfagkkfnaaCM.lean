import Derived.Test.YtcihnbfagkkfnaaCL
import Derived.Test.YtcihnbfagkkfnaaCI
import Derived.Test.YtcihnbfagkkfnaaM9
set_option linter.all false
namespace Go.Rs
open Go.Proofs
set_option maxRecDepth 100000
set_option linter.unusedVariables false
set_option linter.unusedSimpArgs false
noncomputable def c19 (l : List Chg) (v : Int) (K : AV → List AV → Prop) : Prop :=
    K (optS (stoAtM l v)) []
noncomputable def C19 : List AV → (AV → List AV → Prop) → Prop
  | [.ps .chg l, .int .i64 v], K => c19 l v K
  | _, _ => False
noncomputable def E19 : Ctx := mkE tab [(48, .gen .ps C48)]
noncomputable def O19 : Nat → List DI := ordL []
theorem a19 (l : List Chg) (v : Int) (hb : BdAs [.ps .chg l, .int .i64 v]) (K : AV → List AV → Prop) (h : c19 l v K) : abody E19 O19 .ps Try.f19 (Try.f19.body.getD .skip) [.ps .chg l, .int .i64 v] K := by
  simp only [BdAs, BdA, BdL, BdC, MX, ndC, shC, itC, stC, opC, chC, nwC, flC, rqC, rsC, enc, List.cons_append, List.nil_append, and_true, true_and] at hb
  unfold c19 at h
  have hK := h
  conv => whnf
  repeat' first
    | (refine Cnd.mk (fun h => ?_) (fun h => ?_) <;> (try simp [nd_eta, sh_eta, it_eta, sto_eta, op_eta, ch_eta, nw_eta, fl_eta, rq_eta, rs_eta, elDef, -List.getD_eq_getElem?_getD] at h) <;> conv => whnf)
    | (refine Obl.mk (by first | omega | rfl | exact inK_byte _ | (simp only [inK, Int.toNat_natCast, nd_eta, sh_eta, it_eta, sto_eta, op_eta, ch_eta, nw_eta, fl_eta, rq_eta, rs_eta, elDef] <;> first | omega | grind) | grind [inK]) ?_ <;> conv => whnf)
    | (refine OblG.mk (by conv => whnf
                          repeat (first | (refine Bx.mk ?_) | (intro h; (try simp [nd_eta, sh_eta, it_eta, sto_eta, op_eta, ch_eta, nw_eta, fl_eta, rq_eta, rs_eta, elDef, -List.getD_eq_getElem?_getD] at h); conv => whnf))
                          first | omega | rfl | exact inK_byte _ | (simp only [inK, Int.toNat_natCast, nd_eta, sh_eta, it_eta, sto_eta, op_eta, ch_eta, nw_eta, fl_eta, rq_eta, rs_eta, elDef] <;> first | omega | grind) | grind [inK]) ?_ <;> conv => whnf)
    | (refine Gd.mk (fun h => ?_) <;> (try simp [nd_eta, sh_eta, it_eta, sto_eta, op_eta, ch_eta, nw_eta, fl_eta, rq_eta, rs_eta, elDef, -List.getD_eq_getElem?_getD] at h) <;> conv => whnf)
    | (refine And.intro ?_ ?_ <;> conv => whnf)
    | exact True.intro
    | (intro; conv => whnf)
  · have e : stoAtM l v = none := by grind [stoAtM]
    exact leafV hK (by rw [e]; (try simp only [nd_eta, sh_eta, it_eta, sto_eta, op_eta, ch_eta, nw_eta, fl_eta, rq_eta, rs_eta, elDef, Int.toNat_natCast]); (first | done | rfl | simp [optS, stC]))
  · exact leafV hK (by (try simp only [nd_eta, sh_eta, it_eta, sto_eta, op_eta, ch_eta, nw_eta, fl_eta, rq_eta, rs_eta, elDef, Int.toNat_natCast]); (first | done | rfl | simp [optS, stC]))
theorem s19 : (CtrOK Try.prog 19 (.gen .ps C19) ∧ Callable Try.prog 19) := by
  refine gen_ok (E := E19) (mkE_cons s48 (mkE_nil tab_ok)) mix (O := O19) (C := C19) (own := .ps) Try.func19 rfl (by rfl) (by kernel_rfl) (fun args K h hbd => ?_)
  unfold C19 at h; split at h
  case h_2 => exact h.elim
  exact ⟨Nat.le_of_ble_eq_true rfl, a19 _ _ (by exact hbd) _ h⟩
noncomputable def c12 (s : Sto) (b : Bs) (K : AV → List AV → Prop) : Prop :=
    K (optT (getM s b)) []
noncomputable def C12 : List AV → (AV → List AV → Prop) → Prop
  | [.st [.ps .item s_0, .int .i64 s_1], .str b], K => c12 ⟨s_0, s_1⟩ b K
  | _, _ => False
noncomputable def E12 : Ctx := mkE tab [(14, .pure F14), (32, .pure F32), (38, .gen .ps C38)]
noncomputable def O12 : Nat → List DI := ordL []
theorem a12 (s : Sto) (b : Bs) (hb : BdAs [.st (stC s), .str b]) (K : AV → List AV → Prop) (h : c12 s b K) : abody E12 O12 .ps Try.f12 (Try.f12.body.getD .skip) [.st (stC s), .str b] K := by
  simp only [BdAs, BdA, BdL, BdC, MX, ndC, shC, itC, stC, opC, chC, nwC, flC, rqC, rsC, enc, List.cons_append, List.nil_append, and_true, true_and] at hb
  unfold c12 at h
  have hK := h
  have h9 : storeM s = true → smS s ∧ sortedI s.items := fun h => ⟨storeM_sm h, storeM_sorted h⟩
  have h8 : storeM s = true → 0 ≤ s.clock ∧ s.clock ≤ 999 ∧ s.items.length ≤ 10 := storeM_clock
  have hfl : foundI s.items b = true → lbI s.items b < s.items.length := fun h => by simp only [foundI, Bool.and_eq_true, decide_eq_true_eq] at h; exact h.1
  have h7 := fun h : storeM s = true => lookI_found (b := b) (storeM_asc h)
  have h6 := fun (h : storeM s = true) (hf : foundI s.items b = true) => (storeM_sm h).item (hfl hf)
  conv => whnf
  repeat' first
    | (refine Cnd.mk (fun h => ?_) (fun h => ?_) <;> (try simp [nd_eta, sh_eta, it_eta, sto_eta, op_eta, ch_eta, nw_eta, fl_eta, rq_eta, rs_eta, elDef, -List.getD_eq_getElem?_getD] at h) <;> conv => whnf)
    | (refine Obl.mk (by first | omega | rfl | exact inK_byte _ | (simp only [inK, Int.toNat_natCast, nd_eta, sh_eta, it_eta, sto_eta, op_eta, ch_eta, nw_eta, fl_eta, rq_eta, rs_eta, elDef, o32] <;> first | omega | grind) | grind [inK, o32]) ?_ <;> conv => whnf)
    | (refine OblG.mk (by conv => whnf
                          repeat (first | (refine Bx.mk ?_) | (intro h; (try simp [nd_eta, sh_eta, it_eta, sto_eta, op_eta, ch_eta, nw_eta, fl_eta, rq_eta, rs_eta, elDef, -List.getD_eq_getElem?_getD] at h); conv => whnf))
                          first | omega | rfl | exact inK_byte _ | (simp only [inK, Int.toNat_natCast, nd_eta, sh_eta, it_eta, sto_eta, op_eta, ch_eta, nw_eta, fl_eta, rq_eta, rs_eta, elDef, o32] <;> first | omega | grind) | grind [inK, o32]) ?_ <;> conv => whnf)
    | (refine Gd.mk (fun h => ?_) <;> (try simp [nd_eta, sh_eta, it_eta, sto_eta, op_eta, ch_eta, nw_eta, fl_eta, rq_eta, rs_eta, elDef, -List.getD_eq_getElem?_getD] at h) <;> conv => whnf)
    | (refine And.intro ?_ ?_ <;> conv => whnf)
    | exact True.intro
    | (intro; conv => whnf)
  · exact leafV hK (by simp only [getM, h]; rfl)
  · have e : getM s b = none := by grind [getM]
    exact leafV hK (by rw [e]; rfl)
  · have e : getM s b = some (s.items.getD (lbI s.items b) default) := by grind [getM]
    exact leafV hK (by rw [e]; rfl)
theorem s12 : (CtrOK Try.prog 12 (.gen .ps C12) ∧ Callable Try.prog 12) := by
  refine gen_ok (E := E12) (mkE_cons s14 (mkE_cons s32 (mkE_cons s38 (mkE_nil tab_ok)))) mix (O := O12) (C := C12) (own := .ps) Try.func12 rfl (by rfl) (by kernel_rfl) (fun args K h hbd => ?_)
  unfold C12 at h; split at h
  case h_2 => exact h.elim
  exact ⟨Nat.le_of_ble_eq_true rfl, a12 ⟨_, _⟩ _ (by exact hbd) _ h⟩
noncomputable def c43 (code : List Int) (K : AV → List AV → Prop) : Prop :=
    Obl (byOk code) (∀ (l : List Chg) (v : Int), l.length ≤ 20 → K (.tup [.ps .chg l, .int .i64 v]) [])
noncomputable def C43 : List AV → (AV → List AV → Prop) → Prop
  | [.ps .u8 code], K => c43 code K
  | _, _ => False
noncomputable def E43 : Ctx := mkE tab [(21, .gen .ow C21), (22, .gen .ps C22), (23, .gen .ps C23)]
noncomputable def O43 : Nat → List DI := ordL []
theorem a43 (code : List Int) (hb : BdAs [.ps .u8 code]) (K : AV → List AV → Prop) (h : c43 code K) : abody E43 O43 .ps Try.f43 (Try.f43.body.getD .skip) [.ps .u8 code] K := by
  simp only [BdAs, BdA, BdL, BdC, MX, ndC, shC, itC, stC, opC, chC, nwC, flC, rqC, rsC, enc, List.cons_append, List.nil_append, and_true, true_and] at hb
  unfold c43 at h
  obtain ⟨ho, hK⟩ := h
  conv => whnf
  repeat' first
    | (refine Cnd.mk (fun h => ?_) (fun h => ?_) <;> (try simp [nd_eta, sh_eta, it_eta, sto_eta, op_eta, ch_eta, nw_eta, fl_eta, rq_eta, rs_eta, elDef, -List.getD_eq_getElem?_getD] at h) <;> conv => whnf)
    | (refine Obl.mk (by first | omega | rfl | exact inK_byte _ | (simp only [inK, Int.toNat_natCast, nd_eta, sh_eta, it_eta, sto_eta, op_eta, ch_eta, nw_eta, fl_eta, rq_eta, rs_eta, elDef] <;> first | omega | grind) | grind [inK]) ?_ <;> conv => whnf)
    | (refine OblG.mk (by conv => whnf
                          repeat (first | (refine Bx.mk ?_) | (intro h; (try simp [nd_eta, sh_eta, it_eta, sto_eta, op_eta, ch_eta, nw_eta, fl_eta, rq_eta, rs_eta, elDef, -List.getD_eq_getElem?_getD] at h); conv => whnf))
                          first | omega | rfl | exact inK_byte _ | (simp only [inK, Int.toNat_natCast, nd_eta, sh_eta, it_eta, sto_eta, op_eta, ch_eta, nw_eta, fl_eta, rq_eta, rs_eta, elDef] <;> first | omega | grind) | grind [inK]) ?_ <;> conv => whnf)
    | (refine Gd.mk (fun h => ?_) <;> (try simp [nd_eta, sh_eta, it_eta, sto_eta, op_eta, ch_eta, nw_eta, fl_eta, rq_eta, rs_eta, elDef, -List.getD_eq_getElem?_getD] at h) <;> conv => whnf)
    | (refine And.intro ?_ ?_ <;> conv => whnf)
    | exact True.intro
    | (intro; conv => whnf)
  exact hK _ _ (by omega)
theorem s43 : (CtrOK Try.prog 43 (.gen .ps C43) ∧ Callable Try.prog 43) := by
  refine gen_ok (E := E43) (mkE_cons s21 (mkE_cons s22 (mkE_cons s23 (mkE_nil tab_ok)))) mix (O := O43) (C := C43) (own := .ps) Try.func43 rfl (by rfl) (by kernel_rfl) (fun args K h hbd => ?_)
  unfold C43 at h; split at h
  case h_2 => exact h.elim
  exact ⟨Nat.le_of_ble_eq_true rfl, a43 _ (by exact hbd) _ h⟩
end Go.Rs

