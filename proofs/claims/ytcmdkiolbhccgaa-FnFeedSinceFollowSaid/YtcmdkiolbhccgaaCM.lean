import Derived.Test.YtcmdkiolbhccgaaCL
import Derived.Test.YtcmdkiolbhccgaaCI
import Derived.Test.YtcmdkiolbhccgaaMB
set_option linter.all false
namespace Go.Rs
open Go.Proofs
set_option maxRecDepth 100000
set_option linter.unusedVariables false
set_option linter.unusedSimpArgs false
noncomputable def c11 (l : List Chg) (v : Int) (K : AV → List AV → Prop) : Prop :=
    K (optS (stoAtM l v)) []
noncomputable def C11 : List AV → (AV → List AV → Prop) → Prop
  | [.ps .chg l, .int .i64 v], K => c11 l v K
  | _, _ => False
noncomputable def E11 : Ctx := mkE tab [(23, .gen .ps C23)]
noncomputable def O11 : Nat → List DI := ordL []
theorem a11 (l : List Chg) (v : Int) (hb : BdAs [.ps .chg l, .int .i64 v]) (K : AV → List AV → Prop) (h : c11 l v K) : abody E11 O11 .ps Try.f11 (Try.f11.body.getD .skip) [.ps .chg l, .int .i64 v] K := by
  simp only [BdAs, BdA, BdL, BdC, MX, ndC, shC, itC, stC, opC, chC, nwC, flC, rqC, rsC, enc, List.cons_append, List.nil_append, and_true, true_and] at hb
  unfold c11 at h
  have hK := h
  conv => whnf
  repeat' first
    | (refine Cnd.mk (fun h => ?_) (fun h => ?_) <;> (try simp [etas, elDef, -List.getD_eq_getElem?_getD] at h) <;> conv => whnf)
    | (refine Obl.mk (by first | omega | rfl | exact inK_byte _ | (simp only [inK, Int.toNat_natCast, etas, elDef] <;> first | omega | grind) | grind [inK]) ?_ <;> conv => whnf)
    | (refine OblG.mk (by conv => whnf
                          repeat (first | (refine Bx.mk ?_) | (intro h; (try simp [etas, elDef, -List.getD_eq_getElem?_getD] at h); conv => whnf))
                          first | omega | rfl | exact inK_byte _ | (simp only [inK, Int.toNat_natCast, etas, elDef] <;> first | omega | grind) | grind [inK]) ?_ <;> conv => whnf)
    | (refine Gd.mk (fun h => ?_) <;> (try simp [etas, elDef, -List.getD_eq_getElem?_getD] at h) <;> conv => whnf)
    | (refine And.intro ?_ ?_ <;> conv => whnf)
    | exact True.intro
    | (intro; conv => whnf)
  · have e : stoAtM l v = none := by grind [stoAtM]
    exact leafV hK (by rw [e]; (try simp only [etas, elDef, Int.toNat_natCast]); (first | done | rfl | simp [optS, stC]))
  · exact leafV hK (by (try simp only [etas, elDef, Int.toNat_natCast]); (first | done | rfl | simp [optS, stC]))
theorem s11 : (CtrOK Try.prog 11 (.gen .ps C11) ∧ Callable Try.prog 11) := by
  refine gen_ok (E := E11) (mkE_cons s23 (mkE_nil tab_ok)) mix (O := O11) (C := C11) (own := .ps) Try.func11 rfl (by rfl) (by kernel_rfl) (fun args K h hbd => ?_)
  unfold C11 at h; split at h
  case h_2 => exact h.elim
  exact ⟨Nat.le_of_ble_eq_true rfl, a11 _ _ (by exact hbd) _ h⟩
noncomputable def c15 (code : List Int) (K : AV → List AV → Prop) : Prop :=
    Obl (byOk code) (∀ (l : List Chg) (v : Int), l.length ≤ 20 → K (.tup [.ps .chg l, .int .i64 v]) [])
noncomputable def C15 : List AV → (AV → List AV → Prop) → Prop
  | [.ps .u8 code], K => c15 code K
  | _, _ => False
noncomputable def E15 : Ctx := mkE tab [(31, .gen .ow C31), (32, .gen .ps C32), (33, .gen .ps C33)]
noncomputable def O15 : Nat → List DI := ordL []
theorem a15 (code : List Int) (hb : BdAs [.ps .u8 code]) (K : AV → List AV → Prop) (h : c15 code K) : abody E15 O15 .ps Try.f15 (Try.f15.body.getD .skip) [.ps .u8 code] K := by
  simp only [BdAs, BdA, BdL, BdC, MX, ndC, shC, itC, stC, opC, chC, nwC, flC, rqC, rsC, enc, List.cons_append, List.nil_append, and_true, true_and] at hb
  unfold c15 at h
  obtain ⟨ho, hK⟩ := h
  conv => whnf
  repeat' first
    | (refine Cnd.mk (fun h => ?_) (fun h => ?_) <;> (try simp [etas, elDef, -List.getD_eq_getElem?_getD] at h) <;> conv => whnf)
    | (refine Obl.mk (by first | omega | rfl | exact inK_byte _ | (simp only [inK, Int.toNat_natCast, etas, elDef] <;> first | omega | grind) | grind [inK]) ?_ <;> conv => whnf)
    | (refine OblG.mk (by conv => whnf
                          repeat (first | (refine Bx.mk ?_) | (intro h; (try simp [etas, elDef, -List.getD_eq_getElem?_getD] at h); conv => whnf))
                          first | omega | rfl | exact inK_byte _ | (simp only [inK, Int.toNat_natCast, etas, elDef] <;> first | omega | grind) | grind [inK]) ?_ <;> conv => whnf)
    | (refine Gd.mk (fun h => ?_) <;> (try simp [etas, elDef, -List.getD_eq_getElem?_getD] at h) <;> conv => whnf)
    | (refine And.intro ?_ ?_ <;> conv => whnf)
    | exact True.intro
    | (intro; conv => whnf)
  exact hK _ _ (by omega)
theorem s15 : (CtrOK Try.prog 15 (.gen .ps C15) ∧ Callable Try.prog 15) := by
  refine gen_ok (E := E15) (mkE_cons s31 (mkE_cons s32 (mkE_cons s33 (mkE_nil tab_ok)))) mix (O := O15) (C := C15) (own := .ps) Try.func15 rfl (by rfl) (by kernel_rfl) (fun args K h hbd => ?_)
  unfold C15 at h; split at h
  case h_2 => exact h.elim
  exact ⟨Nat.le_of_ble_eq_true rfl, a15 _ (by exact hbd) _ h⟩
end Go.Rs

