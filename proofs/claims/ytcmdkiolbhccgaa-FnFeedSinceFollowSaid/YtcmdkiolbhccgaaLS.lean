import Derived.Test.YtcmdkiolbhccgaaEG
import Derived.Test.YtcmdkiolbhccgaaCM
import Derived.Test.YtcmdkiolbhccgaaLB
import Derived.Test.YtcmdkiolbhccgaaLE
import Derived.Test.YtcmdkiolbhccgaaMG
set_option linter.all false
namespace Go.Rs
open Go.Proofs
set_option maxRecDepth 100000
set_option linter.unusedVariables false
set_option linter.unusedSimpArgs false
noncomputable def c5 (code : List Int) (K : AV → List AV → Prop) : Prop :=
    Obl (byOk code) (K (.bool true) [])
noncomputable def C5 : List AV → (AV → List AV → Prop) → Prop
  | [.ps .u8 code], K => c5 code K
  | _, _ => False
noncomputable def E5 : Ctx := mkE tab [(6, .gen .ps C6), (7, .gen .ps C7p), (8, .pure F8), (9, .gen .ow C9), (11, .gen .ps C11), (12, .gen .ps C12), (13, .gen .ps C13), (14, .pure F14)]
noncomputable def O5 : Nat → List DI := ordL []
theorem a5 (code : List Int) (hb : BdAs [.ps .u8 code]) (K : AV → List AV → Prop) (h : c5 code K) : abody E5 O5 .ps Try.f5 (Try.f5.body.getD .skip) [.ps .u8 code] K := by
  simp only [BdAs, BdA, BdL, BdC, MX, ndC, shC, itC, stC, opC, chC, nwC, flC, rqC, rsC, enc, List.cons_append, List.nil_append, and_true, true_and] at hb
  unfold c5 at h
  obtain ⟨ho, hK⟩ := h
  conv => whnf
  repeat' first
    | (refine Cnd.mk (fun h => ?_) (fun h => ?_) <;> (try simp [etas, elDef, -List.getD_eq_getElem?_getD] at h) <;> conv => whnf)
    | (refine Obl.mk (by first | omega | rfl | exact inK_byte _ | (simp only [inK, Int.toNat_natCast, etas, elDef] <;> first | omega | grind) | grind [inK]) ?_ <;> conv => whnf)
    | (refine OblG.mk (by conv => whnf
                          repeat (first | (refine Bx.mk ?_) | (intro h; (try simp [etas, elDef, -List.getD_eq_getElem?_getD] at h); conv => whnf))
                          first | omega | rfl | exact inK_byte _ | (simp only [inK, Int.toNat_natCast, etas, elDef] <;> first | omega | grind) | grind [inK]) ?_ <;> conv => whnf)
    | (refine Gd.mk (fun h => ?_) <;> (try simp [etas, elDef, -List.getD_eq_getElem?_getD] at h) <;> conv => whnf)
    | (refine And.intro ?_ ?_ <;> conv => whnf)
    | exact True.intro
    | (intro; conv => whnf)
  · exact hK
  · exact absurd rfl (eqD_no.1 h)
  · exact leafB hK (by rw [since_none h]; rfl)
  · exact leafB hK (follow_leaf h).symm
theorem s5 : (CtrOK Try.prog 5 (.gen .ps C5) ∧ Callable Try.prog 5) := by
  refine gen_ok (E := E5) (mkE_cons s6 (mkE_cons s7p (mkE_cons s8 (mkE_cons s9 (mkE_cons s11 (mkE_cons s12 (mkE_cons s13 (mkE_cons s14 (mkE_nil tab_ok))))))))) mix (O := O5) (C := C5) (own := .ps) Try.func5 rfl (by rfl) (by kernel_rfl) (fun args K h hbd => ?_)
  unfold C5 at h; split at h
  case h_2 => exact h.elim
  exact ⟨Nat.le_of_ble_eq_true rfl, a5 _ (by exact hbd) _ h⟩
end Go.Rs

