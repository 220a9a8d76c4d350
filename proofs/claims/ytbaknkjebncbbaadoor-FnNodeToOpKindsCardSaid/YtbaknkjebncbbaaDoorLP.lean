import Derived.Test.YtbaknkjebncbbaaDoorEE
import Derived.Test.YtbaknkjebncbbaaDoorCL
import Derived.Test.YtbaknkjebncbbaaDoorCG
import Derived.Test.YtbaknkjebncbbaaDoorMB
import Derived.Test.YtbaknkjebncbbaaDoorDelB
import Derived.Test.YtbaknkjebncbbaaDoorLB
set_option linter.all false
namespace Go.Rs
open Go.Proofs
set_option maxRecDepth 100000
set_option linter.unusedVariables false
set_option linter.unusedSimpArgs false
noncomputable def c4 (code : List Int) (K : AV → List AV → Prop) : Prop :=
    Obl (byOk code) (K (.bool true) [])
noncomputable def C4 : List AV → (AV → List AV → Prop) → Prop
  | [.ps .u8 code], K => c4 code K
  | _, _ => False
noncomputable def E4 : Ctx := mkE tab [(13, .gen .ps C13), (14, .gen .ps C14), (15, .gen .ps C15), (16, .pure F16), (17, .gen .ps C17), (18, .pure F18)]
noncomputable def O4 : Nat → List DI := ordL []
theorem a4 (code : List Int) (hb : BdAs [.ps .u8 code]) (K : AV → List AV → Prop) (h : c4 code K) : abody E4 O4 .ps Tryd.f4 (Tryd.f4.body.getD .skip) [.ps .u8 code] K := by
  simp only [BdAs, BdA, BdL, BdC, MX, ndC, shC, itC, stC, opC, chC, nwC, flC, rqC, rsC, enc, List.cons_append, List.nil_append, and_true, true_and] at hb
  unfold c4 at h
  obtain ⟨ho, hK⟩ := h
  conv => whnf
  repeat' first
    | (refine Cnd.mk (fun h => ?_) (fun h => ?_) <;> (try simp [etas, elDef, -List.getD_eq_getElem?_getD] at h) <;> conv => whnf)
    | (refine Obl.mk (by first | omega | rfl | exact inK_byte _ | (simp only [inK, Int.toNat_natCast, etas, elDef, o16, m16] <;> first | omega | grind) | grind [inK, o16, m16]) ?_ <;> conv => whnf)
    | (refine OblG.mk (by conv => whnf
                          repeat (first | (refine Bx.mk ?_) | (intro h; (try simp [etas, elDef, -List.getD_eq_getElem?_getD] at h); conv => whnf))
                          first | omega | rfl | exact inK_byte _ | (simp only [inK, Int.toNat_natCast, etas, elDef, o16, m16] <;> first | omega | grind) | grind [inK, o16, m16]) ?_ <;> conv => whnf)
    | (refine Gd.mk (fun h => ?_) <;> (try simp [etas, elDef, -List.getD_eq_getElem?_getD] at h) <;> conv => whnf)
    | (refine And.intro ?_ ?_ <;> conv => whnf)
    | exact True.intro
    | (intro; conv => whnf)
  · exact hK
  · exact leafB hK (by simp only [etas, eqD_iff.2 rfl]; simp)
  · obtain ⟨n, hn⟩ := Option.isSome_iff_exists.1 h.2
    obtain ⟨q1, q2, q3⟩ := kinds_law hn
    refine leafB hK ?_
    simp only [etas, hn, Option.getD_some, Option.isSome_some]
    simp only [etas, q2, q3, Option.getD_some, Option.isSome_some, eqD_iff.2 rfl]
    rw [q1, eqD_iff.2 rfl]
    rfl
theorem s4 : (CtrOK Tryd.prog 4 (.gen .ps C4) ∧ Callable Tryd.prog 4) := by
  refine gen_ok (E := E4) (mkE_cons s13 (mkE_cons s14 (mkE_cons s15 (mkE_cons s16 (mkE_cons s17 (mkE_cons s18 (mkE_nil tab_ok))))))) mix (O := O4) (C := C4) (own := .ps) Tryd.func4 rfl (by rfl) (by kernel_rfl) (fun args K h hbd => ?_)
  unfold C4 at h; split at h
  case h_2 => exact h.elim
  exact ⟨Nat.le_of_ble_eq_true rfl, a4 _ (by exact hbd) _ h⟩
end Go.Rs

