import Derived.Test.YtbaknkjebncbbaaDoorED
import Derived.Test.YtbaknkjebncbbaaDoorCX
import Derived.Test.YtbaknkjebncbbaaDoorCL
import Derived.Test.YtbaknkjebncbbaaDoorCG
import Derived.Test.YtbaknkjebncbbaaDoorMB
import Derived.Test.YtbaknkjebncbbaaDoorDelB
import Derived.Test.YtbaknkjebncbbaaDoorLB
set_option linter.all false
namespace Go.Rs
open Go.Proofs
set_option maxRecDepth 100000
set_option linter.unusedVariables false
set_option linter.unusedSimpArgs false
noncomputable def c3 (code : List Int) (K : AV → List AV → Prop) : Prop :=
    Obl (byOk code) (K (.bool true) [])
noncomputable def C3 : List AV → (AV → List AV → Prop) → Prop
  | [.ps .u8 code], K => c3 code K
  | _, _ => False
noncomputable def E3 : Ctx := mkE tab [(5, .gen .ps C5), (6, .gen .ps C6), (7, .gen .ps C7), (8, .pure F8), (9, .pure F9), (10, .gen .ps C10), (11, .gen .ps C11), (12, .pure F12)]
noncomputable def O3 : Nat → List DI := ordL [(8, [.q 0, .l 2 [0], .a 1, .l 3 [], .q 4, .q 5, .q 6, .a 7, .l 8 [], .q 9])]
theorem a3 (code : List Int) (hb : BdAs [.ps .u8 code]) (K : AV → List AV → Prop) (h : c3 code K) : abody E3 O3 .ps Tryd.f3 (Tryd.f3.body.getD .skip) [.ps .u8 code] K := by
  simp only [BdAs, BdA, BdL, BdC, MX, ndC, shC, itC, stC, opC, chC, nwC, flC, rqC, rsC, enc, List.cons_append, List.nil_append, and_true, true_and] at hb
  unfold c3 at h
  obtain ⟨ho, hK⟩ := h
  conv => whnf
  repeat' first
    | (refine Cnd.mk (fun h => ?_) (fun h => ?_) <;> (try simp [etas, elDef, -List.getD_eq_getElem?_getD] at h) <;> conv => whnf)
    | (refine Obl.mk (by first | omega | rfl | exact inK_byte _ | (simp only [inK, Int.toNat_natCast, etas, elDef, o8, m8] <;> first | omega | grind) | grind [inK, o8, m8]) ?_ <;> conv => whnf)
    | (refine OblG.mk (by conv => whnf
                          repeat (first | (refine Bx.mk ?_) | (intro h; (try simp [etas, elDef, -List.getD_eq_getElem?_getD] at h); conv => whnf))
                          first | omega | rfl | exact inK_byte _ | (simp only [inK, Int.toNat_natCast, etas, elDef, o8, m8] <;> first | omega | grind) | grind [inK, o8, m8]) ?_ <;> conv => whnf)
    | (refine Gd.mk (fun h => ?_) <;> (try simp [etas, elDef, -List.getD_eq_getElem?_getD] at h) <;> conv => whnf)
    | (refine And.intro ?_ ?_ <;> conv => whnf)
    | exact True.intro
    | (intro; conv => whnf)
  · exact hK
  · exact leafB hK (by simp only [etas, eqD_iff.2 rfl]; simp)
  · rename_i n
    refine leafB hK ?_
    simp only [etas]
    cases hm : addNodeM n [[110, 101, 119]] zeroN with
    | none => rfl
    | some m =>
      obtain ⟨q1, q2, q3⟩ := more_law h.1.2 h.2 hm
      have hv := (addNode_some hm).1
      simp only [if_pos hv, Option.getD_some, q1, q2, q3]
      rfl
theorem s3 : (CtrOK Tryd.prog 3 (.gen .ps C3) ∧ Callable Tryd.prog 3) := by
  refine gen_ok (E := E3) (mkE_cons s5 (mkE_cons s6 (mkE_cons s7 (mkE_cons s8 (mkE_cons s9 (mkE_cons s10 (mkE_cons s11 (mkE_cons s12 (mkE_nil tab_ok))))))))) mix (O := O3) (C := C3) (own := .ps) Tryd.func3 rfl (by rfl) (by kernel_rfl) (fun args K h hbd => ?_)
  unfold C3 at h; split at h
  case h_2 => exact h.elim
  exact ⟨Nat.le_of_ble_eq_true rfl, a3 _ (by exact hbd) _ h⟩
end Go.Rs

