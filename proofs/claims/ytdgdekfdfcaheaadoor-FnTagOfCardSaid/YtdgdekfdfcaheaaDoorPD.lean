import Derived.Test.YtdgdekfdfcaheaaDoorPA
import Derived.Test.YtdgdekfdfcaheaaDoorMI
import Derived.Test.YtdgdekfdfcaheaaDoorCD
set_option linter.all false
set_option linter.unusedSimpArgs false
set_option linter.unusedVariables false
namespace Go.Rs
open Go.Proofs Go.RowKit
set_option maxRecDepth 100000
set_option maxHeartbeats 4000000
noncomputable def c7 (s : Bs) (K : AV → List AV → Prop) : Prop :=
    K (optN (parseM s)) []
noncomputable def C7 : List AV → (AV → List AV → Prop) → Prop
  | [.str s], K => c7 s K
  | _, _ => False
noncomputable def E7 : Ctx := mkE tab [(12, .pure F12), (18, .gen .ps C18), (19, .gen .ow C19)]
noncomputable def O7 : Nat → List DI := ordL []
theorem a7 (s : Bs) (hb : BdAs [.str s]) (K : AV → List AV → Prop) (h : c7 s K) : abody E7 O7 .ps Tryd.f7 (Tryd.f7.body.getD .skip) [.str s] K := by
  simp only [BdAs, BdA, BdL, BdC, MX, ndC, shC, itC, stC, opC, chC, nwC, flC, rqC, rsC, enc, List.cons_append, List.nil_append, and_true, true_and] at hb
  unfold c7 at h
  have hK9 := h
  have d0 : List.drop (Int.toNat 0) s = s := rfl
  have hsm := fun n (h : validM n = true) => validM_sm h
  conv => whnf
  repeat' first|((first|refine Cnd.mk (fun h=>?_) (fun h=>?_)|refine Gd.mk (fun h=>?_))<;>(try simp [etas,elDef,-List.getD_eq_getElem?_getD] at h)<;>conv=>whnf)|((first|refine Obl.mk (by first|omega|rfl|exact inK_byte _|(simp only [inK,Int.toNat_natCast,etas,elDef,m18,m19]<;>first|omega|grind)|grind [inK,m18,m19]) ?_|refine OblG.mk (by ((conv=>whnf);(repeat (first|refine Bx.mk ?_|(intro h;(try simp [etas,elDef,-List.getD_eq_getElem?_getD] at h);conv=>whnf)));(first|omega|rfl|exact inK_byte _|(simp only [inK,Int.toNat_natCast,etas,elDef,m18,m19]<;>first|omega|grind)|grind [inK,m18,m19]))) ?_|refine And.intro ?_ ?_)<;>conv=>whnf)|exact True.intro|(intro;conv=>whnf)
  · exact leafV hK9 (by rw [parse_long (by omega)]; rfl)
  · rename_i n1 n2 n3 n4 n5 q hq hr
    rw [d0, show (6 - 1 : Int).toNat = 5 from rfl] at hr
    refine leafV hK9 ?_
    rw [rd_no2 hr (h.imp (fun h e => by have := congrArg List.length e; rw [List.length_drop] at this; simp at this; omega) id)]; rfl
  · rename_i n1 n2 n3 n4 n5 q hq hr
    rw [d0, show (6 - 1 : Int).toNat = 5 from rfl, show List.drop q.toNat s = [] by rw [h.1]; simp] at hr
    exact leafV hK9 (by rw [rd_yes hr h.2 (by omega)]; rfl)
  · rename_i hr n1 n2 n3 n4 n5 q hq
    rw [d0, show (6 - 1 : Int).toNat = 5 from rfl] at hr
    exact leafV hK9 (by rw [rd_no1 hr]; rfl)
theorem s7 : (CtrOK Tryd.prog 7 (.gen .ps C7) ∧ Callable Tryd.prog 7) := by
  refine gen_ok (E := E7) (mkE_cons s12 (mkE_cons s18 (mkE_cons s19 (mkE_nil tab_ok)))) mix (O := O7) (C := C7) (own := .ps) Tryd.func7 rfl (by rfl) (by kernel_rfl) (fun args K h hbd => ?_)
  unfold C7 at h; split at h
  case h_2 => exact h.elim
  exact ⟨Nat.le_of_ble_eq_true rfl, a7 _ (by exact hbd) _ h⟩
end Go.Rs

