import Derived.Test.YtmliigdhlnanlaaDoorPA
import Derived.Test.YtmliigdhlnanlaaDoorMI
import Derived.Test.YtmliigdhlnanlaaDoorCD
set_option linter.all false
set_option linter.unusedSimpArgs false
set_option linter.unusedVariables false
namespace Go.Rs
open Go.Proofs Go.RowKit
set_option maxRecDepth 100000
set_option maxHeartbeats 4000000
noncomputable def c11 (s : Bs) (K : AV → List AV → Prop) : Prop :=
    K (optN (parseM s)) []
noncomputable def C11 : List AV → (AV → List AV → Prop) → Prop
  | [.str s], K => c11 s K
  | _, _ => False
noncomputable def E11 : Ctx := mkE tab [(15, .pure F15), (29, .gen .ps C29), (30, .gen .ow C30)]
noncomputable def O11 : Nat → List DI := ordL []
theorem a11 (s : Bs) (hb : BdAs [.str s]) (K : AV → List AV → Prop) (h : c11 s K) : abody E11 O11 .ps Tryd.f11 (Tryd.f11.body.getD .skip) [.str s] K := by
  simp only [BdAs, BdA, BdL, BdC, MX, ndC, shC, itC, stC, opC, chC, nwC, flC, rqC, rsC, enc, List.cons_append, List.nil_append, and_true, true_and] at hb
  unfold c11 at h
  have hK9 := h
  have d0 : List.drop (Int.toNat 0) s = s := rfl
  have hsm := fun n (h : validM n = true) => validM_sm h
  conv => whnf
  repeat' first|((first|refine Cnd.mk (fun h=>?_) (fun h=>?_)|refine Gd.mk (fun h=>?_))<;>(try simp [etas,elDef,-List.getD_eq_getElem?_getD] at h)<;>conv=>whnf)|((first|refine Obl.mk (by first|omega|rfl|exact inK_byte _|(simp only [inK,Int.toNat_natCast,etas,elDef,m29,m30]<;>first|omega|grind)|grind [inK,m29,m30]) ?_|refine OblG.mk (by ((conv=>whnf);(repeat (first|refine Bx.mk ?_|(intro h;(try simp [etas,elDef,-List.getD_eq_getElem?_getD] at h);conv=>whnf)));(first|omega|rfl|exact inK_byte _|(simp only [inK,Int.toNat_natCast,etas,elDef,m29,m30]<;>first|omega|grind)|grind [inK,m29,m30]))) ?_|refine And.intro ?_ ?_)<;>conv=>whnf)|exact True.intro|(intro;conv=>whnf)
  · exact leafV hK9 (by rw [parse_long (by omega)]; rfl)
  · rename_i n1 n2 n3 n4 n5 q hq hr
    rw [d0, show (6 - 1 : Int).toNat = 5 from rfl] at hr
    refine leafV hK9 ?_
    rw [rd_no2 hr (h.imp (fun h e => by have := congrArg List.length e; rw [List.length_drop] at this; simp at this; omega) id)]; rfl
  · rename_i n1 n2 n3 n4 n5 q hq hr
    rw [d0, show (6 - 1 : Int).toNat = 5 from rfl, show List.drop q.toNat s = [] by rw [h.1]; simp] at hr
    exact leafV hK9 (by rw [rd_yes hr h.2 (by omega)]; rfl)
  · rename_i hr n1 n2 n3 n4 n5 q hq
    rw [d0, show (6 - 1 : Int).toNat = 5 from rfl] at hr
    exact leafV hK9 (by rw [rd_no1 hr]; rfl)
theorem s11 : (CtrOK Tryd.prog 11 (.gen .ps C11) ∧ Callable Tryd.prog 11) := by
  refine gen_ok (E := E11) (mkE_cons s15 (mkE_cons s29 (mkE_cons s30 (mkE_nil tab_ok)))) mix (O := O11) (C := C11) (own := .ps) Tryd.func11 rfl (by rfl) (by kernel_rfl) (fun args K h hbd => ?_)
  unfold C11 at h; split at h
  case h_2 => exact h.elim
  exact ⟨Nat.le_of_ble_eq_true rfl, a11 _ (by exact hbd) _ h⟩
end Go.Rs

