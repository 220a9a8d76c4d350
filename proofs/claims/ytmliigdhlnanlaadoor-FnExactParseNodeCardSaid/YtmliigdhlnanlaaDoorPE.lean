import Derived.Test.YtmliigdhlnanlaaDoorPA
import Derived.Test.YtmliigdhlnanlaaDoorMI
import Derived.Test.YtmliigdhlnanlaaDoorEW
set_option linter.all false
set_option linter.unusedSimpArgs false
set_option linter.unusedVariables false
namespace Go.Rs
open Go.Proofs Go.RowKit
set_option maxRecDepth 100000
set_option maxHeartbeats 4000000
noncomputable def c11d (s : Bs) (K : AV → List AV → Prop) : Prop :=
    K (optND (parseM s)) []
noncomputable def D11d : List AV → (AV → List AV → Prop) → Prop
  | [.str s], K => c11d s K
  | _, _ => False
noncomputable def C11d (args : List AV) (K : AV → List AV → Prop) : Prop := D11d (fixAs args) K
noncomputable def E11d : Ctx := mkE tab [(15, .pure F15), (29, .gen .ps C29), (30, .gen .ow C30d)]
noncomputable def O11d : Nat → List DI := ordL []
theorem a11d (s : Bs) (hb : BdAs [.str s]) (K : AV → List AV → Prop) (h : c11d s K) : abodyD E11d O11d .ow Tryd.f11 (Tryd.f11.body.getD .skip) [.str s] (fun r rs => K (fixR r) (fixAs rs)) := by
  simp only [BdAs, BdA, BdL, BdC, MX, ndC, shC, itC, stC, opC, chC, nwC, flC, rqC, rsC, enc, List.cons_append, List.nil_append, and_true, true_and] at hb
  unfold c11d at h
  have hK9 := h
  have d0 : List.drop (Int.toNat 0) s = s := rfl
  have hsm := fun n (h : validM n = true) => validM_sm h
  conv => whnf
  repeat' first|((first|refine Cnd.mk (fun h=>?_) (fun h=>?_)|refine Gd.mk (fun h=>?_))<;>(try simp [etas,elDef,-List.getD_eq_getElem?_getD] at h)<;>conv=>whnf)|((first|refine Obl.mk (by first|omega|rfl|exact inK_byte _|(simp only [inK,Int.toNat_natCast,etas,elDef,m29,m30d]<;>first|omega|grind)|grind [inK,m29,m30d]) ?_|refine OblG.mk (by ((conv=>whnf);(repeat (first|refine Bx.mk ?_|(intro h;(try simp [etas,elDef,-List.getD_eq_getElem?_getD] at h);conv=>whnf)));(first|omega|rfl|exact inK_byte _|(simp only [inK,Int.toNat_natCast,etas,elDef,m29,m30d]<;>first|omega|grind)|grind [inK,m29,m30d]))) ?_|refine And.intro ?_ ?_)<;>conv=>whnf)|exact True.intro|(intro;conv=>whnf)
  · exact leafV hK9 (by rw [parse_long (by omega)]; rfl)
  · rename_i n1 n2 n3 n4 n5 q hq hr
    rw [d0, show (6 - 1 : Int).toNat = 5 from rfl] at hr
    refine leafV hK9 ?_
    rw [rd_no2 hr (h.imp (fun h e => by have := congrArg List.length e; rw [List.length_drop] at this; simp at this; omega) id)]; rfl
  · rename_i n1 n2 n3 n4 n5 q hq hr
    rw [d0, show (6 - 1 : Int).toNat = 5 from rfl, show List.drop q.toNat s = [] by rw [h.1]; simp] at hr
    exact leafV hK9 (by rw [rd_yes hr h.2 (by omega)]; rfl)
  · rename_i hr n1 n2 n3 n4 n5 q hq
    rw [d0, show (6 - 1 : Int).toNat = 5 from rfl] at hr
    exact leafV hK9 (by rw [rd_no1 hr]; rfl)
theorem s11d : (CtrOK Tryd.prog 11 (.gen .ow C11d) ∧ Callable Tryd.prog 11) := by
  refine gen_okD (E := E11d) (mkE_cons s15 (mkE_cons s29 (mkE_cons s30d (mkE_nil tab_ok)))) mix (O := O11d) (D := D11d) (own := .ow) Tryd.func11 rfl (by rfl) (by kernel_rfl) (fun args K h hbd => ?_)
  unfold D11d at h; split at h
  case h_2 => exact h.elim
  exact ⟨Nat.le_of_ble_eq_true rfl, a11d _ (by exact hbd) _ h⟩
noncomputable def c11r (s : Bs) (K : AV → List AV → Prop) : Prop :=
    K (optNW (parseM s)) []
noncomputable def C11r : List AV → (AV → List AV → Prop) → Prop
  | [.str s], K => c11r s K
  | _, _ => False
theorem s11r : CtrOK Tryd.prog 11 (.gen .ln C11r) ∧ Callable Tryd.prog 11 := by
  refine ⟨Snd.of (Snd.lend s11d.1) fun vs K h => ?_, s11d.2⟩
  unfold C11r at h
  split at h
  case h_2 => exact h.elim
  unfold c11r at h
  exact ⟨rfl, rfl, rfl, h⟩
end Go.Rs

