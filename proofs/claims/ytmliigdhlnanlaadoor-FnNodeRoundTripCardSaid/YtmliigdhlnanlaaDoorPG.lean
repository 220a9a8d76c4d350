import Derived.Test.YtmliigdhlnanlaaDoorPF
import Derived.Test.YtmliigdhlnanlaaDoorCB
import Derived.Test.YtmliigdhlnanlaaDoorEA
import Derived.Test.YtmliigdhlnanlaaDoorMI
set_option linter.all false
set_option linter.unusedSimpArgs false
set_option linter.unusedVariables false
namespace Go.Rs
open Go.Proofs Go.RowKit
set_option maxRecDepth 100000
set_option maxHeartbeats 4000000
noncomputable def c14 (s : Bs) (K : AV → List AV → Prop) : Prop :=
    K (optN (parseM s)) []
noncomputable def C14 : List AV → (AV → List AV → Prop) → Prop
  | [.str s], K => c14 s K
  | _, _ => False
noncomputable def E14 : Ctx := mkE tab [(27, .pure F27), (28, .pure F28), (35, .gen .ps C35)]
noncomputable def O14 : Nat → List DI := ordL []
theorem a14 (s : Bs) (hb : BdAs [.str s]) (K : AV → List AV → Prop) (h : c14 s K) : abody E14 O14 .ps Tryd.f14 (Tryd.f14.body.getD .skip) [.str s] K := by
  simp only [BdAs, BdA, BdL, BdC, MX, ndC, shC, itC, stC, opC, chC, nwC, flC, rqC, rsC, enc, List.cons_append, List.nil_append, and_true, true_and] at hb
  unfold c14 at h
  have hK9 := h
  have d0 : List.drop (Int.toNat 0) s = s := rfl
  have h1 := fun n h => validM_ok (n := n) h
  conv => whnf
  repeat' first|((first|refine Cnd.mk (fun h=>?_) (fun h=>?_)|refine Gd.mk (fun h=>?_))<;>(try simp [etas,elDef,-List.getD_eq_getElem?_getD] at h)<;>conv=>whnf)|((first|refine Obl.mk (by first|omega|rfl|exact inK_byte _|(simp only [inK,Int.toNat_natCast,etas,elDef,o28,m28,m35]<;>first|omega|grind)|grind [inK,o28,m28,m35]) ?_|refine OblG.mk (by ((conv=>whnf);(repeat (first|refine Bx.mk ?_|(intro h;(try simp [etas,elDef,-List.getD_eq_getElem?_getD] at h);conv=>whnf)));(first|omega|rfl|exact inK_byte _|(simp only [inK,Int.toNat_natCast,etas,elDef,o28,m28,m35]<;>first|omega|grind)|grind [inK,o28,m28,m35]))) ?_|refine And.intro ?_ ?_)<;>conv=>whnf)|exact True.intro|(intro;conv=>whnf)
  · exact leafV hK9 (by rw [parse_long (by omega)]; rfl)
  · rename_i n1 n2 n3 n4 n5 q hq hr
    rw [d0, show Int.toNat 5 = 5 from rfl] at hr
    exact leafV hK9 (by rw [sp_no2 hr h]; rfl)
  · rename_i n1 n2 n3 n4 n5 q hq hr
    exact leafV hK9 (by rw [parse_eq h.1 h.2 (by omega)]; rfl)
  · rename_i hr n1 n2 n3 n4 n5 q hq
    rw [d0, show Int.toNat 5 = 5 from rfl] at hr
    exact leafV hK9 (by rw [sp_no1 hr]; rfl)
theorem s14 : (CtrOK Tryd.prog 14 (.gen .ps C14) ∧ Callable Tryd.prog 14) := by
  refine gen_ok (E := E14) (mkE_cons s27 (mkE_cons s28 (mkE_cons s35 (mkE_nil tab_ok)))) mix (O := O14) (C := C14) (own := .ps) Tryd.func14 rfl (by rfl) (by kernel_rfl) (fun args K h hbd => ?_)
  unfold C14 at h; split at h
  case h_2 => exact h.elim
  exact ⟨Nat.le_of_ble_eq_true rfl, a14 _ (by exact hbd) _ h⟩
end Go.Rs

