import Derived.Test.YtdgdekfdfcaheaaDoorQT
import Derived.Test.YtdgdekfdfcaheaaDoorPB
import Derived.Test.YtdgdekfdfcaheaaDoorMI
import Derived.Test.YtdgdekfdfcaheaaDoorCB
import Derived.Test.YtdgdekfdfcaheaaDoorEA
import Derived.Test.YtdgdekfdfcaheaaDoorCD
import Derived.Test.YtdgdekfdfcaheaaDoorMB
set_option linter.all false
set_option linter.unusedSimpArgs false
set_option linter.unusedVariables false
namespace Go.Rs
open Go.Proofs
set_option maxRecDepth 100000
set_option maxHeartbeats 4000000
theorem tag_facts {n : Nd} (h : ¬ tagM n = []) : (tagM n).length = 4 ∧ parseM (textM n) = some n ∧ checkTagsM [tagM n] [] (tagM n) true = 200 := by
  have hv : validM n = true := by
    cases e : validM n with
    | true => rfl
    | false => exact absurd (by unfold tagM; rw [e]; rfl) h
  have h1 := tag_sum hv
  refine ⟨?_, ?_, check_one h1⟩
  · unfold isSumM at h1; rw [Bool.and_eq_true, decide_eq_true_eq] at h1; exact h1.1
  · unfold textM; rw [if_pos hv]; exact parse_fmt hv (valid_fmt hv)
noncomputable def c3 (code : List Int) (K : AV → List AV → Prop) : Prop :=
    Obl (byOk code) (K (.bool true) [])
noncomputable def C3 : List AV → (AV → List AV → Prop) → Prop
  | [.ps .u8 code], K => c3 code K
  | _, _ => False
noncomputable def E3 : Ctx := mkE tab [(4, .gen .ps C4), (5, .pure F5), (6, .pure F6), (7, .gen .ps C7), (8, .pure F8), (9, .pure F9n)]
noncomputable def O3 : Nat → List DI := ordL []
theorem a3 (code : List Int) (hb : BdAs [.ps .u8 code]) (K : AV → List AV → Prop) (h : c3 code K) : abody E3 O3 .ps Tryd.f3 (Tryd.f3.body.getD .skip) [.ps .u8 code] K := by
  simp only [BdAs, BdA, BdL, BdC, MX, ndC, shC, itC, stC, opC, chC, nwC, flC, rqC, rsC, enc, List.cons_append, List.nil_append, and_true, true_and] at hb
  unfold c3 at h
  obtain ⟨ho, hK⟩ := h
  have hl := fun n => textM_len n
  conv => whnf
  repeat' first|((first|refine Cnd.mk (fun h=>?_) (fun h=>?_)|refine Gd.mk (fun h=>?_))<;>(try simp [etas,elDef,-List.getD_eq_getElem?_getD] at h)<;>conv=>whnf)|((first|refine Obl.mk (by first|omega|rfl|exact inK_byte _|(simp only [inK,Int.toNat_natCast,etas,elDef]<;>first|omega|grind)|grind [inK]) ?_|refine OblG.mk (by ((conv=>whnf);(repeat (first|refine Bx.mk ?_|(intro h;(try simp [etas,elDef,-List.getD_eq_getElem?_getD] at h);conv=>whnf)));(first|omega|rfl|exact inK_byte _|(simp only [inK,Int.toNat_natCast,etas,elDef]<;>first|omega|grind)|grind [inK]))) ?_|refine And.intro ?_ ?_)<;>conv=>whnf)|exact True.intro|(intro;conv=>whnf)
  · exact hK
  · exact leafB hK (by simp)
  · rename_i h9
    obtain ⟨f1, f2, f3⟩ := tag_facts h9
    refine leafB hK ?_
    simp only [nd_eta]
    rw [f2]
    simp [f1, f3, nd_eta]
  · rename_i h9
    obtain ⟨f1, f2, f3⟩ := tag_facts h9
    exfalso
    have h8 := h (by rw [f1]; rfl)
    rw [f2] at h8
    exact h8.2 rfl
theorem s3 : (CtrOK Tryd.prog 3 (.gen .ps C3) ∧ Callable Tryd.prog 3) := by
  refine gen_ok (E := E3) (mkE_cons s4 (mkE_cons s5 (mkE_cons s6 (mkE_cons s7 (mkE_cons s8 (mkE_cons s9n (mkE_nil tab_ok))))))) mix (O := O3) (C := C3) (own := .ps) Tryd.func3 rfl (by rfl) (by kernel_rfl) (fun args K h hbd => ?_)
  unfold C3 at h; split at h
  case h_2 => exact h.elim
  exact ⟨Nat.le_of_ble_eq_true rfl, a3 _ (by exact hbd) _ h⟩
end Go.Rs

