import Derived.Test.YtmgheiagnleeiaaDF
import Derived.Test.YtmgheiagnleeiaaCT
import Derived.Test.YtmgheiagnleeiaaME
import Derived.Test.YtmgheiagnleeiaaCP
import Derived.Test.YtmgheiagnleeiaaMC
import Derived.Test.YtmgheiagnleeiaaCZ
import Derived.Test.YtmgheiagnleeiaaIns
import Derived.Test.YtmgheiagnleeiaaCC
import Derived.Test.YtmgheiagnleeiaaMA
import Derived.Test.YtmgheiagnleeiaaFG
import Derived.Test.YtmgheiagnleeiaaMB
import Derived.Test.YtmgheiagnleeiaaMD
import Derived.Test.YtmgheiagnleeiaaMF
set_option linter.all false
set_option linter.unusedSimpArgs false
set_option linter.unusedVariables false
namespace Go.Rs
open Go.Proofs
set_option maxRecDepth 100000
def opOk (o : Opn) : Bool := decide (1 ≤ o.kind) && decide (o.kind ≤ 6) && pathM o.path && pathM o.frm && validM o.value
noncomputable def v69 (o : Opn) : AV := .bool (opOk o)
noncomputable def o69 (o : Opn) : Prop := True
noncomputable def F69 : List AV → QR
  | [.st [.int .i64 o_0, .ps .str o_1, .ps .str o_2, .int .i64 o_3_0, .int .i64 o_3_1, .str o_3_2, .ps .str o_3_3, .ps .node o_3_4]] => some (none, v69 ⟨o_0, o_1, o_2, ⟨o_3_0, o_3_1, o_3_2, o_3_3, o_3_4⟩⟩)
  | _ => none
noncomputable def E69 : Ctx := mkE tab [(48, .pure F48), (82, .pure F82)]
noncomputable def O69 : Nat → List DI := ordL []
theorem a69 (o : Opn) (hb : BdAs [.st (opC o)]) (ho : o69 o) (K : AV → List AV → Prop) (hK : K (v69 o) []) : abody E69 O69 .ps Try.f69 (Try.f69.body.getD .skip) [.st (opC o)] K := by
  simp only [BdAs, BdA, BdL, BdC, MX, ndC, shC, itC, stC, opC, chC, nwC, flC, rqC, rsC, enc, List.cons_append, List.nil_append, and_true, true_and] at hb
  unfold v69 at hK
  conv => whnf
  repeat' first|((first|refine Cnd.mk (fun h=>?_) (fun h=>?_)|refine Gd.mk (fun h=>?_))<;>(try simp [etas,elDef,-List.getD_eq_getElem?_getD] at h)<;>conv=>whnf)|((first|refine Obl.mk (by first|omega|rfl|exact inK_byte _|(simp only [inK,Int.toNat_natCast,etas,elDef]<;>first|omega|grind)|grind [inK]) ?_|refine OblG.mk (by ((conv=>whnf);(repeat (first|refine Bx.mk ?_|(intro h;(try simp [etas,elDef,-List.getD_eq_getElem?_getD] at h);conv=>whnf)));(first|omega|rfl|exact inK_byte _|(simp only [inK,Int.toNat_natCast,etas,elDef]<;>first|omega|grind)|grind [inK]))) ?_|refine And.intro ?_ ?_)<;>conv=>whnf)|exact True.intro|(intro;conv=>whnf)
  exact leafB hK (by simp only [etas, opOk])
theorem s69 : (CtrOK Try.prog 69 (.pure F69) ∧ Callable Try.prog 69) := by
  refine pure_ok (E := E69) (mkE_cons s48 (mkE_cons s82 (mkE_nil tab_ok))) mix (O := O69) (F := F69) Try.func69 rfl (by rfl) (by kernel_rfl) (fun args o v h => ?_) (fun args o v h => ?_) (fun args o v h hbd hp K hK => ?_)
  · unfold F69 at h; split at h <;> cases h; first | trivial | (simp [v69, Scalar, Scalar2, Scalar1, stC, ndC, itC, chC, nwC])
  · unfold F69 at h; split at h <;> cases h; exact Nat.le_of_ble_eq_true rfl
  · unfold F69 at h; split at h
    case h_2 => cases h
    cases h
    exact a69 ⟨_, _, _, ⟨_, _, _, _, _⟩⟩ (by exact hbd) trivial K hK
noncomputable def v66 (o : Opn) : AV := .bool (opOk o)
noncomputable def o66 (o : Opn) : Prop := True
noncomputable def F66 : List AV → QR
  | [.st [.int .i64 o_0, .ps .str o_1, .ps .str o_2, .int .i64 o_3_0, .int .i64 o_3_1, .str o_3_2, .ps .str o_3_3, .ps .node o_3_4]] => some (none, v66 ⟨o_0, o_1, o_2, ⟨o_3_0, o_3_1, o_3_2, o_3_3, o_3_4⟩⟩)
  | _ => none
noncomputable def E66 : Ctx := mkE tab [(39, .pure F39), (42, .pure F42), (79, .pure F79)]
noncomputable def O66 : Nat → List DI := ordL []
theorem a66 (o : Opn) (hb : BdAs [.st (opC o)]) (ho : o66 o) (K : AV → List AV → Prop) (hK : K (v66 o) []) : abody E66 O66 .ps Try.f66 (Try.f66.body.getD .skip) [.st (opC o)] K := by
  simp only [BdAs, BdA, BdL, BdC, MX, ndC, shC, itC, stC, opC, chC, nwC, flC, rqC, rsC, enc, List.cons_append, List.nil_append, and_true, true_and] at hb
  unfold v66 at hK
  conv => whnf
  repeat' first|((first|refine Cnd.mk (fun h=>?_) (fun h=>?_)|refine Gd.mk (fun h=>?_))<;>(try simp [etas,elDef,-List.getD_eq_getElem?_getD] at h)<;>conv=>whnf)|((first|refine Obl.mk (by first|omega|rfl|exact inK_byte _|(simp only [inK,Int.toNat_natCast,etas,elDef]<;>first|omega|grind)|grind [inK]) ?_|refine OblG.mk (by ((conv=>whnf);(repeat (first|refine Bx.mk ?_|(intro h;(try simp [etas,elDef,-List.getD_eq_getElem?_getD] at h);conv=>whnf)));(first|omega|rfl|exact inK_byte _|(simp only [inK,Int.toNat_natCast,etas,elDef]<;>first|omega|grind)|grind [inK]))) ?_|refine And.intro ?_ ?_)<;>conv=>whnf)|exact True.intro|(intro;conv=>whnf)
  exact leafB hK (by simp only [etas]; rfl)
theorem s66 : (CtrOK Try.prog 66 (.pure F66) ∧ Callable Try.prog 66) := by
  refine pure_ok (E := E66) (mkE_cons s39 (mkE_cons s42 (mkE_cons s79 (mkE_nil tab_ok)))) mix (O := O66) (F := F66) Try.func66 rfl (by rfl) (by kernel_rfl) (fun args o v h => ?_) (fun args o v h => ?_) (fun args o v h hbd hp K hK => ?_)
  · unfold F66 at h; split at h <;> cases h; first | trivial | (simp [v66, Scalar, Scalar2, Scalar1, stC, ndC, itC, chC, nwC])
  · unfold F66 at h; split at h <;> cases h; exact Nat.le_of_ble_eq_true rfl
  · unfold F66 at h; split at h
    case h_2 => cases h
    cases h
    exact a66 ⟨_, _, _, ⟨_, _, _, _, _⟩⟩ (by exact hbd) trivial K hK
set_option maxHeartbeats 4000000
end Go.Rs

