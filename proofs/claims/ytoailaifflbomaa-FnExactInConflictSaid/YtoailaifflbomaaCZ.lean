import Derived.Test.YtoailaifflbomaaCT
import Derived.Test.YtoailaifflbomaaCR
import Derived.Test.YtoailaifflbomaaCP
import Derived.Test.YtoailaifflbomaaMD
set_option linter.all false
set_option linter.unusedSimpArgs false
set_option linter.unusedVariables false
namespace Go.Rs
open Go.Proofs
set_option maxRecDepth 100000
noncomputable def v95 (a : Nd) (b : Nd) : AV := .bool (decide (cmpN a b = 0))
noncomputable def o95 (a : Nd) (b : Nd) : Prop := okN a ∧ okN b
noncomputable def F95 : List AV → QR
  | [.st [.int .i64 a_0, .int .i64 a_1, .str a_2, .ps .str a_3, .ps .node a_4], .st [.int .i64 b_0, .int .i64 b_1, .str b_2, .ps .str b_3, .ps .node b_4]] => some (some (o95 ⟨a_0, a_1, a_2, a_3, a_4⟩ ⟨b_0, b_1, b_2, b_3, b_4⟩), v95 ⟨a_0, a_1, a_2, a_3, a_4⟩ ⟨b_0, b_1, b_2, b_3, b_4⟩)
  | _ => none
noncomputable def E95 : Ctx := mkE tab [(117, .pure F117)]
noncomputable def O95 : Nat → List DI := ordL []
theorem a95 (a : Nd) (b : Nd) (hb : BdAs [.st (ndC a), .st (ndC b)]) (ho : o95 a b) (K : AV → List AV → Prop) (hK : K (v95 a b) []) : abody E95 O95 .ps Try.f95 (Try.f95.body.getD .skip) [.st (ndC a), .st (ndC b)] K := by
  simp only [BdAs, BdA, BdL, BdC, MX, ndC, shC, itC, stC, opC, chC, nwC, flC, rqC, rsC, enc, List.cons_append, List.nil_append, and_true, true_and] at hb
  unfold o95 at ho
  unfold v95 at hK
  conv => whnf
  repeat' first|((first|refine Cnd.mk (fun h=>?_) (fun h=>?_)|refine Gd.mk (fun h=>?_))<;>(try simp [etas,elDef,-List.getD_eq_getElem?_getD] at h)<;>conv=>whnf)|((first|refine Obl.mk (by first|omega|rfl|exact inK_byte _|(simp only [inK,Int.toNat_natCast,etas,elDef,o117,m117]<;>first|omega|grind)|grind [inK,o117,m117]) ?_|refine OblG.mk (by ((conv=>whnf);(repeat (first|refine Bx.mk ?_|(intro h;(try simp [etas,elDef,-List.getD_eq_getElem?_getD] at h);conv=>whnf)));(first|omega|rfl|exact inK_byte _|(simp only [inK,Int.toNat_natCast,etas,elDef,o117,m117]<;>first|omega|grind)|grind [inK,o117,m117]))) ?_|refine And.intro ?_ ?_)<;>conv=>whnf)|exact True.intro|(intro;conv=>whnf)
  exact leafB hK (by simp only [nd_eta])
theorem s95 : (CtrOK Try.prog 95 (.pure F95) ∧ Callable Try.prog 95) := by
  refine pure_ok (E := E95) (mkE_cons s117 (mkE_nil tab_ok)) mix (O := O95) (F := F95) Try.func95 rfl (by rfl) (by kernel_rfl) (fun args o v h => ?_) (fun args o v h => ?_) (fun args o v h hbd hp K hK => ?_)
  · unfold F95 at h; split at h <;> cases h; first | trivial | (simp [v95, Scalar, Scalar2, Scalar1, stC, ndC, itC, chC, nwC])
  · unfold F95 at h; split at h <;> cases h; exact Nat.le_of_ble_eq_true rfl
  · unfold F95 at h; split at h
    case h_2 => cases h
    cases h
    exact a95 ⟨_, _, _, _, _⟩ ⟨_, _, _, _, _⟩ (by exact hbd) (hp _ rfl) K hK
theorem leafV2 {K : AV → List AV → Prop} {a b : AV} {r s : List AV} (hK : K a r) (h : a = b ∧ r = s) : K b s := by obtain ⟨h1, h2⟩ := h; rw [← h1, ← h2]; exact hK
end Go.Rs

