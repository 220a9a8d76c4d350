import Derived.Test.YtoailaifflbomaaCP
set_option linter.all false
set_option linter.unusedSimpArgs false
set_option linter.unusedVariables false
namespace Go.Rs
open Go.Proofs
set_option maxRecDepth 100000
noncomputable def v89 (a : Nd) (b : Nd) : AV := .bool (decide (cmpN a b = 0))
noncomputable def o89 (a : Nd) (b : Nd) : Prop := okN a ∧ okN b
noncomputable def F89 : List AV → QR
  | [.st [.int .i64 a_0, .int .i64 a_1, .str a_2, .ps .str a_3, .ps .node a_4], .st [.int .i64 b_0, .int .i64 b_1, .str b_2, .ps .str b_3, .ps .node b_4]] => some (some (o89 ⟨a_0, a_1, a_2, a_3, a_4⟩ ⟨b_0, b_1, b_2, b_3, b_4⟩), v89 ⟨a_0, a_1, a_2, a_3, a_4⟩ ⟨b_0, b_1, b_2, b_3, b_4⟩)
  | _ => none
noncomputable def E89 : Ctx := mkE tab [(112, .pure F112)]
noncomputable def O89 : Nat → List DI := ordL []
theorem a89 (a : Nd) (b : Nd) (hb : BdAs [.st (ndC a), .st (ndC b)]) (ho : o89 a b) (K : AV → List AV → Prop) (hK : K (v89 a b) []) : abody E89 O89 .ps Try.f89 (Try.f89.body.getD .skip) [.st (ndC a), .st (ndC b)] K := by
  simp only [BdAs, BdA, BdL, BdC, MX, ndC, shC, itC, stC, opC, chC, nwC, flC, rqC, rsC, enc, List.cons_append, List.nil_append, and_true, true_and] at hb
  unfold o89 at ho
  unfold v89 at hK
  conv => whnf
  repeat' first|((first|refine Cnd.mk (fun h=>?_) (fun h=>?_)|refine Gd.mk (fun h=>?_))<;>(try simp [etas,elDef,-List.getD_eq_getElem?_getD] at h)<;>conv=>whnf)|((first|refine Obl.mk (by first|omega|rfl|exact inK_byte _|(simp only [inK,Int.toNat_natCast,etas,elDef,o112,m112]<;>first|omega|grind)|grind [inK,o112,m112]) ?_|refine OblG.mk (by ((conv=>whnf);(repeat (first|refine Bx.mk ?_|(intro h;(try simp [etas,elDef,-List.getD_eq_getElem?_getD] at h);conv=>whnf)));(first|omega|rfl|exact inK_byte _|(simp only [inK,Int.toNat_natCast,etas,elDef,o112,m112]<;>first|omega|grind)|grind [inK,o112,m112]))) ?_|refine And.intro ?_ ?_)<;>conv=>whnf)|exact True.intro|(intro;conv=>whnf)
  all_goals first | exact hK | exact leafB hK (by simp only [nd_eta])
theorem s89 : (CtrOK Try.prog 89 (.pure F89) ∧ Callable Try.prog 89) := by
  refine pure_ok (E := E89) (mkE_cons s112 (mkE_nil tab_ok)) mix (O := O89) (F := F89) Try.func89 rfl (by rfl) (by kernel_rfl) (fun args o v h => ?_) (fun args o v h => ?_) (fun args o v h hbd hp K hK => ?_)
  · unfold F89 at h; split at h <;> cases h; first | trivial | (simp [v89, Scalar, Scalar2, Scalar1, stC, ndC, itC, chC, nwC])
  · unfold F89 at h; split at h <;> cases h; exact Nat.le_of_ble_eq_true rfl
  · unfold F89 at h; split at h
    case h_2 => cases h
    cases h
    exact a89 ⟨_, _, _, _, _⟩ ⟨_, _, _, _, _⟩ (by exact hbd) (hp _ rfl) K hK
end Go.Rs

