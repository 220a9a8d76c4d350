import Derived.Test.YtpiclhdjglelhaaCQ
set_option linter.all false
namespace Go.Rs
open Go.Proofs
set_option maxRecDepth 100000
set_option linter.unusedVariables false
set_option linter.unusedSimpArgs false
noncomputable def v40 (a : Nd) (b : Nd) : AV := .bool (decide (cmpN a b = 0))
noncomputable def o40 (a : Nd) (b : Nd) : Prop := okN a ∧ okN b
noncomputable def F40 : List AV → QR
  | [.st [.int .i64 a_0, .int .i64 a_1, .str a_2, .ps .str a_3, .ps .node a_4], .st [.int .i64 b_0, .int .i64 b_1, .str b_2, .ps .str b_3, .ps .node b_4]] => some (some (o40 ⟨a_0, a_1, a_2, a_3, a_4⟩ ⟨b_0, b_1, b_2, b_3, b_4⟩), v40 ⟨a_0, a_1, a_2, a_3, a_4⟩ ⟨b_0, b_1, b_2, b_3, b_4⟩)
  | _ => none
noncomputable def E40 : Ctx := mkE tab [(62, .pure F62)]
noncomputable def O40 : Nat → List DI := ordL []
theorem a40 (a : Nd) (b : Nd) (hb : BdAs [.st (ndC a), .st (ndC b)]) (ho : o40 a b) (K : AV → List AV → Prop) (hK : K (v40 a b) []) : abody E40 O40 .ps Try.f40 (Try.f40.body.getD .skip) [.st (ndC a), .st (ndC b)] K := by
  simp only [BdAs, BdA, BdL, BdC, MX, ndC, shC, itC, stC, opC, chC, nwC, flC, rqC, rsC, enc, List.cons_append, List.nil_append, and_true, true_and] at hb
  unfold o40 at ho
  unfold v40 at hK
  conv => whnf
  repeat' first
    | (refine Cnd.mk (fun h => ?_) (fun h => ?_) <;> (try simp [nd_eta, sh_eta, it_eta, sto_eta, op_eta, ch_eta, nw_eta, fl_eta, rq_eta, rs_eta, elDef, -List.getD_eq_getElem?_getD] at h) <;> conv => whnf)
    | (refine Obl.mk (by first | omega | rfl | exact inK_byte _ | (simp only [inK, Int.toNat_natCast, nd_eta, sh_eta, it_eta, sto_eta, op_eta, ch_eta, nw_eta, fl_eta, rq_eta, rs_eta, elDef, o62, m62] <;> first | omega | grind) | grind [inK, o62, m62]) ?_ <;> conv => whnf)
    | (refine OblG.mk (by conv => whnf
                          repeat (first | (refine Bx.mk ?_) | (intro h; (try simp [nd_eta, sh_eta, it_eta, sto_eta, op_eta, ch_eta, nw_eta, fl_eta, rq_eta, rs_eta, elDef, -List.getD_eq_getElem?_getD] at h); conv => whnf))
                          first | omega | rfl | exact inK_byte _ | (simp only [inK, Int.toNat_natCast, nd_eta, sh_eta, it_eta, sto_eta, op_eta, ch_eta, nw_eta, fl_eta, rq_eta, rs_eta, elDef, o62, m62] <;> first | omega | grind) | grind [inK, o62, m62]) ?_ <;> conv => whnf)
    | (refine Gd.mk (fun h => ?_) <;> (try simp [nd_eta, sh_eta, it_eta, sto_eta, op_eta, ch_eta, nw_eta, fl_eta, rq_eta, rs_eta, elDef, -List.getD_eq_getElem?_getD] at h) <;> conv => whnf)
    | (refine And.intro ?_ ?_ <;> conv => whnf)
    | exact True.intro
    | (intro; conv => whnf)
  all_goals first | exact hK | exact leafB hK (by simp only [nd_eta])
theorem s40 : (CtrOK Try.prog 40 (.pure F40) ∧ Callable Try.prog 40) := by
  refine pure_ok (E := E40) (mkE_cons s62 (mkE_nil tab_ok)) mix (O := O40) (F := F40) Try.func40 rfl (by rfl) (by kernel_rfl) (fun args o v h => ?_) (fun args o v h => ?_) (fun args o v h hbd hp K hK => ?_)
  · unfold F40 at h; split at h <;> cases h; first | trivial | (simp [v40, Scalar, Scalar2, Scalar1, stC, ndC, itC, chC, nwC])
  · unfold F40 at h; split at h <;> cases h; exact Nat.le_of_ble_eq_true rfl
  · unfold F40 at h; split at h
    case h_2 => cases h
    cases h
    exact a40 ⟨_, _, _, _, _⟩ ⟨_, _, _, _, _⟩ (by exact hbd) (hp _ rfl) K hK
end Go.Rs

