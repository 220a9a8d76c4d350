import Derived.Test.YtpiclhdjglelhaaDoorCQ
set_option linter.all false
namespace Go.Rs
open Go.Proofs
set_option maxRecDepth 100000
set_option linter.unusedVariables false
set_option linter.unusedSimpArgs false
noncomputable def v78 (a : Nd) (b : Nd) : AV := .bool (decide (cmpN a b = 0))
noncomputable def o78 (a : Nd) (b : Nd) : Prop := okN a ∧ okN b
noncomputable def F78 : List AV → QR
  | [.st [.int .i64 a_0, .int .i64 a_1, .str a_2, .ps .str a_3, .ps .node a_4], .st [.int .i64 b_0, .int .i64 b_1, .str b_2, .ps .str b_3, .ps .node b_4]] => some (some (o78 ⟨a_0, a_1, a_2, a_3, a_4⟩ ⟨b_0, b_1, b_2, b_3, b_4⟩), v78 ⟨a_0, a_1, a_2, a_3, a_4⟩ ⟨b_0, b_1, b_2, b_3, b_4⟩)
  | _ => none
noncomputable def E78 : Ctx := mkE tab [(101, .pure F101)]
noncomputable def O78 : Nat → List DI := ordL []
theorem a78 (a : Nd) (b : Nd) (hb : BdAs [.st (ndC a), .st (ndC b)]) (ho : o78 a b) (K : AV → List AV → Prop) (hK : K (v78 a b) []) : abody E78 O78 .ps Tryd.f78 (Tryd.f78.body.getD .skip) [.st (ndC a), .st (ndC b)] K := by
  simp only [BdAs, BdA, BdL, BdC, MX, ndC, shC, itC, stC, opC, chC, nwC, flC, rqC, rsC, enc, List.cons_append, List.nil_append, and_true, true_and] at hb
  unfold o78 at ho
  unfold v78 at hK
  conv => whnf
  repeat' first
    | (refine Cnd.mk (fun h => ?_) (fun h => ?_) <;> (try simp [nd_eta, sh_eta, it_eta, sto_eta, op_eta, ch_eta, nw_eta, fl_eta, rq_eta, rs_eta, elDef, -List.getD_eq_getElem?_getD] at h) <;> conv => whnf)
    | (refine Obl.mk (by first | omega | rfl | exact inK_byte _ | (simp only [inK, Int.toNat_natCast, nd_eta, sh_eta, it_eta, sto_eta, op_eta, ch_eta, nw_eta, fl_eta, rq_eta, rs_eta, elDef, o101, m101] <;> first | omega | grind) | grind [inK, o101, m101]) ?_ <;> conv => whnf)
    | (refine OblG.mk (by conv => whnf
                          repeat (first | (refine Bx.mk ?_) | (intro h; (try simp [nd_eta, sh_eta, it_eta, sto_eta, op_eta, ch_eta, nw_eta, fl_eta, rq_eta, rs_eta, elDef, -List.getD_eq_getElem?_getD] at h); conv => whnf))
                          first | omega | rfl | exact inK_byte _ | (simp only [inK, Int.toNat_natCast, nd_eta, sh_eta, it_eta, sto_eta, op_eta, ch_eta, nw_eta, fl_eta, rq_eta, rs_eta, elDef, o101, m101] <;> first | omega | grind) | grind [inK, o101, m101]) ?_ <;> conv => whnf)
    | (refine Gd.mk (fun h => ?_) <;> (try simp [nd_eta, sh_eta, it_eta, sto_eta, op_eta, ch_eta, nw_eta, fl_eta, rq_eta, rs_eta, elDef, -List.getD_eq_getElem?_getD] at h) <;> conv => whnf)
    | (refine And.intro ?_ ?_ <;> conv => whnf)
    | exact True.intro
    | (intro; conv => whnf)
  all_goals first | exact hK | exact leafB hK (by simp only [nd_eta])
theorem s78 : (CtrOK Tryd.prog 78 (.pure F78) ∧ Callable Tryd.prog 78) := by
  refine pure_ok (E := E78) (mkE_cons s101 (mkE_nil tab_ok)) mix (O := O78) (F := F78) Tryd.func78 rfl (by rfl) (by kernel_rfl) (fun args o v h => ?_) (fun args o v h => ?_) (fun args o v h hbd hp K hK => ?_)
  · unfold F78 at h; split at h <;> cases h; first | trivial | (simp [v78, Scalar, Scalar2, Scalar1, stC, ndC, itC, chC, nwC])
  · unfold F78 at h; split at h <;> cases h; exact Nat.le_of_ble_eq_true rfl
  · unfold F78 at h; split at h
    case h_2 => cases h
    cases h
    exact a78 ⟨_, _, _, _, _⟩ ⟨_, _, _, _, _⟩ (by exact hbd) (hp _ rfl) K hK
end Go.Rs

