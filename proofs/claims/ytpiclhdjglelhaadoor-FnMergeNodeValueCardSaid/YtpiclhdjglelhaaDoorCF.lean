import Derived.Test.YtpiclhdjglelhaaDoorCC
import Derived.Test.YtpiclhdjglelhaaDoorMA
import Derived.Test.YtpiclhdjglelhaaDoorFG
set_option linter.all false
namespace Go.Rs
open Go.Proofs
set_option maxRecDepth 100000
set_option linter.unusedVariables false
set_option linter.unusedSimpArgs false
noncomputable def v123 (a : Bs) (b : Bs) : AV := .int .i64 (Go.Lib.compareBytes a b)
noncomputable def o123 (a : Bs) (b : Bs) : Prop := True
noncomputable def F123 : List AV → QR
  | [.str a, .str b] => some (none, v123 a b)
  | _ => none
theorem kcmp (a b : ByteArray) (w : World) :
    Calls Tryd.prog 123 #[.string a, .string b] w fun e w' => e = .returned (.int .i64 (Go.Lib.compareBytes a.data.toList b.data.toList)) ∧ w' = w := by
  go_enter Tryd.func123, Tryd.ntmps123
  go_wp2
  rw [run_callFunc_extern Tryd.func131 (by kernel_rfl) (by kernel_rfl) (by kernel_rfl) (e := Extern.BytealgCompare.compare) (by kernel_rfl), Go.Lib.run_compareString]
  simp only [Result.andThen]
  rw [Oper.upon_value]
  go_wp2
  go_ret
  exact ⟨rfl, rfl⟩
theorem s123 : CtrOK Tryd.prog 123 (.pure F123) ∧ Callable Tryd.prog 123 := by
  refine ⟨⟨fun args o v h => ?_, ?_⟩, callable Tryd.func123 rfl (by rfl)⟩
  · unfold F123 at h; split at h <;> cases h; trivial
  · exact snd_cmp kcmp
noncomputable def v113 (a : Bs) (b : Bs) : AV := .int .i64 (cmpI a b)
noncomputable def o113 (a : Bs) (b : Bs) : Prop := True
noncomputable def F113 : List AV → QR
  | [.str a, .str b] => some (none, v113 a b)
  | _ => none
noncomputable def E113 : Ctx := mkE tab [(123, .pure F123)]
noncomputable def O113 : Nat → List DI := ordL []
theorem a113 (a : Bs) (b : Bs) (hb : BdAs [.str a, .str b]) (ho : o113 a b) (K : AV → List AV → Prop) (hK : K (v113 a b) []) : abody E113 O113 .ps Tryd.f113 (Tryd.f113.body.getD .skip) [.str a, .str b] K := by
  simp only [BdAs, BdA, BdL, BdC, MX, ndC, shC, itC, stC, opC, chC, nwC, flC, rqC, rsC, enc, List.cons_append, List.nil_append, and_true, true_and] at hb
  unfold v113 at hK
  rw [← cmp_ltS] at hK
  conv => whnf
  repeat' first
    | (refine Cnd.mk (fun h => ?_) (fun h => ?_) <;> (try simp [nd_eta, sh_eta, it_eta, sto_eta, op_eta, ch_eta, nw_eta, fl_eta, rq_eta, rs_eta, elDef, -List.getD_eq_getElem?_getD] at h) <;> conv => whnf)
    | (refine Obl.mk (by first | omega | rfl | exact inK_byte _ | (simp only [inK, Int.toNat_natCast, nd_eta, sh_eta, it_eta, sto_eta, op_eta, ch_eta, nw_eta, fl_eta, rq_eta, rs_eta, elDef] <;> first | omega | grind) | grind [inK]) ?_ <;> conv => whnf)
    | (refine OblG.mk (by conv => whnf
                          repeat (first | (refine Bx.mk ?_) | (intro h; (try simp [nd_eta, sh_eta, it_eta, sto_eta, op_eta, ch_eta, nw_eta, fl_eta, rq_eta, rs_eta, elDef, -List.getD_eq_getElem?_getD] at h); conv => whnf))
                          first | omega | rfl | exact inK_byte _ | (simp only [inK, Int.toNat_natCast, nd_eta, sh_eta, it_eta, sto_eta, op_eta, ch_eta, nw_eta, fl_eta, rq_eta, rs_eta, elDef] <;> first | omega | grind) | grind [inK]) ?_ <;> conv => whnf)
    | (refine Gd.mk (fun h => ?_) <;> (try simp [nd_eta, sh_eta, it_eta, sto_eta, op_eta, ch_eta, nw_eta, fl_eta, rq_eta, rs_eta, elDef, -List.getD_eq_getElem?_getD] at h) <;> conv => whnf)
    | (refine And.intro ?_ ?_ <;> conv => whnf)
    | exact True.intro
    | (intro; conv => whnf)
  exact hK
theorem s113 : (CtrOK Tryd.prog 113 (.pure F113) ∧ Callable Tryd.prog 113) := by
  refine pure_ok (E := E113) (mkE_cons s123 (mkE_nil tab_ok)) mix (O := O113) (F := F113) Tryd.func113 rfl (by rfl) (by kernel_rfl) (fun args o v h => ?_) (fun args o v h => ?_) (fun args o v h hbd hp K hK => ?_)
  · unfold F113 at h; split at h <;> cases h; first | trivial | (simp [v113, Scalar, Scalar2, Scalar1, stC, ndC, itC, chC, nwC])
  · unfold F113 at h; split at h <;> cases h; exact Nat.le_of_ble_eq_true rfl
  · unfold F113 at h; split at h
    case h_2 => cases h
    cases h
    exact a113 _ _ (by exact hbd) trivial K hK
end Go.Rs

