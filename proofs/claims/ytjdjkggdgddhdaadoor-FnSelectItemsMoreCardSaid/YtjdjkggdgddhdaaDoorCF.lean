import Derived.Test.YtjdjkggdgddhdaaDoorCC
import Derived.Test.YtjdjkggdgddhdaaDoorMA
import Derived.Test.YtjdjkggdgddhdaaDoorFG
set_option linter.all false
namespace Go.Rs
open Go.Proofs
set_option maxRecDepth 100000
set_option linter.unusedVariables false
set_option linter.unusedSimpArgs false
noncomputable def v85 (a : Bs) (b : Bs) : AV := .int .i64 (Go.Lib.compareBytes a b)
noncomputable def o85 (a : Bs) (b : Bs) : Prop := True
noncomputable def F85 : List AV → QR
  | [.str a, .str b] => some (none, v85 a b)
  | _ => none
theorem kcmp (a b : ByteArray) (w : World) :
    Calls Tryd.prog 85 #[.string a, .string b] w fun e w' => e = .returned (.int .i64 (Go.Lib.compareBytes a.data.toList b.data.toList)) ∧ w' = w := by
  go_enter Tryd.func85, Tryd.ntmps85
  go_wp2
  rw [run_callFunc_extern Tryd.func89 (by kernel_rfl) (by kernel_rfl) (by kernel_rfl) (e := Extern.BytealgCompare.compare) (by kernel_rfl), Go.Lib.run_compareString]
  simp only [Result.andThen]
  rw [Oper.upon_value]
  go_wp2
  go_ret
  exact ⟨rfl, rfl⟩
theorem s85 : CtrOK Tryd.prog 85 (.pure F85) ∧ Callable Tryd.prog 85 := by
  refine ⟨⟨fun args o v h => ?_, ?_⟩, callable Tryd.func85 rfl (by rfl)⟩
  · unfold F85 at h; split at h <;> cases h; trivial
  · exact snd_cmp kcmp
noncomputable def v76 (a : Bs) (b : Bs) : AV := .int .i64 (cmpI a b)
noncomputable def o76 (a : Bs) (b : Bs) : Prop := True
noncomputable def F76 : List AV → QR
  | [.str a, .str b] => some (none, v76 a b)
  | _ => none
noncomputable def E76 : Ctx := mkE tab [(85, .pure F85)]
noncomputable def O76 : Nat → List DI := ordL []
theorem a76 (a : Bs) (b : Bs) (hb : BdAs [.str a, .str b]) (ho : o76 a b) (K : AV → List AV → Prop) (hK : K (v76 a b) []) : abody E76 O76 .ps Tryd.f76 (Tryd.f76.body.getD .skip) [.str a, .str b] K := by
  simp only [BdAs, BdA, BdL, BdC, MX, ndC, shC, itC, stC, opC, chC, nwC, flC, rqC, rsC, enc, List.cons_append, List.nil_append, and_true, true_and] at hb
  unfold v76 at hK
  rw [← cmp_ltS] at hK
  conv => whnf
  repeat' first
    | (refine Cnd.mk (fun h => ?_) (fun h => ?_) <;> (try simp [nd_eta, sh_eta, it_eta, sto_eta, op_eta, ch_eta, nw_eta, fl_eta, rq_eta, rs_eta, elDef, -List.getD_eq_getElem?_getD] at h) <;> conv => whnf)
    | (refine Obl.mk (by first | omega | rfl | exact inK_byte _ | (simp only [inK, Int.toNat_natCast, nd_eta, sh_eta, it_eta, sto_eta, op_eta, ch_eta, nw_eta, fl_eta, rq_eta, rs_eta, elDef] <;> first | omega | grind) | grind [inK]) ?_ <;> conv => whnf)
    | (refine OblG.mk (by conv => whnf
                          repeat (first | (refine Bx.mk ?_) | (intro h; (try simp [nd_eta, sh_eta, it_eta, sto_eta, op_eta, ch_eta, nw_eta, fl_eta, rq_eta, rs_eta, elDef, -List.getD_eq_getElem?_getD] at h); conv => whnf))
                          first | omega | rfl | exact inK_byte _ | (simp only [inK, Int.toNat_natCast, nd_eta, sh_eta, it_eta, sto_eta, op_eta, ch_eta, nw_eta, fl_eta, rq_eta, rs_eta, elDef] <;> first | omega | grind) | grind [inK]) ?_ <;> conv => whnf)
    | (refine Gd.mk (fun h => ?_) <;> (try simp [nd_eta, sh_eta, it_eta, sto_eta, op_eta, ch_eta, nw_eta, fl_eta, rq_eta, rs_eta, elDef, -List.getD_eq_getElem?_getD] at h) <;> conv => whnf)
    | (refine And.intro ?_ ?_ <;> conv => whnf)
    | exact True.intro
    | (intro; conv => whnf)
  exact hK
theorem s76 : (CtrOK Tryd.prog 76 (.pure F76) ∧ Callable Tryd.prog 76) := by
  refine pure_ok (E := E76) (mkE_cons s85 (mkE_nil tab_ok)) mix (O := O76) (F := F76) Tryd.func76 rfl (by rfl) (by kernel_rfl) (fun args o v h => ?_) (fun args o v h => ?_) (fun args o v h hbd hp K hK => ?_)
  · unfold F76 at h; split at h <;> cases h; first | trivial | (simp [v76, Scalar, Scalar2, Scalar1, stC, ndC, itC, chC, nwC])
  · unfold F76 at h; split at h <;> cases h; exact Nat.le_of_ble_eq_true rfl
  · unfold F76 at h; split at h
    case h_2 => cases h
    cases h
    exact a76 _ _ (by exact hbd) trivial K hK
end Go.Rs

