import Derived.Test.YtahppankhidkeaaDoorCC
import Derived.Test.YtahppankhidkeaaDoorM5
import Derived.Test.YtahppankhidkeaaDoorFG
set_option linter.all false
namespace Go.Rs
open Go.Proofs
set_option maxRecDepth 100000
set_option linter.unusedVariables false
set_option linter.unusedSimpArgs false
noncomputable def v69 (a : Bs) (b : Bs) : AV := .int .i64 (Go.Lib.compareBytes a b)
noncomputable def o69 (a : Bs) (b : Bs) : Prop := True
noncomputable def F69 : List AV → QR
  | [.str a, .str b] => some (none, v69 a b)
  | _ => none
theorem kcmp (a b : ByteArray) (w : World) :
    Calls Tryd.prog 69 #[.string a, .string b] w fun e w' => e = .returned (.int .i64 (Go.Lib.compareBytes a.data.toList b.data.toList)) ∧ w' = w := by
  go_enter Tryd.func69, Tryd.ntmps69
  go_wp2
  rw [run_callFunc_extern Tryd.func86 (by kernel_rfl) (by kernel_rfl) (by kernel_rfl) (e := Extern.BytealgCompare.compare) (by kernel_rfl), Go.Lib.run_compareString]
  simp only [Result.andThen]
  rw [Oper.upon_value]
  go_wp2
  go_ret
  exact ⟨rfl, rfl⟩
theorem s69 : CtrOK Tryd.prog 69 (.pure F69) ∧ Callable Tryd.prog 69 := by
  refine ⟨⟨fun args o v h => ?_, ?_⟩, callable Tryd.func69 rfl (by rfl)⟩
  · unfold F69 at h; split at h <;> cases h; trivial
  · exact snd_cmp kcmp
noncomputable def v47 (a : Bs) (b : Bs) : AV := .int .i64 (cmpI a b)
noncomputable def o47 (a : Bs) (b : Bs) : Prop := True
noncomputable def F47 : List AV → QR
  | [.str a, .str b] => some (none, v47 a b)
  | _ => none
noncomputable def E47 : Ctx := mkE tab [(69, .pure F69)]
noncomputable def O47 : Nat → List DI := ordL []
theorem a47 (a : Bs) (b : Bs) (hb : BdAs [.str a, .str b]) (ho : o47 a b) (K : AV → List AV → Prop) (hK : K (v47 a b) []) : abody E47 O47 .ps Tryd.f47 (Tryd.f47.body.getD .skip) [.str a, .str b] K := by
  simp only [BdAs, BdA, BdL, BdC, MX, ndC, shC, itC, stC, opC, chC, nwC, flC, rqC, rsC, enc, List.cons_append, List.nil_append, and_true, true_and] at hb
  unfold v47 at hK
  rw [← cmp_ltS] at hK
  conv => whnf
  repeat' first
    | (refine Cnd.mk (fun h => ?_) (fun h => ?_) <;> (try simp [nd_eta, sh_eta, it_eta, sto_eta, op_eta, ch_eta, nw_eta, fl_eta, rq_eta, rs_eta, elDef, -List.getD_eq_getElem?_getD] at h) <;> conv => whnf)
    | (refine Obl.mk (by first | omega | rfl | exact inK_byte _ | (simp only [inK, Int.toNat_natCast, nd_eta, sh_eta, it_eta, sto_eta, op_eta, ch_eta, nw_eta, fl_eta, rq_eta, rs_eta, elDef] <;> first | omega | grind) | grind [inK]) ?_ <;> conv => whnf)
    | (refine OblG.mk (by conv => whnf
                          repeat (first | (refine Bx.mk ?_) | (intro h; (try simp [nd_eta, sh_eta, it_eta, sto_eta, op_eta, ch_eta, nw_eta, fl_eta, rq_eta, rs_eta, elDef, -List.getD_eq_getElem?_getD] at h); conv => whnf))
                          first | omega | rfl | exact inK_byte _ | (simp only [inK, Int.toNat_natCast, nd_eta, sh_eta, it_eta, sto_eta, op_eta, ch_eta, nw_eta, fl_eta, rq_eta, rs_eta, elDef] <;> first | omega | grind) | grind [inK]) ?_ <;> conv => whnf)
    | (refine Gd.mk (fun h => ?_) <;> (try simp [nd_eta, sh_eta, it_eta, sto_eta, op_eta, ch_eta, nw_eta, fl_eta, rq_eta, rs_eta, elDef, -List.getD_eq_getElem?_getD] at h) <;> conv => whnf)
    | (refine And.intro ?_ ?_ <;> conv => whnf)
    | exact True.intro
    | (intro; conv => whnf)
  exact hK
theorem s47 : (CtrOK Tryd.prog 47 (.pure F47) ∧ Callable Tryd.prog 47) := by
  refine pure_ok (E := E47) (mkE_cons s69 (mkE_nil tab_ok)) mix (O := O47) (F := F47) Tryd.func47 rfl (by rfl) (by kernel_rfl) (fun args o v h => ?_) (fun args o v h => ?_) (fun args o v h hbd hp K hK => ?_)
  · unfold F47 at h; split at h <;> cases h; first | trivial | (simp [v47, Scalar, Scalar1])
  · unfold F47 at h; split at h <;> cases h; exact Nat.le_of_ble_eq_true rfl
  · unfold F47 at h; split at h
    case h_2 => cases h
    cases h
    exact a47 _ _ (by exact hbd) trivial K hK
end Go.Rs

