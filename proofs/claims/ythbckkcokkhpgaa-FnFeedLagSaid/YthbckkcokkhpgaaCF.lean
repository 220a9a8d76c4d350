import Derived.Test.YthbckkcokkhpgaaCC
import Derived.Test.YthbckkcokkhpgaaM5
import Derived.Test.YthbckkcokkhpgaaFG
set_option linter.all false
namespace Go.Rs
open Go.Proofs
set_option maxRecDepth 100000
set_option linter.unusedVariables false
set_option linter.unusedSimpArgs false
noncomputable def v64 (a : Bs) (b : Bs) : AV := .int .i64 (Go.Lib.compareBytes a b)
noncomputable def o64 (a : Bs) (b : Bs) : Prop := True
noncomputable def F64 : List AV → QR
  | [.str a, .str b] => some (none, v64 a b)
  | _ => none
theorem kcmp (a b : ByteArray) (w : World) :
    Calls Try.prog 64 #[.string a, .string b] w fun e w' => e = .returned (.int .i64 (Go.Lib.compareBytes a.data.toList b.data.toList)) ∧ w' = w := by
  go_enter Try.func64, Try.ntmps64
  go_wp2
  rw [run_callFunc_extern Try.func76 (by kernel_rfl) (by kernel_rfl) (by kernel_rfl) (e := Extern.BytealgCompare.compare) (by kernel_rfl), Go.Lib.run_compareString]
  simp only [Result.andThen]
  rw [Oper.upon_value]
  go_wp2
  go_ret
  exact ⟨rfl, rfl⟩
theorem s64 : CtrOK Try.prog 64 (.pure F64) ∧ Callable Try.prog 64 := by
  refine ⟨⟨fun args o v h => ?_, ?_⟩, callable Try.func64 rfl (by rfl)⟩
  · unfold F64 at h; split at h <;> cases h; trivial
  · exact snd_cmp kcmp
noncomputable def v49 (a : Bs) (b : Bs) : AV := .int .i64 (cmpI a b)
noncomputable def o49 (a : Bs) (b : Bs) : Prop := True
noncomputable def F49 : List AV → QR
  | [.str a, .str b] => some (none, v49 a b)
  | _ => none
noncomputable def E49 : Ctx := mkE tab [(64, .pure F64)]
noncomputable def O49 : Nat → List DI := ordL []
theorem a49 (a : Bs) (b : Bs) (hb : BdAs [.str a, .str b]) (ho : o49 a b) (K : AV → List AV → Prop) (hK : K (v49 a b) []) : abody E49 O49 .ps Try.f49 (Try.f49.body.getD .skip) [.str a, .str b] K := by
  simp only [BdAs, BdA, BdL, BdC, MX, ndC, shC, itC, stC, opC, chC, nwC, flC, rqC, rsC, enc, List.cons_append, List.nil_append, and_true, true_and] at hb
  unfold v49 at hK
  rw [← cmp_ltS] at hK
  conv => whnf
  repeat' first
    | (refine Cnd.mk (fun h => ?_) (fun h => ?_) <;> (try simp [nd_eta, sh_eta, it_eta, sto_eta, op_eta, ch_eta, nw_eta, fl_eta, rq_eta, rs_eta, elDef, -List.getD_eq_getElem?_getD] at h) <;> conv => whnf)
    | (refine Obl.mk (by first | omega | rfl | exact inK_byte _ | (simp only [inK, Int.toNat_natCast, nd_eta, sh_eta, it_eta, sto_eta, op_eta, ch_eta, nw_eta, fl_eta, rq_eta, rs_eta, elDef] <;> first | omega | grind) | grind [inK]) ?_ <;> conv => whnf)
    | (refine OblG.mk (by conv => whnf
                          repeat (first | (refine Bx.mk ?_) | (intro h; (try simp [nd_eta, sh_eta, it_eta, sto_eta, op_eta, ch_eta, nw_eta, fl_eta, rq_eta, rs_eta, elDef, -List.getD_eq_getElem?_getD] at h); conv => whnf))
                          first | omega | rfl | exact inK_byte _ | (simp only [inK, Int.toNat_natCast, nd_eta, sh_eta, it_eta, sto_eta, op_eta, ch_eta, nw_eta, fl_eta, rq_eta, rs_eta, elDef] <;> first | omega | grind) | grind [inK]) ?_ <;> conv => whnf)
    | (refine Gd.mk (fun h => ?_) <;> (try simp [nd_eta, sh_eta, it_eta, sto_eta, op_eta, ch_eta, nw_eta, fl_eta, rq_eta, rs_eta, elDef, -List.getD_eq_getElem?_getD] at h) <;> conv => whnf)
    | (refine And.intro ?_ ?_ <;> conv => whnf)
    | exact True.intro
    | (intro; conv => whnf)
  exact hK
theorem s49 : (CtrOK Try.prog 49 (.pure F49) ∧ Callable Try.prog 49) := by
  refine pure_ok (E := E49) (mkE_cons s64 (mkE_nil tab_ok)) mix (O := O49) (F := F49) Try.func49 rfl (by rfl) (by kernel_rfl) (fun args o v h => ?_) (fun args o v h => ?_) (fun args o v h hbd hp K hK => ?_)
  · unfold F49 at h; split at h <;> cases h; first | trivial | (simp [v49, Scalar, Scalar1])
  · unfold F49 at h; split at h <;> cases h; exact Nat.le_of_ble_eq_true rfl
  · unfold F49 at h; split at h
    case h_2 => cases h
    cases h
    exact a49 _ _ (by exact hbd) trivial K hK
noncomputable def v48 (it : It) (b : Bs) : AV := .int .i64 (cmpI it.name b)
noncomputable def o48 (it : It) (b : Bs) : Prop := True
noncomputable def F48 : List AV → QR
  | [.st [.str it_0, .int .i64 it_1, .int .i64 it_2_0, .int .i64 it_2_1, .str it_2_2, .ps .str it_2_3, .ps .node it_2_4], .str b] => some (none, v48 ⟨it_0, it_1, ⟨it_2_0, it_2_1, it_2_2, it_2_3, it_2_4⟩⟩ b)
  | _ => none
noncomputable def E48 : Ctx := mkE tab [(49, .pure F49)]
noncomputable def O48 : Nat → List DI := ordL []
theorem a48 (it : It) (b : Bs) (hb : BdAs [.st (itC it), .str b]) (ho : o48 it b) (K : AV → List AV → Prop) (hK : K (v48 it b) []) : abody E48 O48 .ps Try.f48 (Try.f48.body.getD .skip) [.st (itC it), .str b] K := by
  simp only [BdAs, BdA, BdL, BdC, MX, ndC, shC, itC, stC, opC, chC, nwC, flC, rqC, rsC, enc, List.cons_append, List.nil_append, and_true, true_and] at hb
  unfold v48 at hK
  conv => whnf
  repeat' first
    | (refine Cnd.mk (fun h => ?_) (fun h => ?_) <;> (try simp [nd_eta, sh_eta, it_eta, sto_eta, op_eta, ch_eta, nw_eta, fl_eta, rq_eta, rs_eta, elDef, -List.getD_eq_getElem?_getD] at h) <;> conv => whnf)
    | (refine Obl.mk (by first | omega | rfl | exact inK_byte _ | (simp only [inK, Int.toNat_natCast, nd_eta, sh_eta, it_eta, sto_eta, op_eta, ch_eta, nw_eta, fl_eta, rq_eta, rs_eta, elDef] <;> first | omega | grind) | grind [inK]) ?_ <;> conv => whnf)
    | (refine OblG.mk (by conv => whnf
                          repeat (first | (refine Bx.mk ?_) | (intro h; (try simp [nd_eta, sh_eta, it_eta, sto_eta, op_eta, ch_eta, nw_eta, fl_eta, rq_eta, rs_eta, elDef, -List.getD_eq_getElem?_getD] at h); conv => whnf))
                          first | omega | rfl | exact inK_byte _ | (simp only [inK, Int.toNat_natCast, nd_eta, sh_eta, it_eta, sto_eta, op_eta, ch_eta, nw_eta, fl_eta, rq_eta, rs_eta, elDef] <;> first | omega | grind) | grind [inK]) ?_ <;> conv => whnf)
    | (refine Gd.mk (fun h => ?_) <;> (try simp [nd_eta, sh_eta, it_eta, sto_eta, op_eta, ch_eta, nw_eta, fl_eta, rq_eta, rs_eta, elDef, -List.getD_eq_getElem?_getD] at h) <;> conv => whnf)
    | (refine And.intro ?_ ?_ <;> conv => whnf)
    | exact True.intro
    | (intro; conv => whnf)
  exact hK
theorem s48 : (CtrOK Try.prog 48 (.pure F48) ∧ Callable Try.prog 48) := by
  refine pure_ok (E := E48) (mkE_cons s49 (mkE_nil tab_ok)) mix (O := O48) (F := F48) Try.func48 rfl (by rfl) (by kernel_rfl) (fun args o v h => ?_) (fun args o v h => ?_) (fun args o v h hbd hp K hK => ?_)
  · unfold F48 at h; split at h <;> cases h; first | trivial | (simp [v48, Scalar, Scalar1])
  · unfold F48 at h; split at h <;> cases h; exact Nat.le_of_ble_eq_true rfl
  · unfold F48 at h; split at h
    case h_2 => cases h
    cases h
    exact a48 ⟨_, _, ⟨_, _, _, _, _⟩⟩ _ (by exact hbd) trivial K hK
end Go.Rs

