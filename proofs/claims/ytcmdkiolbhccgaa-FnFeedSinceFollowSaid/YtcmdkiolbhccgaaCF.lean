import Derived.Test.YtcmdkiolbhccgaaCC
import Derived.Test.YtcmdkiolbhccgaaMA
import Derived.Test.YtcmdkiolbhccgaaFG
set_option linter.all false
namespace Go.Rs
open Go.Proofs
set_option maxRecDepth 100000
set_option linter.unusedVariables false
set_option linter.unusedSimpArgs false
noncomputable def v55 (a : Bs) (b : Bs) : AV := .int .i64 (Go.Lib.compareBytes a b)
noncomputable def F55 : List AV → QR
  | [.str a, .str b] => some (none, v55 a b)
  | _ => none
theorem kcmp (a b : ByteArray) (w : World) :
    Calls Try.prog 55 #[.string a, .string b] w fun e w' => e = .returned (.int .i64 (Go.Lib.compareBytes a.data.toList b.data.toList)) ∧ w' = w := by
  go_enter Try.func55, Try.ntmps55
  go_wp2
  rw [run_callFunc_extern Try.func66 (by kernel_rfl) (by kernel_rfl) (by kernel_rfl) (e := Extern.BytealgCompare.compare) (by kernel_rfl), Go.Lib.run_compareString]
  simp only [Result.andThen]
  rw [Oper.upon_value]
  go_wp2
  go_ret
  exact ⟨rfl, rfl⟩
theorem s55 : CtrOK Try.prog 55 (.pure F55) ∧ Callable Try.prog 55 := by
  refine ⟨⟨fun args o v h => ?_, ?_⟩, callable Try.func55 rfl (by rfl)⟩
  · unfold F55 at h; split at h <;> cases h; trivial
  · exact snd_cmp kcmp
noncomputable def v43 (a : Bs) (b : Bs) : AV := .int .i64 (cmpI a b)
noncomputable def o43 (a : Bs) (b : Bs) : Prop := True
noncomputable def F43 : List AV → QR
  | [.str a, .str b] => some (none, v43 a b)
  | _ => none
noncomputable def E43 : Ctx := mkE tab [(55, .pure F55)]
noncomputable def O43 : Nat → List DI := ordL []
theorem a43 (a : Bs) (b : Bs) (hb : BdAs [.str a, .str b]) (ho : o43 a b) (K : AV → List AV → Prop) (hK : K (v43 a b) []) : abody E43 O43 .ps Try.f43 (Try.f43.body.getD .skip) [.str a, .str b] K := by
  simp only [BdAs, BdA, BdL, BdC, MX, ndC, shC, itC, stC, opC, chC, nwC, flC, rqC, rsC, enc, List.cons_append, List.nil_append, and_true, true_and] at hb
  unfold v43 at hK
  rw [← cmp_ltS] at hK
  conv => whnf
  repeat' first
    | (refine Cnd.mk (fun h => ?_) (fun h => ?_) <;> (try simp [etas, elDef, -List.getD_eq_getElem?_getD] at h) <;> conv => whnf)
    | (refine Obl.mk (by first | omega | rfl | exact inK_byte _ | (simp only [inK, Int.toNat_natCast, etas, elDef] <;> first | omega | grind) | grind [inK]) ?_ <;> conv => whnf)
    | (refine OblG.mk (by conv => whnf
                          repeat (first | (refine Bx.mk ?_) | (intro h; (try simp [etas, elDef, -List.getD_eq_getElem?_getD] at h); conv => whnf))
                          first | omega | rfl | exact inK_byte _ | (simp only [inK, Int.toNat_natCast, etas, elDef] <;> first | omega | grind) | grind [inK]) ?_ <;> conv => whnf)
    | (refine Gd.mk (fun h => ?_) <;> (try simp [etas, elDef, -List.getD_eq_getElem?_getD] at h) <;> conv => whnf)
    | (refine And.intro ?_ ?_ <;> conv => whnf)
    | exact True.intro
    | (intro; conv => whnf)
  exact hK
theorem s43 : (CtrOK Try.prog 43 (.pure F43) ∧ Callable Try.prog 43) := by
  refine pure_ok (E := E43) (mkE_cons s55 (mkE_nil tab_ok)) mix (O := O43) (F := F43) Try.func43 rfl (by rfl) (by kernel_rfl) (fun args o v h => ?_) (fun args o v h => ?_) (fun args o v h hbd hp K hK => ?_)
  · unfold F43 at h; split at h <;> cases h; first | trivial | (simp [v43, Scalar, Scalar2, Scalar1, stC, ndC, itC, chC, nwC])
  · unfold F43 at h; split at h <;> cases h; exact Nat.le_of_ble_eq_true rfl
  · unfold F43 at h; split at h
    case h_2 => cases h
    cases h
    exact a43 _ _ (by exact hbd) trivial K hK
noncomputable def v42 (it : It) (b : Bs) : AV := .int .i64 (cmpI it.name b)
noncomputable def o42 (it : It) (b : Bs) : Prop := True
noncomputable def F42 : List AV → QR
  | [.st [.str it_0, .int .i64 it_1, .int .i64 it_2_0, .int .i64 it_2_1, .str it_2_2, .ps .str it_2_3, .ps .node it_2_4], .str b] => some (none, v42 ⟨it_0, it_1, ⟨it_2_0, it_2_1, it_2_2, it_2_3, it_2_4⟩⟩ b)
  | _ => none
noncomputable def E42 : Ctx := mkE tab [(43, .pure F43)]
noncomputable def O42 : Nat → List DI := ordL []
theorem a42 (it : It) (b : Bs) (hb : BdAs [.st (itC it), .str b]) (ho : o42 it b) (K : AV → List AV → Prop) (hK : K (v42 it b) []) : abody E42 O42 .ps Try.f42 (Try.f42.body.getD .skip) [.st (itC it), .str b] K := by
  simp only [BdAs, BdA, BdL, BdC, MX, ndC, shC, itC, stC, opC, chC, nwC, flC, rqC, rsC, enc, List.cons_append, List.nil_append, and_true, true_and] at hb
  unfold v42 at hK
  conv => whnf
  repeat' first
    | (refine Cnd.mk (fun h => ?_) (fun h => ?_) <;> (try simp [etas, elDef, -List.getD_eq_getElem?_getD] at h) <;> conv => whnf)
    | (refine Obl.mk (by first | omega | rfl | exact inK_byte _ | (simp only [inK, Int.toNat_natCast, etas, elDef] <;> first | omega | grind) | grind [inK]) ?_ <;> conv => whnf)
    | (refine OblG.mk (by conv => whnf
                          repeat (first | (refine Bx.mk ?_) | (intro h; (try simp [etas, elDef, -List.getD_eq_getElem?_getD] at h); conv => whnf))
                          first | omega | rfl | exact inK_byte _ | (simp only [inK, Int.toNat_natCast, etas, elDef] <;> first | omega | grind) | grind [inK]) ?_ <;> conv => whnf)
    | (refine Gd.mk (fun h => ?_) <;> (try simp [etas, elDef, -List.getD_eq_getElem?_getD] at h) <;> conv => whnf)
    | (refine And.intro ?_ ?_ <;> conv => whnf)
    | exact True.intro
    | (intro; conv => whnf)
  exact hK
theorem s42 : (CtrOK Try.prog 42 (.pure F42) ∧ Callable Try.prog 42) := by
  refine pure_ok (E := E42) (mkE_cons s43 (mkE_nil tab_ok)) mix (O := O42) (F := F42) Try.func42 rfl (by rfl) (by kernel_rfl) (fun args o v h => ?_) (fun args o v h => ?_) (fun args o v h hbd hp K hK => ?_)
  · unfold F42 at h; split at h <;> cases h; first | trivial | (simp [v42, Scalar, Scalar2, Scalar1, stC, ndC, itC, chC, nwC])
  · unfold F42 at h; split at h <;> cases h; exact Nat.le_of_ble_eq_true rfl
  · unfold F42 at h; split at h
    case h_2 => cases h
    cases h
    exact a42 ⟨_, _, ⟨_, _, _, _, _⟩⟩ _ (by exact hbd) trivial K hK
end Go.Rs

