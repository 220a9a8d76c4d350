import Derived.Test.YtgonjmlpomfihaaCC
import Derived.Test.YtgonjmlpomfihaaMA
import Derived.Test.YtgonjmlpomfihaaFG
set_option linter.all false
set_option linter.unusedSimpArgs false
set_option linter.unusedVariables false
namespace Go.Rs
open Go.Proofs
set_option maxRecDepth 100000
noncomputable def v93 (a : Bs) (b : Bs) : AV := .int .i64 (Go.Lib.compareBytes a b)
noncomputable def F93 : List AV → QR
  | [.str a, .str b] => some (none, v93 a b)
  | _ => none
theorem kcmp (a b : ByteArray) (w : World) :
    Calls Try.prog 93 #[.string a, .string b] w fun e w' => e = .returned (.int .i64 (Go.Lib.compareBytes a.data.toList b.data.toList)) ∧ w' = w := by
  go_enter Try.func93, Try.ntmps93
  go_wp2
  rw [run_callFunc_extern Try.func98 (by kernel_rfl) (by kernel_rfl) (by kernel_rfl) (e := Extern.BytealgCompare.compare) (by kernel_rfl), Go.Lib.run_compareString]
  simp only [Result.andThen]
  rw [Oper.upon_value]
  go_wp2
  go_ret
  exact ⟨rfl, rfl⟩
theorem s93 : CtrOK Try.prog 93 (.pure F93) ∧ Callable Try.prog 93 := by
  refine ⟨⟨fun args o v h => ?_, ?_⟩, callable Try.func93 rfl (by rfl)⟩
  · unfold F93 at h; split at h <;> cases h; trivial
  · exact snd_cmp kcmp
noncomputable def v85 (a : Bs) (b : Bs) : AV := .int .i64 (cmpI a b)
noncomputable def o85 (a : Bs) (b : Bs) : Prop := True
noncomputable def F85 : List AV → QR
  | [.str a, .str b] => some (none, v85 a b)
  | _ => none
noncomputable def E85 : Ctx := mkE tab [(93, .pure F93)]
noncomputable def O85 : Nat → List DI := ordL []
theorem a85 (a : Bs) (b : Bs) (hb : BdAs [.str a, .str b]) (ho : o85 a b) (K : AV → List AV → Prop) (hK : K (v85 a b) []) : abody E85 O85 .ps Try.f85 (Try.f85.body.getD .skip) [.str a, .str b] K := by
  simp only [BdAs, BdA, BdL, BdC, MX, ndC, shC, itC, stC, opC, chC, nwC, flC, rqC, rsC, enc, List.cons_append, List.nil_append, and_true, true_and] at hb
  unfold v85 at hK
  rw [← cmp_ltS] at hK
  conv => whnf
  repeat' first
    | (refine Cnd.mk (fun h => ?_) (fun h => ?_) <;> (try simp [etas, elDef, -List.getD_eq_getElem?_getD] at h) <;> conv => whnf)
    | (refine Obl.mk (by first | omega | rfl | exact inK_byte _ | (simp only [inK, Int.toNat_natCast, etas, elDef] <;> first | omega | grind) | grind [inK]) ?_ <;> conv => whnf)
    | (refine OblG.mk (by conv => whnf
                          repeat (first | (refine Bx.mk ?_) | (intro h; (try simp [etas, elDef, -List.getD_eq_getElem?_getD] at h); conv => whnf))
                          first | omega | rfl | exact inK_byte _ | (simp only [inK, Int.toNat_natCast, etas, elDef] <;> first | omega | grind) | grind [inK]) ?_ <;> conv => whnf)
    | (refine Gd.mk (fun h => ?_) <;> (try simp [etas, elDef, -List.getD_eq_getElem?_getD] at h) <;> conv => whnf)
    | (refine And.intro ?_ ?_ <;> conv => whnf)
    | exact True.intro
    | (intro; conv => whnf)
  exact hK
theorem s85 : (CtrOK Try.prog 85 (.pure F85) ∧ Callable Try.prog 85) := by
  refine pure_ok (E := E85) (mkE_cons s93 (mkE_nil tab_ok)) mix (O := O85) (F := F85) Try.func85 rfl (by rfl) (by kernel_rfl) (fun args o v h => ?_) (fun args o v h => ?_) (fun args o v h hbd hp K hK => ?_)
  · unfold F85 at h; split at h <;> cases h; first | trivial | (simp [v85, Scalar, Scalar2, Scalar1, stC, ndC, itC, chC, nwC])
  · unfold F85 at h; split at h <;> cases h; exact Nat.le_of_ble_eq_true rfl
  · unfold F85 at h; split at h
    case h_2 => cases h
    cases h
    exact a85 _ _ (by exact hbd) trivial K hK
noncomputable def v84 (it : It) (b : Bs) : AV := .int .i64 (cmpI it.name b)
noncomputable def o84 (it : It) (b : Bs) : Prop := True
noncomputable def F84 : List AV → QR
  | [.st [.str it_0, .int .i64 it_1, .int .i64 it_2_0, .int .i64 it_2_1, .str it_2_2, .ps .str it_2_3, .ps .node it_2_4], .str b] => some (none, v84 ⟨it_0, it_1, ⟨it_2_0, it_2_1, it_2_2, it_2_3, it_2_4⟩⟩ b)
  | _ => none
noncomputable def E84 : Ctx := mkE tab [(85, .pure F85)]
noncomputable def O84 : Nat → List DI := ordL []
theorem a84 (it : It) (b : Bs) (hb : BdAs [.st (itC it), .str b]) (ho : o84 it b) (K : AV → List AV → Prop) (hK : K (v84 it b) []) : abody E84 O84 .ps Try.f84 (Try.f84.body.getD .skip) [.st (itC it), .str b] K := by
  simp only [BdAs, BdA, BdL, BdC, MX, ndC, shC, itC, stC, opC, chC, nwC, flC, rqC, rsC, enc, List.cons_append, List.nil_append, and_true, true_and] at hb
  unfold v84 at hK
  conv => whnf
  repeat' first
    | (refine Cnd.mk (fun h => ?_) (fun h => ?_) <;> (try simp [etas, elDef, -List.getD_eq_getElem?_getD] at h) <;> conv => whnf)
    | (refine Obl.mk (by first | omega | rfl | exact inK_byte _ | (simp only [inK, Int.toNat_natCast, etas, elDef] <;> first | omega | grind) | grind [inK]) ?_ <;> conv => whnf)
    | (refine OblG.mk (by conv => whnf
                          repeat (first | (refine Bx.mk ?_) | (intro h; (try simp [etas, elDef, -List.getD_eq_getElem?_getD] at h); conv => whnf))
                          first | omega | rfl | exact inK_byte _ | (simp only [inK, Int.toNat_natCast, etas, elDef] <;> first | omega | grind) | grind [inK]) ?_ <;> conv => whnf)
    | (refine Gd.mk (fun h => ?_) <;> (try simp [etas, elDef, -List.getD_eq_getElem?_getD] at h) <;> conv => whnf)
    | (refine And.intro ?_ ?_ <;> conv => whnf)
    | exact True.intro
    | (intro; conv => whnf)
  exact hK
theorem s84 : (CtrOK Try.prog 84 (.pure F84) ∧ Callable Try.prog 84) := by
  refine pure_ok (E := E84) (mkE_cons s85 (mkE_nil tab_ok)) mix (O := O84) (F := F84) Try.func84 rfl (by rfl) (by kernel_rfl) (fun args o v h => ?_) (fun args o v h => ?_) (fun args o v h hbd hp K hK => ?_)
  · unfold F84 at h; split at h <;> cases h; first | trivial | (simp [v84, Scalar, Scalar2, Scalar1, stC, ndC, itC, chC, nwC])
  · unfold F84 at h; split at h <;> cases h; exact Nat.le_of_ble_eq_true rfl
  · unfold F84 at h; split at h
    case h_2 => cases h
    cases h
    exact a84 ⟨_, _, ⟨_, _, _, _, _⟩⟩ _ (by exact hbd) trivial K hK
end Go.Rs

