import Derived.Test.YtgmilpefnaadmaaDoorCC
import Derived.Test.YtgmilpefnaadmaaDoorMA
import Derived.Test.YtgmilpefnaadmaaDoorFG
set_option linter.all false
namespace Go.Rs
open Go.Proofs
set_option maxRecDepth 100000
set_option linter.unusedVariables false
set_option linter.unusedSimpArgs false
noncomputable def v112 (a : Bs) (b : Bs) : AV := .int .i64 (Go.Lib.compareBytes a b)
noncomputable def o112 (a : Bs) (b : Bs) : Prop := True
noncomputable def F112 : List AV → QR
  | [.str a, .str b] => some (none, v112 a b)
  | _ => none
theorem kcmp (a b : ByteArray) (w : World) :
    Calls Tryd.prog 112 #[.string a, .string b] w fun e w' => e = .returned (.int .i64 (Go.Lib.compareBytes a.data.toList b.data.toList)) ∧ w' = w := by
  go_enter Tryd.func112, Tryd.ntmps112
  go_wp2
  rw [run_callFunc_extern Tryd.func120 (by kernel_rfl) (by kernel_rfl) (by kernel_rfl) (e := Extern.BytealgCompare.compare) (by kernel_rfl), Go.Lib.run_compareString]
  simp only [Result.andThen]
  rw [Oper.upon_value]
  go_wp2
  go_ret
  exact ⟨rfl, rfl⟩
theorem s112 : CtrOK Tryd.prog 112 (.pure F112) ∧ Callable Tryd.prog 112 := by
  refine ⟨⟨fun args o v h => ?_, ?_⟩, callable Tryd.func112 rfl (by rfl)⟩
  · unfold F112 at h; split at h <;> cases h; trivial
  · exact snd_cmp kcmp
noncomputable def v102 (a : Bs) (b : Bs) : AV := .int .i64 (cmpI a b)
noncomputable def o102 (a : Bs) (b : Bs) : Prop := True
noncomputable def F102 : List AV → QR
  | [.str a, .str b] => some (none, v102 a b)
  | _ => none
noncomputable def E102 : Ctx := mkE tab [(112, .pure F112)]
noncomputable def O102 : Nat → List DI := ordL []
theorem a102 (a : Bs) (b : Bs) (hb : BdAs [.str a, .str b]) (ho : o102 a b) (K : AV → List AV → Prop) (hK : K (v102 a b) []) : abody E102 O102 .ps Tryd.f102 (Tryd.f102.body.getD .skip) [.str a, .str b] K := by
  simp only [BdAs, BdA, BdL, BdC, MX, ndC, shC, itC, stC, opC, chC, nwC, flC, rqC, rsC, enc, List.cons_append, List.nil_append, and_true, true_and] at hb
  unfold v102 at hK
  rw [← cmp_ltS] at hK
  conv => whnf
  repeat' first
    | (refine Cnd.mk (fun h => ?_) (fun h => ?_) <;> (try simp [etas, elDef, -List.getD_eq_getElem?_getD] at h) <;> conv => whnf)
    | (refine Obl.mk (by first | omega | rfl | exact inK_byte _ | (simp only [inK, Int.toNat_natCast, etas, elDef] <;> first | omega | grind) | grind [inK]) ?_ <;> conv => whnf)
    | (refine OblG.mk (by conv => whnf
                          repeat (first | (refine Bx.mk ?_) | (intro h; (try simp [etas, elDef, -List.getD_eq_getElem?_getD] at h); conv => whnf))
                          first | omega | rfl | exact inK_byte _ | (simp only [inK, Int.toNat_natCast, etas, elDef] <;> first | omega | grind) | grind [inK]) ?_ <;> conv => whnf)
    | (refine Gd.mk (fun h => ?_) <;> (try simp [etas, elDef, -List.getD_eq_getElem?_getD] at h) <;> conv => whnf)
    | (refine And.intro ?_ ?_ <;> conv => whnf)
    | exact True.intro
    | (intro; conv => whnf)
  exact hK
theorem s102 : (CtrOK Tryd.prog 102 (.pure F102) ∧ Callable Tryd.prog 102) := by
  refine pure_ok (E := E102) (mkE_cons s112 (mkE_nil tab_ok)) mix (O := O102) (F := F102) Tryd.func102 rfl (by rfl) (by kernel_rfl) (fun args o v h => ?_) (fun args o v h => ?_) (fun args o v h hbd hp K hK => ?_)
  · unfold F102 at h; split at h <;> cases h; first | trivial | (simp [v102, Scalar, Scalar2, Scalar1, stC, ndC, itC, chC, nwC])
  · unfold F102 at h; split at h <;> cases h; exact Nat.le_of_ble_eq_true rfl
  · unfold F102 at h; split at h
    case h_2 => cases h
    cases h
    exact a102 _ _ (by exact hbd) trivial K hK
end Go.Rs

