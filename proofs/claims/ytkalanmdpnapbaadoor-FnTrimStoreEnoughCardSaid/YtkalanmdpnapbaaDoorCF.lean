import Derived.Test.YtkalanmdpnapbaaDoorCC
import Derived.Test.YtkalanmdpnapbaaDoorMA
import Derived.Test.YtkalanmdpnapbaaDoorFG
set_option linter.all false
namespace Go.Rs
open Go.Proofs
set_option maxRecDepth 100000
set_option linter.unusedVariables false
set_option linter.unusedSimpArgs false
noncomputable def v94 (a : Bs) (b : Bs) : AV := .int .i64 (Go.Lib.compareBytes a b)
noncomputable def F94 : List AV → QR
  | [.str a, .str b] => some (none, v94 a b)
  | _ => none
theorem kcmp (a b : ByteArray) (w : World) :
    Calls Tryd.prog 94 #[.string a, .string b] w fun e w' => e = .returned (.int .i64 (Go.Lib.compareBytes a.data.toList b.data.toList)) ∧ w' = w := by
  go_enter Tryd.func94, Tryd.ntmps94
  go_wp2
  rw [run_callFunc_extern Tryd.func111 (by kernel_rfl) (by kernel_rfl) (by kernel_rfl) (e := Extern.BytealgCompare.compare) (by kernel_rfl), Go.Lib.run_compareString]
  simp only [Result.andThen]
  rw [Oper.upon_value]
  go_wp2
  go_ret
  exact ⟨rfl, rfl⟩
theorem s94 : CtrOK Tryd.prog 94 (.pure F94) ∧ Callable Tryd.prog 94 := by
  refine ⟨⟨fun args o v h => ?_, ?_⟩, callable Tryd.func94 rfl (by rfl)⟩
  · unfold F94 at h; split at h <;> cases h; trivial
  · exact snd_cmp kcmp
noncomputable def v73 (a : Bs) (b : Bs) : AV := .int .i64 (cmpI a b)
noncomputable def o73 (a : Bs) (b : Bs) : Prop := True
noncomputable def F73 : List AV → QR
  | [.str a, .str b] => some (none, v73 a b)
  | _ => none
noncomputable def E73 : Ctx := mkE tab [(94, .pure F94)]
noncomputable def O73 : Nat → List DI := ordL []
theorem a73 (a : Bs) (b : Bs) (hb : BdAs [.str a, .str b]) (ho : o73 a b) (K : AV → List AV → Prop) (hK : K (v73 a b) []) : abody E73 O73 .ps Tryd.f73 (Tryd.f73.body.getD .skip) [.str a, .str b] K := by
  simp only [BdAs, BdA, BdL, BdC, MX, ndC, shC, itC, stC, opC, chC, nwC, flC, rqC, rsC, enc, List.cons_append, List.nil_append, and_true, true_and] at hb
  unfold v73 at hK
  rw [← cmp_ltS] at hK
  conv => whnf
  repeat' first
    | (refine Cnd.mk (fun h => ?_) (fun h => ?_) <;> (try simp [etas, elDef, -List.getD_eq_getElem?_getD] at h) <;> conv => whnf)
    | (refine Obl.mk (by first | omega | rfl | exact inK_byte _ | (simp only [inK, Int.toNat_natCast, etas, elDef] <;> first | omega | grind) | grind [inK]) ?_ <;> conv => whnf)
    | (refine OblG.mk (by conv => whnf
                          repeat (first | (refine Bx.mk ?_) | (intro h; (try simp [etas, elDef, -List.getD_eq_getElem?_getD] at h); conv => whnf))
                          first | omega | rfl | exact inK_byte _ | (simp only [inK, Int.toNat_natCast, etas, elDef] <;> first | omega | grind) | grind [inK]) ?_ <;> conv => whnf)
    | (refine Gd.mk (fun h => ?_) <;> (try simp [etas, elDef, -List.getD_eq_getElem?_getD] at h) <;> conv => whnf)
    | (refine And.intro ?_ ?_ <;> conv => whnf)
    | exact True.intro
    | (intro; conv => whnf)
  exact hK
theorem s73 : (CtrOK Tryd.prog 73 (.pure F73) ∧ Callable Tryd.prog 73) := by
  refine pure_ok (E := E73) (mkE_cons s94 (mkE_nil tab_ok)) mix (O := O73) (F := F73) Tryd.func73 rfl (by rfl) (by kernel_rfl) (fun args o v h => ?_) (fun args o v h => ?_) (fun args o v h hbd hp K hK => ?_)
  · unfold F73 at h; split at h <;> cases h; first | trivial | (simp [v73, Scalar, Scalar2, Scalar1, stC, ndC, itC, chC, nwC])
  · unfold F73 at h; split at h <;> cases h; exact Nat.le_of_ble_eq_true rfl
  · unfold F73 at h; split at h
    case h_2 => cases h
    cases h
    exact a73 _ _ (by exact hbd) trivial K hK
noncomputable def v72 (it : It) (b : Bs) : AV := .int .i64 (cmpI it.name b)
noncomputable def o72 (it : It) (b : Bs) : Prop := True
noncomputable def F72 : List AV → QR
  | [.st [.str it_0, .int .i64 it_1, .int .i64 it_2_0, .int .i64 it_2_1, .str it_2_2, .ps .str it_2_3, .ps .node it_2_4], .str b] => some (none, v72 ⟨it_0, it_1, ⟨it_2_0, it_2_1, it_2_2, it_2_3, it_2_4⟩⟩ b)
  | _ => none
noncomputable def E72 : Ctx := mkE tab [(73, .pure F73)]
noncomputable def O72 : Nat → List DI := ordL []
theorem a72 (it : It) (b : Bs) (hb : BdAs [.st (itC it), .str b]) (ho : o72 it b) (K : AV → List AV → Prop) (hK : K (v72 it b) []) : abody E72 O72 .ps Tryd.f72 (Tryd.f72.body.getD .skip) [.st (itC it), .str b] K := by
  simp only [BdAs, BdA, BdL, BdC, MX, ndC, shC, itC, stC, opC, chC, nwC, flC, rqC, rsC, enc, List.cons_append, List.nil_append, and_true, true_and] at hb
  unfold v72 at hK
  conv => whnf
  repeat' first
    | (refine Cnd.mk (fun h => ?_) (fun h => ?_) <;> (try simp [etas, elDef, -List.getD_eq_getElem?_getD] at h) <;> conv => whnf)
    | (refine Obl.mk (by first | omega | rfl | exact inK_byte _ | (simp only [inK, Int.toNat_natCast, etas, elDef] <;> first | omega | grind) | grind [inK]) ?_ <;> conv => whnf)
    | (refine OblG.mk (by conv => whnf
                          repeat (first | (refine Bx.mk ?_) | (intro h; (try simp [etas, elDef, -List.getD_eq_getElem?_getD] at h); conv => whnf))
                          first | omega | rfl | exact inK_byte _ | (simp only [inK, Int.toNat_natCast, etas, elDef] <;> first | omega | grind) | grind [inK]) ?_ <;> conv => whnf)
    | (refine Gd.mk (fun h => ?_) <;> (try simp [etas, elDef, -List.getD_eq_getElem?_getD] at h) <;> conv => whnf)
    | (refine And.intro ?_ ?_ <;> conv => whnf)
    | exact True.intro
    | (intro; conv => whnf)
  exact hK
theorem s72 : (CtrOK Tryd.prog 72 (.pure F72) ∧ Callable Tryd.prog 72) := by
  refine pure_ok (E := E72) (mkE_cons s73 (mkE_nil tab_ok)) mix (O := O72) (F := F72) Tryd.func72 rfl (by rfl) (by kernel_rfl) (fun args o v h => ?_) (fun args o v h => ?_) (fun args o v h hbd hp K hK => ?_)
  · unfold F72 at h; split at h <;> cases h; first | trivial | (simp [v72, Scalar, Scalar2, Scalar1, stC, ndC, itC, chC, nwC])
  · unfold F72 at h; split at h <;> cases h; exact Nat.le_of_ble_eq_true rfl
  · unfold F72 at h; split at h
    case h_2 => cases h
    cases h
    exact a72 ⟨_, _, ⟨_, _, _, _, _⟩⟩ _ (by exact hbd) trivial K hK
end Go.Rs

