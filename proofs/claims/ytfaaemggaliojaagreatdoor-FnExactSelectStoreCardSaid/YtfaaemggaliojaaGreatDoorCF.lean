import Derived.Test.YtfaaemggaliojaaGreatDoorCC
import Derived.Test.YtfaaemggaliojaaGreatDoorMA
import Derived.Test.YtfaaemggaliojaaGreatDoorFG
set_option linter.all false
set_option linter.unusedSimpArgs false
set_option linter.unusedVariables false
namespace Go.Rs
open Go.Proofs
set_option maxRecDepth 100000
noncomputable def v86 (a : Bs) (b : Bs) : AV := .int .i64 (Go.Lib.compareBytes a b)
noncomputable def F86 : List AV → QR
  | [.str a, .str b] => some (none, v86 a b)
  | _ => none
theorem kcmp (a b : ByteArray) (w : World) :
    Calls Tryz.prog 86 #[.string a, .string b] w fun e w' => e = .returned (.int .i64 (Go.Lib.compareBytes a.data.toList b.data.toList)) ∧ w' = w := by
  go_enter Tryz.func86, Tryz.ntmps86
  go_wp2
  rw [run_callFunc_extern Tryz.func90 (by kernel_rfl) (by kernel_rfl) (by kernel_rfl) (e := Extern.BytealgCompare.compare) (by kernel_rfl), Go.Lib.run_compareString]
  simp only [Result.andThen]
  rw [Oper.upon_value]
  go_wp2
  go_ret
  exact ⟨rfl, rfl⟩
theorem s86 : CtrOK Tryz.prog 86 (.pure F86) ∧ Callable Tryz.prog 86 := by
  refine ⟨⟨fun args o v h => ?_, ?_⟩, callable Tryz.func86 rfl (by rfl)⟩
  · unfold F86 at h; split at h <;> cases h; trivial
  · exact snd_cmp kcmp
noncomputable def v79 (a : Bs) (b : Bs) : AV := .int .i64 (cmpI a b)
noncomputable def o79 (a : Bs) (b : Bs) : Prop := True
noncomputable def F79 : List AV → QR
  | [.str a, .str b] => some (none, v79 a b)
  | _ => none
noncomputable def E79 : Ctx := mkE tab [(86, .pure F86)]
noncomputable def O79 : Nat → List DI := ordL []
theorem a79 (a : Bs) (b : Bs) (hb : BdAs [.str a, .str b]) (ho : o79 a b) (K : AV → List AV → Prop) (hK : K (v79 a b) []) : abody E79 O79 .ps Tryz.f79 (Tryz.f79.body.getD .skip) [.str a, .str b] K := by
  simp only [BdAs, BdA, BdL, BdC, MX, ndC, shC, itC, stC, opC, chC, nwC, flC, rqC, rsC, enc, List.cons_append, List.nil_append, and_true, true_and] at hb
  unfold v79 at hK
  rw [← cmp_ltS] at hK
  conv => whnf
  repeat' first|(refine Cnd.mk (fun h=>?_) (fun h=>?_)<;>(try simp [etas,elDef,-List.getD_eq_getElem?_getD] at h)<;>conv=>whnf)|(refine Obl.mk (by first|omega|rfl|exact inK_byte _|(simp only [inK,Int.toNat_natCast,etas,elDef]<;>first|omega|grind)|grind [inK]) ?_<;>conv=>whnf)|(refine OblG.mk (by ((conv=>whnf);(repeat (first|(refine Bx.mk ?_)|(intro h;(try simp [etas,elDef,-List.getD_eq_getElem?_getD] at h);conv=>whnf)));(first|omega|rfl|exact inK_byte _|(simp only [inK,Int.toNat_natCast,etas,elDef]<;>first|omega|grind)|grind [inK]))) ?_<;>conv=>whnf)|(refine Gd.mk (fun h=>?_)<;>(try simp [etas,elDef,-List.getD_eq_getElem?_getD] at h)<;>conv=>whnf)|(refine And.intro ?_ ?_<;>conv=>whnf)|exact True.intro|(intro;conv=>whnf)
  exact hK
theorem s79 : (CtrOK Tryz.prog 79 (.pure F79) ∧ Callable Tryz.prog 79) := by
  refine pure_ok (E := E79) (mkE_cons s86 (mkE_nil tab_ok)) mix (O := O79) (F := F79) Tryz.func79 rfl (by rfl) (by kernel_rfl) (fun args o v h => ?_) (fun args o v h => ?_) (fun args o v h hbd hp K hK => ?_)
  · unfold F79 at h; split at h <;> cases h; first | trivial | (simp [v79, Scalar, Scalar2, Scalar1, stC, ndC, itC, chC, nwC])
  · unfold F79 at h; split at h <;> cases h; exact Nat.le_of_ble_eq_true rfl
  · unfold F79 at h; split at h
    case h_2 => cases h
    cases h
    exact a79 _ _ (by exact hbd) trivial K hK
end Go.Rs

