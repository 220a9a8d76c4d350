import Derived.Test.YtoailaifflbomaaCC
import Derived.Test.YtoailaifflbomaaMA
set_option linter.all false
set_option linter.unusedSimpArgs false
set_option linter.unusedVariables false
namespace Go.Rs
open Go.Proofs
set_option maxRecDepth 100000
noncomputable def v126 (a : Bs) (b : Bs) : AV := .int .i64 (Go.Lib.compareBytes a b)
noncomputable def F126 : List AV → QR
  | [.str a, .str b] => some (none, v126 a b)
  | _ => none
theorem kcmp (a b : ByteArray) (w : World) :
    Calls Try.prog 126 #[.string a, .string b] w fun e w' => e = .returned (.int .i64 (Go.Lib.compareBytes a.data.toList b.data.toList)) ∧ w' = w := by
  go_enter Try.func126, Try.ntmps126
  go_wp2
  rw [run_callFunc_extern Try.func151 (by kernel_rfl) (by kernel_rfl) (by kernel_rfl) (e := Extern.BytealgCompare.compare) (by kernel_rfl), Go.Lib.run_compareString]
  simp only [Result.andThen]
  rw [Oper.upon_value]
  go_wp2
  go_ret
  exact ⟨rfl, rfl⟩
theorem s126 : CtrOK Try.prog 126 (.pure F126) ∧ Callable Try.prog 126 := by
  refine ⟨⟨fun args o v h => ?_, ?_⟩, callable Try.func126 rfl (by rfl)⟩
  · unfold F126 at h; split at h <;> cases h; trivial
  · exact snd_cmp kcmp
noncomputable def v107 (a : Bs) (b : Bs) : AV := .int .i64 (cmpI a b)
noncomputable def o107 (a : Bs) (b : Bs) : Prop := True
noncomputable def F107 : List AV → QR
  | [.str a, .str b] => some (none, v107 a b)
  | _ => none
noncomputable def E107 : Ctx := mkE tab [(126, .pure F126)]
noncomputable def O107 : Nat → List DI := ordL []
theorem a107 (a : Bs) (b : Bs) (hb : BdAs [.str a, .str b]) (ho : o107 a b) (K : AV → List AV → Prop) (hK : K (v107 a b) []) : abody E107 O107 .ps Try.f107 (Try.f107.body.getD .skip) [.str a, .str b] K := by
  simp only [BdAs, BdA, BdL, BdC, MX, ndC, shC, itC, stC, opC, chC, nwC, flC, rqC, rsC, enc, List.cons_append, List.nil_append, and_true, true_and] at hb
  unfold v107 at hK
  rw [← cmp_ltS] at hK
  conv => whnf
  repeat' first|((first|refine Cnd.mk (fun h=>?_) (fun h=>?_)|refine Gd.mk (fun h=>?_))<;>(try simp [etas,elDef,-List.getD_eq_getElem?_getD] at h)<;>conv=>whnf)|((first|refine Obl.mk (by first|omega|rfl|exact inK_byte _|(simp only [inK,Int.toNat_natCast,etas,elDef]<;>first|omega|grind)|grind [inK]) ?_|refine OblG.mk (by ((conv=>whnf);(repeat (first|refine Bx.mk ?_|(intro h;(try simp [etas,elDef,-List.getD_eq_getElem?_getD] at h);conv=>whnf)));(first|omega|rfl|exact inK_byte _|(simp only [inK,Int.toNat_natCast,etas,elDef]<;>first|omega|grind)|grind [inK]))) ?_|refine And.intro ?_ ?_)<;>conv=>whnf)|exact True.intro|(intro;conv=>whnf)
  exact hK
theorem s107 : (CtrOK Try.prog 107 (.pure F107) ∧ Callable Try.prog 107) := by
  refine pure_ok (E := E107) (mkE_cons s126 (mkE_nil tab_ok)) mix (O := O107) (F := F107) Try.func107 rfl (by rfl) (by kernel_rfl) (fun args o v h => ?_) (fun args o v h => ?_) (fun args o v h hbd hp K hK => ?_)
  · unfold F107 at h; split at h <;> cases h; first | trivial | (simp [v107, Scalar, Scalar2, Scalar1, stC, ndC, itC, chC, nwC])
  · unfold F107 at h; split at h <;> cases h; exact Nat.le_of_ble_eq_true rfl
  · unfold F107 at h; split at h
    case h_2 => cases h
    cases h
    exact a107 _ _ (by exact hbd) trivial K hK
end Go.Rs

