import Derived.Test.YtmkgadogaefkaaaCC
import Derived.Test.YtmkgadogaefkaaaMA
import Derived.Test.YtmkgadogaefkaaaFG
set_option linter.all false
set_option linter.unusedSimpArgs false
set_option linter.unusedVariables false
namespace Go.Rs
open Go.Proofs
set_option maxRecDepth 100000
noncomputable def v86 (a : Bs) (b : Bs) : AV := .int .i64 (Go.Lib.compareBytes a b)
noncomputable def F86 : List AV → QR
  | [.str a, .str b] => some (none, v86 a b)
  | _ => none
theorem kcmp (a b : ByteArray) (w : World) :
    Calls Try.prog 86 #[.string a, .string b] w fun e w' => e = .returned (.int .i64 (Go.Lib.compareBytes a.data.toList b.data.toList)) ∧ w' = w := by
  go_enter Try.func86, Try.ntmps86
  go_wp2
  rw [run_callFunc_extern Try.func96 (by kernel_rfl) (by kernel_rfl) (by kernel_rfl) (e := Extern.BytealgCompare.compare) (by kernel_rfl), Go.Lib.run_compareString]
  simp only [Result.andThen]
  rw [Oper.upon_value]
  go_wp2
  go_ret
  exact ⟨rfl, rfl⟩
theorem s86 : CtrOK Try.prog 86 (.pure F86) ∧ Callable Try.prog 86 := by
  refine ⟨⟨fun args o v h => ?_, ?_⟩, callable Try.func86 rfl (by rfl)⟩
  · unfold F86 at h; split at h <;> cases h; trivial
  · exact snd_cmp kcmp
noncomputable def v71 (a : Bs) (b : Bs) : AV := .int .i64 (cmpI a b)
noncomputable def o71 (a : Bs) (b : Bs) : Prop := True
noncomputable def F71 : List AV → QR
  | [.str a, .str b] => some (none, v71 a b)
  | _ => none
noncomputable def E71 : Ctx := mkE tab [(86, .pure F86)]
noncomputable def O71 : Nat → List DI := ordL []
theorem a71 (a : Bs) (b : Bs) (hb : BdAs [.str a, .str b]) (ho : o71 a b) (K : AV → List AV → Prop) (hK : K (v71 a b) []) : abody E71 O71 .ps Try.f71 (Try.f71.body.getD .skip) [.str a, .str b] K := by
  simp only [BdAs, BdA, BdL, BdC, MX, ndC, shC, itC, stC, opC, chC, nwC, flC, rqC, rsC, enc, List.cons_append, List.nil_append, and_true, true_and] at hb
  unfold v71 at hK
  rw [← cmp_ltS] at hK
  conv => whnf
  repeat' first|(refine Cnd.mk (fun h=>?_) (fun h=>?_)<;>(try simp [etas,elDef,-List.getD_eq_getElem?_getD] at h)<;>conv=>whnf)|(refine Obl.mk (by first|omega|rfl|exact inK_byte _|(simp only [inK,Int.toNat_natCast,etas,elDef]<;>first|omega|grind)|grind [inK]) ?_<;>conv=>whnf)|(refine OblG.mk (by ((conv=>whnf);(repeat (first|(refine Bx.mk ?_)|(intro h;(try simp [etas,elDef,-List.getD_eq_getElem?_getD] at h);conv=>whnf)));(first|omega|rfl|exact inK_byte _|(simp only [inK,Int.toNat_natCast,etas,elDef]<;>first|omega|grind)|grind [inK]))) ?_<;>conv=>whnf)|(refine Gd.mk (fun h=>?_)<;>(try simp [etas,elDef,-List.getD_eq_getElem?_getD] at h)<;>conv=>whnf)|(refine And.intro ?_ ?_<;>conv=>whnf)|exact True.intro|(intro;conv=>whnf)
  exact hK
theorem s71 : (CtrOK Try.prog 71 (.pure F71) ∧ Callable Try.prog 71) := by
  refine pure_ok (E := E71) (mkE_cons s86 (mkE_nil tab_ok)) mix (O := O71) (F := F71) Try.func71 rfl (by rfl) (by kernel_rfl) (fun args o v h => ?_) (fun args o v h => ?_) (fun args o v h hbd hp K hK => ?_)
  · unfold F71 at h; split at h <;> cases h; first | trivial | (simp [v71, Scalar, Scalar2, Scalar1, stC, ndC, itC, chC, nwC])
  · unfold F71 at h; split at h <;> cases h; exact Nat.le_of_ble_eq_true rfl
  · unfold F71 at h; split at h
    case h_2 => cases h
    cases h
    exact a71 _ _ (by exact hbd) trivial K hK
noncomputable def v70 (it : It) (b : Bs) : AV := .int .i64 (cmpI it.name b)
noncomputable def o70 (it : It) (b : Bs) : Prop := True
noncomputable def F70 : List AV → QR
  | [.st [.str it_0, .int .i64 it_1, .int .i64 it_2_0, .int .i64 it_2_1, .str it_2_2, .ps .str it_2_3, .ps .node it_2_4], .str b] => some (none, v70 ⟨it_0, it_1, ⟨it_2_0, it_2_1, it_2_2, it_2_3, it_2_4⟩⟩ b)
  | _ => none
noncomputable def E70 : Ctx := mkE tab [(71, .pure F71)]
noncomputable def O70 : Nat → List DI := ordL []
theorem a70 (it : It) (b : Bs) (hb : BdAs [.st (itC it), .str b]) (ho : o70 it b) (K : AV → List AV → Prop) (hK : K (v70 it b) []) : abody E70 O70 .ps Try.f70 (Try.f70.body.getD .skip) [.st (itC it), .str b] K := by
  simp only [BdAs, BdA, BdL, BdC, MX, ndC, shC, itC, stC, opC, chC, nwC, flC, rqC, rsC, enc, List.cons_append, List.nil_append, and_true, true_and] at hb
  unfold v70 at hK
  conv => whnf
  repeat' first|(refine Cnd.mk (fun h=>?_) (fun h=>?_)<;>(try simp [etas,elDef,-List.getD_eq_getElem?_getD] at h)<;>conv=>whnf)|(refine Obl.mk (by first|omega|rfl|exact inK_byte _|(simp only [inK,Int.toNat_natCast,etas,elDef]<;>first|omega|grind)|grind [inK]) ?_<;>conv=>whnf)|(refine OblG.mk (by ((conv=>whnf);(repeat (first|(refine Bx.mk ?_)|(intro h;(try simp [etas,elDef,-List.getD_eq_getElem?_getD] at h);conv=>whnf)));(first|omega|rfl|exact inK_byte _|(simp only [inK,Int.toNat_natCast,etas,elDef]<;>first|omega|grind)|grind [inK]))) ?_<;>conv=>whnf)|(refine Gd.mk (fun h=>?_)<;>(try simp [etas,elDef,-List.getD_eq_getElem?_getD] at h)<;>conv=>whnf)|(refine And.intro ?_ ?_<;>conv=>whnf)|exact True.intro|(intro;conv=>whnf)
  exact hK
theorem s70 : (CtrOK Try.prog 70 (.pure F70) ∧ Callable Try.prog 70) := by
  refine pure_ok (E := E70) (mkE_cons s71 (mkE_nil tab_ok)) mix (O := O70) (F := F70) Try.func70 rfl (by rfl) (by kernel_rfl) (fun args o v h => ?_) (fun args o v h => ?_) (fun args o v h hbd hp K hK => ?_)
  · unfold F70 at h; split at h <;> cases h; first | trivial | (simp [v70, Scalar, Scalar2, Scalar1, stC, ndC, itC, chC, nwC])
  · unfold F70 at h; split at h <;> cases h; exact Nat.le_of_ble_eq_true rfl
  · unfold F70 at h; split at h
    case h_2 => cases h
    cases h
    exact a70 ⟨_, _, ⟨_, _, _, _, _⟩⟩ _ (by exact hbd) trivial K hK
end Go.Rs

