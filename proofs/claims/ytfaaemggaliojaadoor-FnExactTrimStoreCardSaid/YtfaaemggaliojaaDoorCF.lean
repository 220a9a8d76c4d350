import Derived.Test.YtfaaemggaliojaaDoorCC
import Derived.Test.YtfaaemggaliojaaDoorMA
import Derived.Test.YtfaaemggaliojaaDoorFG
set_option linter.all false
set_option linter.unusedSimpArgs false
set_option linter.unusedVariables false
namespace Go.Rs
open Go.Proofs
set_option maxRecDepth 100000
noncomputable def v107 (a : Bs) (b : Bs) : AV := .int .i64 (Go.Lib.compareBytes a b)
noncomputable def F107 : List AV → QR
  | [.str a, .str b] => some (none, v107 a b)
  | _ => none
theorem kcmp (a b : ByteArray) (w : World) :
    Calls Tryd.prog 107 #[.string a, .string b] w fun e w' => e = .returned (.int .i64 (Go.Lib.compareBytes a.data.toList b.data.toList)) ∧ w' = w := by
  go_enter Tryd.func107, Tryd.ntmps107
  go_wp2
  rw [run_callFunc_extern Tryd.func112 (by kernel_rfl) (by kernel_rfl) (by kernel_rfl) (e := Extern.BytealgCompare.compare) (by kernel_rfl), Go.Lib.run_compareString]
  simp only [Result.andThen]
  rw [Oper.upon_value]
  go_wp2
  go_ret
  exact ⟨rfl, rfl⟩
theorem s107 : CtrOK Tryd.prog 107 (.pure F107) ∧ Callable Tryd.prog 107 := by
  refine ⟨⟨fun args o v h => ?_, ?_⟩, callable Tryd.func107 rfl (by rfl)⟩
  · unfold F107 at h; split at h <;> cases h; trivial
  · exact snd_cmp kcmp
noncomputable def v99 (a : Bs) (b : Bs) : AV := .int .i64 (cmpI a b)
noncomputable def o99 (a : Bs) (b : Bs) : Prop := True
noncomputable def F99 : List AV → QR
  | [.str a, .str b] => some (none, v99 a b)
  | _ => none
noncomputable def E99 : Ctx := mkE tab [(107, .pure F107)]
noncomputable def O99 : Nat → List DI := ordL []
theorem a99 (a : Bs) (b : Bs) (hb : BdAs [.str a, .str b]) (ho : o99 a b) (K : AV → List AV → Prop) (hK : K (v99 a b) []) : abody E99 O99 .ps Tryd.f99 (Tryd.f99.body.getD .skip) [.str a, .str b] K := by
  simp only [BdAs, BdA, BdL, BdC, MX, ndC, shC, itC, stC, opC, chC, nwC, flC, rqC, rsC, enc, List.cons_append, List.nil_append, and_true, true_and] at hb
  unfold v99 at hK
  rw [← cmp_ltS] at hK
  conv => whnf
  repeat' first|((first|refine Cnd.mk (fun h=>?_) (fun h=>?_)|refine Gd.mk (fun h=>?_))<;>(try simp [etas,elDef,-List.getD_eq_getElem?_getD] at h)<;>conv=>whnf)|((first|refine Obl.mk (by first|omega|rfl|exact inK_byte _|(simp only [inK,Int.toNat_natCast,etas,elDef]<;>first|omega|grind)|grind [inK]) ?_|refine OblG.mk (by ((conv=>whnf);(repeat (first|refine Bx.mk ?_|(intro h;(try simp [etas,elDef,-List.getD_eq_getElem?_getD] at h);conv=>whnf)));(first|omega|rfl|exact inK_byte _|(simp only [inK,Int.toNat_natCast,etas,elDef]<;>first|omega|grind)|grind [inK]))) ?_|refine And.intro ?_ ?_)<;>conv=>whnf)|exact True.intro|(intro;conv=>whnf)
  exact hK
theorem s99 : (CtrOK Tryd.prog 99 (.pure F99) ∧ Callable Tryd.prog 99) := by
  refine pure_ok (E := E99) (mkE_cons s107 (mkE_nil tab_ok)) mix (O := O99) (F := F99) Tryd.func99 rfl (by rfl) (by kernel_rfl) (fun args o v h => ?_) (fun args o v h => ?_) (fun args o v h hbd hp K hK => ?_)
  · unfold F99 at h; split at h <;> cases h; first | trivial | (simp [v99, Scalar, Scalar2, Scalar1, stC, ndC, itC, chC, nwC])
  · unfold F99 at h; split at h <;> cases h; exact Nat.le_of_ble_eq_true rfl
  · unfold F99 at h; split at h
    case h_2 => cases h
    cases h
    exact a99 _ _ (by exact hbd) trivial K hK
end Go.Rs

