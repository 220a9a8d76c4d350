import Derived.Test.YtmgheiagnleeiaaCC
import Derived.Test.YtmgheiagnleeiaaMA
import Derived.Test.YtmgheiagnleeiaaFG
import Derived.Test.YtmgheiagnleeiaaMB
import Derived.Test.YtmgheiagnleeiaaDelB
import Derived.Test.YtmgheiagnleeiaaMC
set_option linter.all false
set_option linter.unusedSimpArgs false
set_option linter.unusedVariables false
namespace Go.Rs
open Go.Proofs
set_option maxRecDepth 100000
noncomputable def v75 (a : Bs) : AV := .bool false
noncomputable def o75 (a : Bs) : Prop := True
noncomputable def F75 : List AV → QR
  | [.str a] => some (none, v75 a)
  | _ => none
noncomputable def E75 : Ctx := mkE tab []
noncomputable def O75 : Nat → List DI := ordL []
theorem a75 (a : Bs) (hb : BdAs [.str a]) (ho : o75 a) (K : AV → List AV → Prop) (hK : K (v75 a) []) : abody E75 O75 .ps Try.f75 (Try.f75.body.getD .skip) [.str a] K := by
  simp only [BdAs, BdA, BdL, BdC, MX, ndC, shC, itC, stC, opC, chC, nwC, flC, rqC, rsC, enc, List.cons_append, List.nil_append, and_true, true_and] at hb
  unfold v75 at hK
  conv => whnf
  repeat' first|((first|refine Cnd.mk (fun h=>?_) (fun h=>?_)|refine Gd.mk (fun h=>?_))<;>(try simp [etas,elDef,-List.getD_eq_getElem?_getD] at h)<;>conv=>whnf)|((first|refine Obl.mk (by first|omega|rfl|exact inK_byte _|(simp only [inK,Int.toNat_natCast,etas,elDef]<;>first|omega|grind)|grind [inK]) ?_|refine OblG.mk (by ((conv=>whnf);(repeat (first|refine Bx.mk ?_|(intro h;(try simp [etas,elDef,-List.getD_eq_getElem?_getD] at h);conv=>whnf)));(first|omega|rfl|exact inK_byte _|(simp only [inK,Int.toNat_natCast,etas,elDef]<;>first|omega|grind)|grind [inK]))) ?_|refine And.intro ?_ ?_)<;>conv=>whnf)|exact True.intro|(intro;conv=>whnf)
  all_goals exact leafB hK (by simp)
theorem s75 : (CtrOK Try.prog 75 (.pure F75) ∧ Callable Try.prog 75) := by
  refine pure_ok (E := E75) (mkE_nil tab_ok) mix (O := O75) (F := F75) Try.func75 rfl (by rfl) (by kernel_rfl) (fun args o v h => ?_) (fun args o v h => ?_) (fun args o v h hbd hp K hK => ?_)
  · unfold F75 at h; split at h <;> cases h; first | trivial | (simp [v75, Scalar, Scalar2, Scalar1, stC, ndC, itC, chC, nwC])
  · unfold F75 at h; split at h <;> cases h; exact Nat.le_of_ble_eq_true rfl
  · unfold F75 at h; split at h
    case h_2 => cases h
    cases h
    exact a75 _ (by exact hbd) trivial K hK
noncomputable def v56 (a : Bs) (b : Bs) : AV := .bool (ltS a b)
noncomputable def o56 (a : Bs) (b : Bs) : Prop := True
noncomputable def F56 : List AV → QR
  | [.str a, .str b] => some (none, v56 a b)
  | _ => none
noncomputable def E56 : Ctx := mkE tab [(75, .pure F75)]
noncomputable def O56 : Nat → List DI := ordL []
theorem a56 (a : Bs) (b : Bs) (hb : BdAs [.str a, .str b]) (ho : o56 a b) (K : AV → List AV → Prop) (hK : K (v56 a b) []) : abody E56 O56 .ps Try.f56 (Try.f56.body.getD .skip) [.str a, .str b] K := by
  simp only [BdAs, BdA, BdL, BdC, MX, ndC, shC, itC, stC, opC, chC, nwC, flC, rqC, rsC, enc, List.cons_append, List.nil_append, and_true, true_and] at hb
  unfold v56 at hK
  conv => whnf
  repeat' first|((first|refine Cnd.mk (fun h=>?_) (fun h=>?_)|refine Gd.mk (fun h=>?_))<;>(try simp [etas,elDef,-List.getD_eq_getElem?_getD] at h)<;>conv=>whnf)|((first|refine Obl.mk (by first|omega|rfl|exact inK_byte _|(simp only [inK,Int.toNat_natCast,etas,elDef]<;>first|omega|grind)|grind [inK]) ?_|refine OblG.mk (by ((conv=>whnf);(repeat (first|refine Bx.mk ?_|(intro h;(try simp [etas,elDef,-List.getD_eq_getElem?_getD] at h);conv=>whnf)));(first|omega|rfl|exact inK_byte _|(simp only [inK,Int.toNat_natCast,etas,elDef]<;>first|omega|grind)|grind [inK]))) ?_|refine And.intro ?_ ?_)<;>conv=>whnf)|exact True.intro|(intro;conv=>whnf)
  all_goals exact leafB hK (by simp)
theorem s56 : (CtrOK Try.prog 56 (.pure F56) ∧ Callable Try.prog 56) := by
  refine pure_ok (E := E56) (mkE_cons s75 (mkE_nil tab_ok)) mix (O := O56) (F := F56) Try.func56 rfl (by rfl) (by kernel_rfl) (fun args o v h => ?_) (fun args o v h => ?_) (fun args o v h hbd hp K hK => ?_)
  · unfold F56 at h; split at h <;> cases h; first | trivial | (simp [v56, Scalar, Scalar2, Scalar1, stC, ndC, itC, chC, nwC])
  · unfold F56 at h; split at h <;> cases h; exact Nat.le_of_ble_eq_true rfl
  · unfold F56 at h; split at h
    case h_2 => cases h
    cases h
    exact a56 _ _ (by exact hbd) trivial K hK
noncomputable def v82 (l : List Bs) : AV := .bool (pathM l)
noncomputable def o82 (l : List Bs) : Prop := True
noncomputable def F82 : List AV → QR
  | [.ps .str l] => some (none, v82 l)
  | _ => none
noncomputable def E82 : Ctx := mkE tab [(85, .pure F85)]
noncomputable def O82 : Nat → List DI := ordL []
theorem a82 (l : List Bs) (hb : BdAs [.ps .str l]) (ho : o82 l) (K : AV → List AV → Prop) (hK : K (v82 l) []) : abody E82 O82 .ps Try.f82 (Try.f82.body.getD .skip) [.ps .str l] K := by
  simp only [BdAs, BdA, BdL, BdC, MX, ndC, shC, itC, stC, opC, chC, nwC, flC, rqC, rsC, enc, List.cons_append, List.nil_append, and_true, true_and] at hb
  unfold v82 at hK
  conv => whnf
  repeat' first|((first|refine Cnd.mk (fun h=>?_) (fun h=>?_)|refine Gd.mk (fun h=>?_))<;>(try simp [etas,elDef,-List.getD_eq_getElem?_getD] at h)<;>conv=>whnf)|((first|refine Obl.mk (by first|omega|rfl|exact inK_byte _|(simp only [inK,Int.toNat_natCast,etas,elDef]<;>first|omega|grind)|grind [inK]) ?_|refine OblG.mk (by ((conv=>whnf);(repeat (first|refine Bx.mk ?_|(intro h;(try simp [etas,elDef,-List.getD_eq_getElem?_getD] at h);conv=>whnf)));(first|omega|rfl|exact inK_byte _|(simp only [inK,Int.toNat_natCast,etas,elDef]<;>first|omega|grind)|grind [inK]))) ?_|refine And.intro ?_ ?_)<;>conv=>whnf)|exact True.intro|(intro;conv=>whnf)
  · exact leafB hK (by simp [pathM]; omega)
  refine aloop_intro Nat (fun k => k ≤ l.length ∧ ∀ j, j < k → txtM (l.getD j []) = true) (fun k => l.length - k) (fun k => [(10, .int .i64 k)]) (fun k => []) [] 0 [] [] ?_ ?_ (by exact sgOk_of (by rfl)) ?_
  · first | (simp; done) | (simp; assumption)
  · iterate 2 ((all_goals (conv=>whnf));(repeat' (first|exact trivial|rfl|(refine nilEq ?_;first|rfl|(simp only [*];done)|(simp [*];done)|grind)|apply And.intro|((first|apply intEq|apply boolEq|apply strEq|apply psEq|apply nilEq|apply arrEq);(try simp only [Int.toNat_natCast,etas,elDef]);first | done | omega | grind | (simp only [*]; done) | (simp [*]; done)))));(all_goals ((try simp only [Int.toNat_natCast,etas,elDef]);first | done | omega | grind | (simp only [*]; done) | (simp [*]; done)))
  rintro i ⟨hi, hj⟩
  conv => whnf
  repeat' first|((first|refine Cnd.mk (fun h=>?_) (fun h=>?_)|refine Gd.mk (fun h=>?_))<;>(try simp [etas,elDef,-List.getD_eq_getElem?_getD] at h)<;>conv=>whnf)|((first|refine Obl.mk (by first|omega|rfl|exact inK_byte _|(simp only [inK,Int.toNat_natCast,etas,elDef]<;>first|omega|grind)|grind [inK]) ?_|refine OblG.mk (by ((conv=>whnf);(repeat (first|refine Bx.mk ?_|(intro h;(try simp [etas,elDef,-List.getD_eq_getElem?_getD] at h);conv=>whnf)));(first|omega|rfl|exact inK_byte _|(simp only [inK,Int.toNat_natCast,etas,elDef]<;>first|omega|grind)|grind [inK]))) ?_|refine And.intro ?_ ?_)<;>conv=>whnf)|exact True.intro|(intro;conv=>whnf)
  · have : l.all txtM = false := allB_no (j := i) (by omega) (by grind)
    exact leafB hK (by simp only [pathM, this, Bool.and_false])
  · exact ⟨i + 1, [], [], ⟨by omega, by grind⟩, by omega, by iterate 2 ((all_goals (conv=>whnf));(repeat' (first|exact trivial|rfl|(refine nilEq ?_;first|rfl|(simp only [*];done)|(simp [*];done)|grind)|apply And.intro|((first|apply intEq|apply boolEq|apply strEq|apply psEq|apply nilEq|apply arrEq);(try simp only [Int.toNat_natCast,etas,elDef]);first | done | omega | grind | (simp only [*]; done) | (simp [*]; done)))));(all_goals ((try simp only [Int.toNat_natCast,etas,elDef]);first | done | omega | grind | (simp only [*]; done) | (simp [*]; done))), (by exact sgOk_of (by rfl))⟩
  · have : l.all txtM = true := (allB_iff _ _).2 (by grind)
    exact leafB hK (by simp only [pathM, this, Bool.and_true]; exact decide_eq_true (by omega))
theorem s82 : (CtrOK Try.prog 82 (.pure F82) ∧ Callable Try.prog 82) := by
  refine pure_ok (E := E82) (mkE_cons s85 (mkE_nil tab_ok)) mix (O := O82) (F := F82) Try.func82 rfl (by rfl) (by kernel_rfl) (fun args o v h => ?_) (fun args o v h => ?_) (fun args o v h hbd hp K hK => ?_)
  · unfold F82 at h; split at h <;> cases h; first | trivial | (simp [v82, Scalar, Scalar2, Scalar1, stC, ndC, itC, chC, nwC])
  · unfold F82 at h; split at h <;> cases h; exact Nat.le_of_ble_eq_true rfl
  · unfold F82 at h; split at h
    case h_2 => cases h
    cases h
    exact a82 _ (by exact hbd) trivial K hK
noncomputable def v79 (l : List Bs) : AV := .bool (pathM l)
noncomputable def o79 (l : List Bs) : Prop := True
noncomputable def F79 : List AV → QR
  | [.ps .str l] => some (none, v79 l)
  | _ => none
noncomputable def E79 : Ctx := mkE tab [(76, .pure F76)]
noncomputable def O79 : Nat → List DI := ordL []
theorem a79 (l : List Bs) (hb : BdAs [.ps .str l]) (ho : o79 l) (K : AV → List AV → Prop) (hK : K (v79 l) []) : abody E79 O79 .ps Try.f79 (Try.f79.body.getD .skip) [.ps .str l] K := by
  simp only [BdAs, BdA, BdL, BdC, MX, ndC, shC, itC, stC, opC, chC, nwC, flC, rqC, rsC, enc, List.cons_append, List.nil_append, and_true, true_and] at hb
  unfold v79 at hK
  conv => whnf
  refine aloop_intro Nat (fun k => k ≤ l.length ∧ ∀ j, j < k → txtM (l.getD j []) = true) (fun k => l.length - k) (fun k => [(3, .int .i64 k)]) (fun k => []) [] 0 [] [] ?_ ?_ (by exact sgOk_of (by rfl)) ?_
  · first | (simp; done) | (simp; assumption)
  · iterate 2 ((all_goals (conv=>whnf));(repeat' (first|exact trivial|rfl|(refine nilEq ?_;first|rfl|(simp only [*];done)|(simp [*];done)|grind)|apply And.intro|((first|apply intEq|apply boolEq|apply strEq|apply psEq|apply nilEq|apply arrEq);(try simp only [Int.toNat_natCast,etas,elDef]);first | done | omega | grind | (simp only [*]; done) | (simp [*]; done)))));(all_goals ((try simp only [Int.toNat_natCast,etas,elDef]);first | done | omega | grind | (simp only [*]; done) | (simp [*]; done)))
  rintro i ⟨hi, hj⟩
  conv => whnf
  repeat' first|((first|refine Cnd.mk (fun h=>?_) (fun h=>?_)|refine Gd.mk (fun h=>?_))<;>(try simp [etas,elDef,-List.getD_eq_getElem?_getD] at h)<;>conv=>whnf)|((first|refine Obl.mk (by first|omega|rfl|exact inK_byte _|(simp only [inK,Int.toNat_natCast,etas,elDef]<;>first|omega|grind)|grind [inK]) ?_|refine OblG.mk (by ((conv=>whnf);(repeat (first|refine Bx.mk ?_|(intro h;(try simp [etas,elDef,-List.getD_eq_getElem?_getD] at h);conv=>whnf)));(first|omega|rfl|exact inK_byte _|(simp only [inK,Int.toNat_natCast,etas,elDef]<;>first|omega|grind)|grind [inK]))) ?_|refine And.intro ?_ ?_)<;>conv=>whnf)|exact True.intro|(intro;conv=>whnf)
  · have : l.all txtM = false := allB_no (j := i) (by omega) (by grind)
    exact leafB hK (by simp only [pathM, this, Bool.and_false])
  · exact ⟨i + 1, [], [], ⟨by omega, by grind⟩, by omega, by iterate 2 ((all_goals (conv=>whnf));(repeat' (first|exact trivial|rfl|(refine nilEq ?_;first|rfl|(simp only [*];done)|(simp [*];done)|grind)|apply And.intro|((first|apply intEq|apply boolEq|apply strEq|apply psEq|apply nilEq|apply arrEq);(try simp only [Int.toNat_natCast,etas,elDef]);first | done | omega | grind | (simp only [*]; done) | (simp [*]; done)))));(all_goals ((try simp only [Int.toNat_natCast,etas,elDef]);first | done | omega | grind | (simp only [*]; done) | (simp [*]; done))), (by exact sgOk_of (by rfl))⟩
  · have : l.all txtM = true := (allB_iff _ _).2 (by grind)
    exact leafB hK (by simp only [pathM, this, Bool.and_true]; rw [Bool.eq_iff_iff]; simp; omega)
theorem s79 : (CtrOK Try.prog 79 (.pure F79) ∧ Callable Try.prog 79) := by
  refine pure_ok (E := E79) (mkE_cons s76 (mkE_nil tab_ok)) mix (O := O79) (F := F79) Try.func79 rfl (by rfl) (by kernel_rfl) (fun args o v h => ?_) (fun args o v h => ?_) (fun args o v h hbd hp K hK => ?_)
  · unfold F79 at h; split at h <;> cases h; first | trivial | (simp [v79, Scalar, Scalar2, Scalar1, stC, ndC, itC, chC, nwC])
  · unfold F79 at h; split at h <;> cases h; exact Nat.le_of_ble_eq_true rfl
  · unfold F79 at h; split at h
    case h_2 => cases h
    cases h
    exact a79 _ (by exact hbd) trivial K hK
end Go.Rs

