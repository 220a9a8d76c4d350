import Derived.Test.YtfaaemggaliojaaDoorCQ
import Derived.Test.YtfaaemggaliojaaDoorMC
import Derived.Test.YtfaaemggaliojaaDoorEA
import Derived.Test.YtfaaemggaliojaaDoorCK
import Derived.Test.YtfaaemggaliojaaDoorCI
import Derived.Test.YtfaaemggaliojaaDoorMB
import Derived.Test.YtfaaemggaliojaaDoorCR
import Derived.Test.YtfaaemggaliojaaDoorMF
set_option linter.all false
section
set_option linter.unusedSimpArgs false
set_option linter.unusedVariables false
namespace Go.Rs
open Go.Proofs
set_option maxRecDepth 100000
structure Gx (P Q : Prop) : Prop where
  o : P
  k : Q
end Go.Rs
end
section
section
set_option linter.unusedSimpArgs false
set_option linter.unusedVariables false
namespace Go.Rs
open Go.Proofs
set_option maxRecDepth 100000
set_option maxHeartbeats 1000000
end Go.Rs
end
section
set_option linter.unusedSimpArgs false
set_option linter.unusedVariables false
namespace Go.Rs
open Go.Proofs
set_option maxRecDepth 100000
noncomputable def v42 (x : It) : AV := .int .i64 (itSz x)
noncomputable def o42 (x : It) : Prop := validM x.node = true ∧ x.name.length ≤ 100
noncomputable def F42 : List AV → QR
  | [.st [.str x_0, .int .i64 x_1, .int .i64 x_2_0, .int .i64 x_2_1, .str x_2_2, .ps .str x_2_3, .ps .node x_2_4]] => some (some (o42 ⟨x_0, x_1, ⟨x_2_0, x_2_1, x_2_2, x_2_3, x_2_4⟩⟩), v42 ⟨x_0, x_1, ⟨x_2_0, x_2_1, x_2_2, x_2_3, x_2_4⟩⟩)
  | _ => none
noncomputable def E42 : Ctx := mkE tab [(65, .pure F65)]
noncomputable def O42 : Nat → List DI := ordL [(1, [.q 0, .q 1, .q 2, .q 3, .q 4, .q 5, .q 6, .q 7])]
theorem a42 (x : It) (hb : BdAs [.st (itC x)]) (ho : o42 x) (K : AV → List AV → Prop) (hK : K (v42 x) []) : abody E42 O42 .ps Tryd.f42 (Tryd.f42.body.getD .skip) [.st (itC x)] K := by
  simp only [BdAs, BdA, BdL, BdC, MX, ndC, shC, itC, stC, opC, chC, nwC, flC, rqC, rsC, enc, List.cons_append, List.nil_append, and_true, true_and] at hb
  unfold o42 at ho
  unfold v42 at hK
  have h1 := (validM_iff.1 ho.1).2
  have h2 := okN_fmt (validM_ok ho.1)
  have h3 : sizeTM x.node = (fmtM x.node).length := by unfold sizeTM; rw [if_pos ho.1]
  conv => whnf
  repeat' first|((first|refine Cnd.mk (fun h=>?_) (fun h=>?_)|refine Gd.mk (fun h=>?_))<;>(try simp [etas,elDef,-List.getD_eq_getElem?_getD] at h)<;>conv=>whnf)|((first|refine Obl.mk (by first|omega|rfl|exact inK_byte _|(simp only [inK,Int.toNat_natCast,etas,elDef]<;>first|omega|grind)|grind [inK]) ?_|refine OblG.mk (by ((conv=>whnf);(repeat (first|refine Bx.mk ?_|(intro h;(try simp [etas,elDef,-List.getD_eq_getElem?_getD] at h);conv=>whnf)));(first|omega|rfl|exact inK_byte _|(simp only [inK,Int.toNat_natCast,etas,elDef]<;>first|omega|grind)|grind [inK]))) ?_|refine And.intro ?_ ?_)<;>conv=>whnf)|exact True.intro|(intro;conv=>whnf)
  exact leafI hK (by simp only [etas, h3]; unfold itSz; omega)
theorem s42 : (CtrOK Tryd.prog 42 (.pure F42) ∧ Callable Tryd.prog 42) := by
  refine pure_ok (E := E42) (mkE_cons s65 (mkE_nil tab_ok)) mix (O := O42) (F := F42) Tryd.func42 rfl (by rfl) (by kernel_rfl) (fun args o v h => ?_) (fun args o v h => ?_) (fun args o v h hbd hp K hK => ?_)
  · unfold F42 at h; split at h <;> cases h; first | trivial | (simp [v42, Scalar, Scalar2, Scalar1, stC, ndC, itC, chC, nwC])
  · unfold F42 at h; split at h <;> cases h; exact Nat.le_of_ble_eq_true rfl
  · unfold F42 at h; split at h
    case h_2 => cases h
    cases h
    exact a42 ⟨_, _, ⟨_, _, _, _, _⟩⟩ (by exact hbd) (hp _ rfl) K hK
noncomputable def v40 (s : Sto) : AV := .int .i64 (stSzM s)
noncomputable def o40 (s : Sto) : Prop := True
noncomputable def F40 : List AV → QR
  | [.st [.ps .item s_0, .int .i64 s_1]] => some (none, v40 ⟨s_0, s_1⟩)
  | _ => none
noncomputable def E40 : Ctx := mkE tab [(38, .pure F38), (42, .pure F42)]
noncomputable def O40 : Nat → List DI := ordL []
theorem a40 (s : Sto) (hb : BdAs [.st (stC s)]) (ho : o40 s) (K : AV → List AV → Prop) (hK : K (v40 s) []) : abody E40 O40 .ps Tryd.f40 (Tryd.f40.body.getD .skip) [.st (stC s)] K := by
  simp only [BdAs, BdA, BdL, BdC, MX, ndC, shC, itC, stC, opC, chC, nwC, flC, rqC, rsC, enc, List.cons_append, List.nil_append, and_true, true_and] at hb
  unfold v40 at hK
  have hv := fun (h : storeM s = true) => size_bound h
  have hl := fun (h : storeM s = true) => (storeM_iff.1 h).1
  conv => whnf
  repeat' first|((first|refine Cnd.mk (fun h=>?_) (fun h=>?_)|refine Gd.mk (fun h=>?_))<;>(try simp [etas,elDef,-List.getD_eq_getElem?_getD] at h)<;>conv=>whnf)|((first|refine Obl.mk (by first|omega|rfl|exact inK_byte _|(simp only [inK,Int.toNat_natCast,etas,elDef,o42]<;>first|omega|grind)|grind [inK,o42]) ?_|refine OblG.mk (by ((conv=>whnf);(repeat (first|refine Bx.mk ?_|(intro h;(try simp [etas,elDef,-List.getD_eq_getElem?_getD] at h);conv=>whnf)));(first|omega|rfl|exact inK_byte _|(simp only [inK,Int.toNat_natCast,etas,elDef,o42]<;>first|omega|grind)|grind [inK,o42]))) ?_|refine And.intro ?_ ?_)<;>conv=>whnf)|exact True.intro|(intro;conv=>whnf)
  · exact leafI hK (by unfold stSzM; rw [if_neg (by simp [h])])
  · have hs := h
    have hsb := size_bound h
    refine aloop_intro Nat (fun k => k ≤ s.items.length ∧ True) (fun k => s.items.length - k) (fun k => [(12, .int .i64 k), (3, .int .i64 (sizeM (s.items.take k)))]) (fun k => []) [] 0 [] [] ?_ ?_ (by exact sgOk_of (by rfl)) ?_
    · first | (simp; done) | (simp; assumption)
    · iterate 2 ((all_goals (conv=>whnf));(repeat' (first|exact trivial|rfl|(refine nilEq ?_;first|rfl|(simp only [*];done)|(simp [*];done)|grind)|apply And.intro|((first|apply intEq|apply boolEq|apply strEq|apply psEq|apply nilEq|apply arrEq);(try simp only [Int.toNat_natCast,etas,elDef]);first | done | omega | grind | (simp only [*]; done) | (simp [*]; done)))));(all_goals ((try simp only [Int.toNat_natCast,etas,elDef]);first | done | omega | grind | (simp only [*]; done) | (simp [*]; done)))
    rintro i ⟨hi, hj⟩
    conv => whnf
    have hp := sizeM_pre (l := s.items) (i := i)
    have ht := fun (h : i < s.items.length) => sizeM_take h
    have hi1 := fun (h : i < s.items.length) => itSz_le hs (getD_mem (d := default) h)
    have hi2 := fun (h : i < s.items.length) => storeM_node hs h
    have hi3 := fun (h : i < s.items.length) => store_name hs h
    repeat' first|((first|refine Cnd.mk (fun h=>?_) (fun h=>?_)|refine Gd.mk (fun h=>?_))<;>(try simp [etas,elDef,-List.getD_eq_getElem?_getD] at h)<;>conv=>whnf)|((first|refine Obl.mk (by first|omega|rfl|exact inK_byte _|(simp only [inK,Int.toNat_natCast,etas,elDef,o42]<;>first|omega|grind)|grind [inK,o42]) ?_|refine OblG.mk (by ((conv=>whnf);(repeat (first|refine Bx.mk ?_|(intro h;(try simp [etas,elDef,-List.getD_eq_getElem?_getD] at h);conv=>whnf)));(first|omega|rfl|exact inK_byte _|(simp only [inK,Int.toNat_natCast,etas,elDef,o42]<;>first|omega|grind)|grind [inK,o42]))) ?_|refine And.intro ?_ ?_)<;>conv=>whnf)|exact True.intro|(intro;conv=>whnf)
    · have e5 := ht h
      exact ⟨i + 1, [], [], ⟨by omega, by grind⟩, by omega, by iterate 2 ((all_goals (conv=>whnf));(repeat' (first|exact trivial|rfl|(refine nilEq ?_;first|rfl|(simp only [*];done)|(simp [*];done)|grind)|apply And.intro|((first|apply intEq|apply boolEq|apply strEq|apply psEq|apply nilEq|apply arrEq);(try simp only [Int.toNat_natCast,etas,elDef]);first | done | omega))));(all_goals ((try simp only [Int.toNat_natCast,etas,elDef]);first | done | omega)), (by exact sgOk_of (by rfl))⟩
    · exact leafI hK (by unfold stSzM; rw [if_pos hs, List.take_of_length_le h])
theorem s40 : (CtrOK Tryd.prog 40 (.pure F40) ∧ Callable Tryd.prog 40) := by
  refine pure_ok (E := E40) (mkE_cons s38 (mkE_cons s42 (mkE_nil tab_ok))) mix (O := O40) (F := F40) Tryd.func40 rfl (by rfl) (by kernel_rfl) (fun args o v h => ?_) (fun args o v h => ?_) (fun args o v h hbd hp K hK => ?_)
  · unfold F40 at h; split at h <;> cases h; first | trivial | (simp [v40, Scalar, Scalar2, Scalar1, stC, ndC, itC, chC, nwC])
  · unfold F40 at h; split at h <;> cases h; exact Nat.le_of_ble_eq_true rfl
  · unfold F40 at h; split at h
    case h_2 => cases h
    cases h
    exact a40 ⟨_, _⟩ (by exact hbd) trivial K hK
noncomputable def v35 (s : Sto) : AV := .int .i64 (sizeM s.items)
noncomputable def o35 (s : Sto) : Prop := storeM s = true
noncomputable def F35 : List AV → QR
  | [.st [.ps .item s_0, .int .i64 s_1]] => some (some (o35 ⟨s_0, s_1⟩), v35 ⟨s_0, s_1⟩)
  | _ => none
noncomputable def E35 : Ctx := mkE tab [(62, .pure F62)]
noncomputable def O35 : Nat → List DI := ordL [(5, [.q 0, .q 1, .q 2, .q 3, .q 4, .q 5, .q 6, .q 7, .q 8, .q 9, .q 10, .q 11, .q 12, .q 13, .q 14, .q 15, .q 16, .q 17, .q 18])]
theorem a35 (s : Sto) (hb : BdAs [.st (stC s)]) (ho : o35 s) (K : AV → List AV → Prop) (hK : K (v35 s) []) : abody E35 O35 .ps Tryd.f35 (Tryd.f35.body.getD .skip) [.st (stC s)] K := by
  simp only [BdAs, BdA, BdL, BdC, MX, ndC, shC, itC, stC, opC, chC, nwC, flC, rqC, rsC, enc, List.cons_append, List.nil_append, and_true, true_and] at hb
  unfold o35 at ho
  unfold v35 at hK
  have hsb := size_bound ho
  have hl := (storeM_iff.1 ho).1
  conv => whnf
  repeat' first|((first|refine Cnd.mk (fun h=>?_) (fun h=>?_)|refine Gd.mk (fun h=>?_))<;>(try simp [etas,elDef,-List.getD_eq_getElem?_getD] at h)<;>conv=>whnf)|((first|refine Obl.mk (by first|omega|rfl|exact inK_byte _|(simp only [inK,Int.toNat_natCast,etas,elDef,o62,m62]<;>first|omega|grind)|grind [inK,o62,m62]) ?_|refine OblG.mk (by ((conv=>whnf);(repeat (first|refine Bx.mk ?_|(intro h;(try simp [etas,elDef,-List.getD_eq_getElem?_getD] at h);conv=>whnf)));(first|omega|rfl|exact inK_byte _|(simp only [inK,Int.toNat_natCast,etas,elDef,o62,m62]<;>first|omega|grind)|grind [inK,o62,m62]))) ?_|refine And.intro ?_ ?_)<;>conv=>whnf)|exact True.intro|(intro;conv=>whnf)
  refine aloop_intro Nat (fun k => k ≤ s.items.length ∧ True) (fun k => s.items.length - k) (fun k => [(4, .int .i64 k), (3, .int .i64 (sizeM (s.items.take k)))]) (fun k => []) [1] 0 [] [] ?_ ?_ (by exact sgOk_of (by rfl)) ?_
  · first | (simp; done) | (simp; assumption)
  · iterate 2 ((all_goals (conv=>whnf));(repeat' (first|exact trivial|rfl|(refine nilEq ?_;first|rfl|(simp only [*];done)|(simp [*];done)|grind)|apply And.intro|((first|apply intEq|apply boolEq|apply strEq|apply psEq|apply nilEq|apply arrEq);(try simp only [Int.toNat_natCast,etas,elDef]);first | done | omega | grind | (simp only [*]; done) | (simp [*]; done)))));(all_goals ((try simp only [Int.toNat_natCast,etas,elDef]);first | done | omega | grind | (simp only [*]; done) | (simp [*]; done)))
  rintro i ⟨hi, hj⟩
  conv => whnf
  have hp := sizeM_pre (l := s.items) (i := i)
  have ht := fun (h : i < s.items.length) => sizeM_take h
  have hi1 := fun (h : i < s.items.length) => itSz_le ho (getD_mem (d := default) h)
  have hi2 := fun (h : i < s.items.length) => validM_ok (storeM_node ho h)
  have hi3 := fun (h : i < s.items.length) => store_name ho h
  have hi4 := fun (h : i < s.items.length) => okN_fmt (validM_ok (storeM_node ho h))
  have hi5 := fun (h : i < s.items.length) => (validM_iff.1 (storeM_node ho h)).2
  repeat' first|((first|refine Cnd.mk (fun h=>?_) (fun h=>?_)|refine Gd.mk (fun h=>?_))<;>(try simp [etas,elDef,-List.getD_eq_getElem?_getD] at h)<;>conv=>whnf)|((first|refine Obl.mk (by first|omega|rfl|exact inK_byte _|(simp only [inK,Int.toNat_natCast,etas,elDef,o62,m62]<;>first|omega|grind)|grind [inK,o62,m62]) ?_|refine OblG.mk (by ((conv=>whnf);(repeat (first|refine Bx.mk ?_|(intro h;(try simp [etas,elDef,-List.getD_eq_getElem?_getD] at h);conv=>whnf)));(first|omega|rfl|exact inK_byte _|(simp only [inK,Int.toNat_natCast,etas,elDef,o62,m62]<;>first|omega|grind)|grind [inK,o62,m62]))) ?_|refine And.intro ?_ ?_)<;>conv=>whnf)|exact True.intro|(intro;conv=>whnf)
  · have e5 := ht h
    have e6 : itSz (s.items.getD i default) = (s.items.getD i default).name.length + (fmtM (s.items.getD i default).node).length := rfl
    exact ⟨i + 1, [], [], ⟨by omega, by grind⟩, by omega, by iterate 2 ((all_goals (conv=>whnf));(repeat' (first|exact trivial|rfl|(refine nilEq ?_;first|rfl|(simp only [*];done)|(simp [*];done)|grind)|apply And.intro|((first|apply intEq|apply boolEq|apply strEq|apply psEq|apply nilEq|apply arrEq);(try simp only [Int.toNat_natCast,etas,elDef]);first | done | omega))));(all_goals ((try simp only [Int.toNat_natCast,etas,elDef]);first | done | omega)), (by exact sgOk_of (by rfl))⟩
  · exact leafI hK (by rw [List.take_of_length_le h])
theorem s35 : (CtrOK Tryd.prog 35 (.pure F35) ∧ Callable Tryd.prog 35) := by
  refine pure_ok (E := E35) (mkE_cons s62 (mkE_nil tab_ok)) mix (O := O35) (F := F35) Tryd.func35 rfl (by rfl) (by kernel_rfl) (fun args o v h => ?_) (fun args o v h => ?_) (fun args o v h hbd hp K hK => ?_)
  · unfold F35 at h; split at h <;> cases h; first | trivial | (simp [v35, Scalar, Scalar2, Scalar1, stC, ndC, itC, chC, nwC])
  · unfold F35 at h; split at h <;> cases h; exact Nat.le_of_ble_eq_true rfl
  · unfold F35 at h; split at h
    case h_2 => cases h
    cases h
    exact a35 ⟨_, _⟩ (by exact hbd) (hp _ rfl) K hK
end Go.Rs
end
end
