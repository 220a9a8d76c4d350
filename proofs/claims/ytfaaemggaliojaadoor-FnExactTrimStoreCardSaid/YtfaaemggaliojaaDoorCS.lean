import Derived.Test.YtfaaemggaliojaaDoorCR
import Derived.Test.YtfaaemggaliojaaDoorMC
set_option linter.all false
set_option linter.unusedSimpArgs false
set_option linter.unusedVariables false
namespace Go.Rs
open Go.Proofs
set_option maxRecDepth 100000
noncomputable def v56 (l : List Flt) : AV := .bool (filtersM l)
noncomputable def o56 (l : List Flt) : Prop := True
noncomputable def F56 : List AV → QR
  | [.ps .flt l] => some (none, v56 l)
  | _ => none
noncomputable def E56 : Ctx := mkE tab [(75, .pure F75)]
noncomputable def O56 : Nat → List DI := ordL []
theorem a56 (l : List Flt) (hb : BdAs [.ps .flt l]) (ho : o56 l) (K : AV → List AV → Prop) (hK : K (v56 l) []) : abody E56 O56 .ps Tryd.f56 (Tryd.f56.body.getD .skip) [.ps .flt l] K := by
  simp only [BdAs, BdA, BdL, BdC, MX, ndC, shC, itC, stC, opC, chC, nwC, flC, rqC, rsC, enc, List.cons_append, List.nil_append, and_true, true_and] at hb
  unfold v56 at hK
  conv => whnf
  repeat' first|((first|refine Cnd.mk (fun h=>?_) (fun h=>?_)|refine Gd.mk (fun h=>?_))<;>(try simp [etas,elDef,-List.getD_eq_getElem?_getD] at h)<;>conv=>whnf)|((first|refine Obl.mk (by first|omega|rfl|exact inK_byte _|(simp only [inK,Int.toNat_natCast,etas,elDef]<;>first|omega|grind)|grind [inK]) ?_|refine OblG.mk (by ((conv=>whnf);(repeat (first|refine Bx.mk ?_|(intro h;(try simp [etas,elDef,-List.getD_eq_getElem?_getD] at h);conv=>whnf)));(first|omega|rfl|exact inK_byte _|(simp only [inK,Int.toNat_natCast,etas,elDef]<;>first|omega|grind)|grind [inK]))) ?_|refine And.intro ?_ ?_)<;>conv=>whnf)|exact True.intro|(intro;conv=>whnf)
  · exact leafB hK (by simp [filtersM]; omega)
  refine aloop_intro Nat (fun k => k ≤ l.length ∧ ∀ j, j < k → filterM (l.getD j default) = true) (fun k => l.length - k) (fun k => [(10, .int .i64 k)]) (fun k => []) [] 0 [] [] ?_ ?_ (by exact sgOk_of (by rfl)) ?_
  · first | (simp; done) | (simp; assumption)
  · iterate 2 ((all_goals (conv=>whnf));(repeat' (first|exact trivial|rfl|(refine nilEq ?_;first|rfl|(simp only [*];done)|(simp [*];done)|grind)|apply And.intro|((first|apply intEq|apply boolEq|apply strEq|apply psEq|apply nilEq|apply arrEq);(try simp only [Int.toNat_natCast,etas,elDef]);first | done | omega | grind | (simp only [*]; done) | (simp [*]; done)))));(all_goals ((try simp only [Int.toNat_natCast,etas,elDef]);first | done | omega | grind | (simp only [*]; done) | (simp [*]; done)))
  rintro i ⟨hi, hj⟩
  conv => whnf
  repeat' first|((first|refine Cnd.mk (fun h=>?_) (fun h=>?_)|refine Gd.mk (fun h=>?_))<;>(try simp [etas,elDef,-List.getD_eq_getElem?_getD] at h)<;>conv=>whnf)|((first|refine Obl.mk (by first|omega|rfl|exact inK_byte _|(simp only [inK,Int.toNat_natCast,etas,elDef]<;>first|omega|grind)|grind [inK]) ?_|refine OblG.mk (by ((conv=>whnf);(repeat (first|refine Bx.mk ?_|(intro h;(try simp [etas,elDef,-List.getD_eq_getElem?_getD] at h);conv=>whnf)));(first|omega|rfl|exact inK_byte _|(simp only [inK,Int.toNat_natCast,etas,elDef]<;>first|omega|grind)|grind [inK]))) ?_|refine And.intro ?_ ?_)<;>conv=>whnf)|exact True.intro|(intro;conv=>whnf)
  · have : l.all filterM = false := allF_no (j := i) (by omega) (by grind)
    exact leafB hK (by simp only [filtersM, this, Bool.and_false])
  · exact ⟨i + 1, [], [], ⟨by omega, by grind⟩, by omega, by iterate 2 ((all_goals (conv=>whnf));(repeat' (first|exact trivial|rfl|(refine nilEq ?_;first|rfl|(simp only [*];done)|(simp [*];done)|grind)|apply And.intro|((first|apply intEq|apply boolEq|apply strEq|apply psEq|apply nilEq|apply arrEq);(try simp only [Int.toNat_natCast,etas,elDef]);first | done | omega | grind | (simp only [*]; done) | (simp [*]; done)))));(all_goals ((try simp only [Int.toNat_natCast,etas,elDef]);first | done | omega | grind | (simp only [*]; done) | (simp [*]; done))), (by exact sgOk_of (by rfl))⟩
  · have : l.all filterM = true := (allF_iff _ _).2 (by grind)
    exact leafB hK (by simp only [filtersM, this, Bool.and_true]; exact decide_eq_true (by omega))
theorem s56 : (CtrOK Tryd.prog 56 (.pure F56) ∧ Callable Tryd.prog 56) := by
  refine pure_ok (E := E56) (mkE_cons s75 (mkE_nil tab_ok)) mix (O := O56) (F := F56) Tryd.func56 rfl (by rfl) (by kernel_rfl) (fun args o v h => ?_) (fun args o v h => ?_) (fun args o v h hbd hp K hK => ?_)
  · unfold F56 at h; split at h <;> cases h; first | trivial | (simp [v56, Scalar, Scalar2, Scalar1, stC, ndC, itC, chC, nwC])
  · unfold F56 at h; split at h <;> cases h; exact Nat.le_of_ble_eq_true rfl
  · unfold F56 at h; split at h
    case h_2 => cases h
    cases h
    exact a56 _ (by exact hbd) trivial K hK
noncomputable def v24 (l : List Flt) : AV := .bool (filtersM l)
noncomputable def o24 (l : List Flt) : Prop := True
noncomputable def F24 : List AV → QR
  | [.ps .flt l] => some (none, v24 l)
  | _ => none
noncomputable def E24 : Ctx := mkE tab [(51, .pure F51)]
noncomputable def O24 : Nat → List DI := ordL []
theorem a24 (l : List Flt) (hb : BdAs [.ps .flt l]) (ho : o24 l) (K : AV → List AV → Prop) (hK : K (v24 l) []) : abody E24 O24 .ps Tryd.f24 (Tryd.f24.body.getD .skip) [.ps .flt l] K := by
  simp only [BdAs, BdA, BdL, BdC, MX, ndC, shC, itC, stC, opC, chC, nwC, flC, rqC, rsC, enc, List.cons_append, List.nil_append, and_true, true_and] at hb
  unfold v24 at hK
  conv => whnf
  refine aloop_intro Nat (fun k => k ≤ l.length ∧ ∀ j, j < k → filterM (l.getD j default) = true) (fun k => l.length - k) (fun k => [(3, .int .i64 k)]) (fun k => []) [] 0 [] [] ?_ ?_ (by exact sgOk_of (by rfl)) ?_
  · first | (simp; done) | (simp; assumption)
  · iterate 2 ((all_goals (conv=>whnf));(repeat' (first|exact trivial|rfl|(refine nilEq ?_;first|rfl|(simp only [*];done)|(simp [*];done)|grind)|apply And.intro|((first|apply intEq|apply boolEq|apply strEq|apply psEq|apply nilEq|apply arrEq);(try simp only [Int.toNat_natCast,etas,elDef]);first | done | omega | grind | (simp only [*]; done) | (simp [*]; done)))));(all_goals ((try simp only [Int.toNat_natCast,etas,elDef]);first | done | omega | grind | (simp only [*]; done) | (simp [*]; done)))
  rintro i ⟨hi, hj⟩
  conv => whnf
  repeat' first|((first|refine Cnd.mk (fun h=>?_) (fun h=>?_)|refine Gd.mk (fun h=>?_))<;>(try simp [etas,elDef,-List.getD_eq_getElem?_getD] at h)<;>conv=>whnf)|((first|refine Obl.mk (by first|omega|rfl|exact inK_byte _|(simp only [inK,Int.toNat_natCast,etas,elDef]<;>first|omega|grind)|grind [inK]) ?_|refine OblG.mk (by ((conv=>whnf);(repeat (first|refine Bx.mk ?_|(intro h;(try simp [etas,elDef,-List.getD_eq_getElem?_getD] at h);conv=>whnf)));(first|omega|rfl|exact inK_byte _|(simp only [inK,Int.toNat_natCast,etas,elDef]<;>first|omega|grind)|grind [inK]))) ?_|refine And.intro ?_ ?_)<;>conv=>whnf)|exact True.intro|(intro;conv=>whnf)
  · have : l.all filterM = false := allF_no (j := i) (by omega) (by grind)
    exact leafB hK (by simp only [filtersM, this, Bool.and_false])
  · exact ⟨i + 1, [], [], ⟨by omega, by grind⟩, by omega, by iterate 2 ((all_goals (conv=>whnf));(repeat' (first|exact trivial|rfl|(refine nilEq ?_;first|rfl|(simp only [*];done)|(simp [*];done)|grind)|apply And.intro|((first|apply intEq|apply boolEq|apply strEq|apply psEq|apply nilEq|apply arrEq);(try simp only [Int.toNat_natCast,etas,elDef]);first | done | omega | grind | (simp only [*]; done) | (simp [*]; done)))));(all_goals ((try simp only [Int.toNat_natCast,etas,elDef]);first | done | omega | grind | (simp only [*]; done) | (simp [*]; done))), (by exact sgOk_of (by rfl))⟩
  · have : l.all filterM = true := (allF_iff _ _).2 (by grind)
    exact leafB hK (by simp only [filtersM, this, Bool.and_true]; rw [Bool.eq_iff_iff]; simp; omega)
theorem s24 : (CtrOK Tryd.prog 24 (.pure F24) ∧ Callable Tryd.prog 24) := by
  refine pure_ok (E := E24) (mkE_cons s51 (mkE_nil tab_ok)) mix (O := O24) (F := F24) Tryd.func24 rfl (by rfl) (by kernel_rfl) (fun args o v h => ?_) (fun args o v h => ?_) (fun args o v h hbd hp K hK => ?_)
  · unfold F24 at h; split at h <;> cases h; first | trivial | (simp [v24, Scalar, Scalar2, Scalar1, stC, ndC, itC, chC, nwC])
  · unfold F24 at h; split at h <;> cases h; exact Nat.le_of_ble_eq_true rfl
  · unfold F24 at h; split at h
    case h_2 => cases h
    cases h
    exact a24 _ (by exact hbd) trivial K hK
noncomputable def v57 (n : Nd) (l : List Flt) : AV := .bool (l.all fun f => matchM n f)
noncomputable def o57 (n : Nd) (l : List Flt) : Prop := True
noncomputable def F57 : List AV → QR
  | [.st [.int .i64 n_0, .int .i64 n_1, .str n_2, .ps .str n_3, .ps .node n_4], .ps .flt l] => some (none, v57 ⟨n_0, n_1, n_2, n_3, n_4⟩ l)
  | _ => none
noncomputable def E57 : Ctx := mkE tab [(76, .pure F76)]
noncomputable def O57 : Nat → List DI := ordL []
theorem a57 (n : Nd) (l : List Flt) (hb : BdAs [.st (ndC n), .ps .flt l]) (ho : o57 n l) (K : AV → List AV → Prop) (hK : K (v57 n l) []) : abody E57 O57 .ps Tryd.f57 (Tryd.f57.body.getD .skip) [.st (ndC n), .ps .flt l] K := by
  simp only [BdAs, BdA, BdL, BdC, MX, ndC, shC, itC, stC, opC, chC, nwC, flC, rqC, rsC, enc, List.cons_append, List.nil_append, and_true, true_and] at hb
  unfold v57 at hK
  conv => whnf
  refine aloop_intro Nat (fun k => k ≤ l.length ∧ ∀ j, j < k → matchM n (l.getD j default) = true) (fun k => l.length - k) (fun k => [(9, .int .i64 k)]) (fun k => []) [2] 0 [] [] ?_ ?_ (by exact sgOk_of (by rfl)) ?_
  · first | (simp; done) | (simp; assumption)
  · iterate 2 ((all_goals (conv=>whnf));(repeat' (first|exact trivial|rfl|(refine nilEq ?_;first|rfl|(simp only [*];done)|(simp [*];done)|grind)|apply And.intro|((first|apply intEq|apply boolEq|apply strEq|apply psEq|apply nilEq|apply arrEq);(try simp only [Int.toNat_natCast,etas,elDef]);first | done | omega | grind | (simp only [*]; done) | (simp [*]; done)))));(all_goals ((try simp only [Int.toNat_natCast,etas,elDef]);first | done | omega | grind | (simp only [*]; done) | (simp [*]; done)))
  rintro i ⟨hi, hj⟩
  conv => whnf
  repeat' first|((first|refine Cnd.mk (fun h=>?_) (fun h=>?_)|refine Gd.mk (fun h=>?_))<;>(try simp [etas,elDef,-List.getD_eq_getElem?_getD] at h)<;>conv=>whnf)|((first|refine Obl.mk (by first|omega|rfl|exact inK_byte _|(simp only [inK,Int.toNat_natCast,etas,elDef]<;>first|omega|grind)|grind [inK]) ?_|refine OblG.mk (by ((conv=>whnf);(repeat (first|refine Bx.mk ?_|(intro h;(try simp [etas,elDef,-List.getD_eq_getElem?_getD] at h);conv=>whnf)));(first|omega|rfl|exact inK_byte _|(simp only [inK,Int.toNat_natCast,etas,elDef]<;>first|omega|grind)|grind [inK]))) ?_|refine And.intro ?_ ?_)<;>conv=>whnf)|exact True.intro|(intro;conv=>whnf)
  · have : (l.all fun f => matchM n f) = false := allF_no (j := i) (by omega) (by grind)
    exact leafB hK this
  · exact ⟨i + 1, [], [], ⟨by omega, by grind⟩, by omega, by iterate 2 ((all_goals (conv=>whnf));(repeat' (first|exact trivial|rfl|(refine nilEq ?_;first|rfl|(simp only [*];done)|(simp [*];done)|grind)|apply And.intro|((first|apply intEq|apply boolEq|apply strEq|apply psEq|apply nilEq|apply arrEq);(try simp only [Int.toNat_natCast,etas,elDef]);first | done | omega | grind | (simp only [*]; done) | (simp [*]; done)))));(all_goals ((try simp only [Int.toNat_natCast,etas,elDef]);first | done | omega | grind | (simp only [*]; done) | (simp [*]; done))), (by exact sgOk_of (by rfl))⟩
  · have : (l.all fun f => matchM n f) = true := (allF_iff _ _).2 (by grind)
    exact leafB hK this
theorem s57 : (CtrOK Tryd.prog 57 (.pure F57) ∧ Callable Tryd.prog 57) := by
  refine pure_ok (E := E57) (mkE_cons s76 (mkE_nil tab_ok)) mix (O := O57) (F := F57) Tryd.func57 rfl (by rfl) (by kernel_rfl) (fun args o v h => ?_) (fun args o v h => ?_) (fun args o v h hbd hp K hK => ?_)
  · unfold F57 at h; split at h <;> cases h; first | trivial | (simp [v57, Scalar, Scalar2, Scalar1, stC, ndC, itC, chC, nwC])
  · unfold F57 at h; split at h <;> cases h; exact Nat.le_of_ble_eq_true rfl
  · unfold F57 at h; split at h
    case h_2 => cases h
    cases h
    exact a57 ⟨_, _, _, _, _⟩ _ (by exact hbd) trivial K hK
noncomputable def v25 (n : Nd) (l : List Flt) : AV := .bool (l.all fun f => matchM n f)
noncomputable def o25 (n : Nd) (l : List Flt) : Prop := validM n = true ∧ filtersM l = true
noncomputable def F25 : List AV → QR
  | [.st [.int .i64 n_0, .int .i64 n_1, .str n_2, .ps .str n_3, .ps .node n_4], .ps .flt l] => some (some (o25 ⟨n_0, n_1, n_2, n_3, n_4⟩ l), v25 ⟨n_0, n_1, n_2, n_3, n_4⟩ l)
  | _ => none
noncomputable def E25 : Ctx := mkE tab [(52, .pure F52)]
noncomputable def O25 : Nat → List DI := ordL [(4, [.q 0, .q 1, .q 2, .q 3, .q 4, .q 5, .q 6])]
theorem a25 (n : Nd) (l : List Flt) (hb : BdAs [.st (ndC n), .ps .flt l]) (ho : o25 n l) (K : AV → List AV → Prop) (hK : K (v25 n l) []) : abody E25 O25 .ps Tryd.f25 (Tryd.f25.body.getD .skip) [.st (ndC n), .ps .flt l] K := by
  simp only [BdAs, BdA, BdL, BdC, MX, ndC, shC, itC, stC, opC, chC, nwC, flC, rqC, rsC, enc, List.cons_append, List.nil_append, and_true, true_and] at hb
  unfold o25 at ho
  unfold v25 at hK
  obtain ⟨ho1, ho2⟩ := ho
  simp only [filtersM, Bool.and_eq_true] at ho2
  have hok := validM_ok ho1
  have hfo := fun j h => (allF_iff l filterM).1 ho2.2 j h
  have hfv := fun j (h : j < l.length) => (show okN (l.getD j default).value by have := hfo j h; simp only [filterM, Bool.and_eq_true] at this; exact validM_ok this.2)
  have hmm := fun j (h : j < l.length) => match_matches ho1 (hfo j h)
  conv => whnf
  refine aloop_intro Nat (fun k => k ≤ l.length ∧ ∀ j, j < k → matchM n (l.getD j default) = true) (fun k => l.length - k) (fun k => [(5, .int .i64 k)]) (fun k => []) [2] 0 [] [] ?_ ?_ (by exact sgOk_of (by rfl)) ?_
  · first | (simp; done) | (simp; assumption)
  · iterate 2 ((all_goals (conv=>whnf));(repeat' (first|exact trivial|rfl|(refine nilEq ?_;first|rfl|(simp only [*];done)|(simp [*];done)|grind)|apply And.intro|((first|apply intEq|apply boolEq|apply strEq|apply psEq|apply nilEq|apply arrEq);(try simp only [Int.toNat_natCast,etas,elDef]);first | done | omega | grind | (simp only [*]; done) | (simp [*]; done)))));(all_goals ((try simp only [Int.toNat_natCast,etas,elDef]);first | done | omega | grind | (simp only [*]; done) | (simp [*]; done)))
  rintro i ⟨hi, hj⟩
  conv => whnf
  have hfi := hfv i
  have hmi := hmm i
  repeat' first|((first|refine Cnd.mk (fun h=>?_) (fun h=>?_)|refine Gd.mk (fun h=>?_))<;>(try simp [etas,elDef,-List.getD_eq_getElem?_getD] at h)<;>conv=>whnf)|((first|refine Obl.mk (by first|omega|rfl|exact inK_byte _|(simp only [inK,Int.toNat_natCast,etas,elDef,o52]<;>first|omega|grind)|grind [inK,o52]) ?_|refine OblG.mk (by ((conv=>whnf);(repeat (first|refine Bx.mk ?_|(intro h;(try simp [etas,elDef,-List.getD_eq_getElem?_getD] at h);conv=>whnf)));(first|omega|rfl|exact inK_byte _|(simp only [inK,Int.toNat_natCast,etas,elDef,o52]<;>first|omega|grind)|grind [inK,o52]))) ?_|refine And.intro ?_ ?_)<;>conv=>whnf)|exact True.intro|(intro;conv=>whnf)
  · have : (l.all fun f => matchM n f) = false := allF_no (j := i) (by omega) (by grind)
    exact leafB hK this
  · exact ⟨i + 1, [], [], ⟨by omega, by grind⟩, by omega, by iterate 2 ((all_goals (conv=>whnf));(repeat' (first|exact trivial|rfl|(refine nilEq ?_;first|rfl|(simp only [*];done)|(simp [*];done)|grind)|apply And.intro|((first|apply intEq|apply boolEq|apply strEq|apply psEq|apply nilEq|apply arrEq);(try simp only [Int.toNat_natCast,etas,elDef]);first | done | omega | grind | (simp only [*]; done) | (simp [*]; done)))));(all_goals ((try simp only [Int.toNat_natCast,etas,elDef]);first | done | omega | grind | (simp only [*]; done) | (simp [*]; done))), (by exact sgOk_of (by rfl))⟩
  · have : (l.all fun f => matchM n f) = true := (allF_iff _ _).2 (by grind)
    exact leafB hK this
theorem s25 : (CtrOK Tryd.prog 25 (.pure F25) ∧ Callable Tryd.prog 25) := by
  refine pure_ok (E := E25) (mkE_cons s52 (mkE_nil tab_ok)) mix (O := O25) (F := F25) Tryd.func25 rfl (by rfl) (by kernel_rfl) (fun args o v h => ?_) (fun args o v h => ?_) (fun args o v h hbd hp K hK => ?_)
  · unfold F25 at h; split at h <;> cases h; first | trivial | (simp [v25, Scalar, Scalar2, Scalar1, stC, ndC, itC, chC, nwC])
  · unfold F25 at h; split at h <;> cases h; exact Nat.le_of_ble_eq_true rfl
  · unfold F25 at h; split at h
    case h_2 => cases h
    cases h
    exact a25 ⟨_, _, _, _, _⟩ _ (by exact hbd) (hp _ rfl) K hK
noncomputable def c28 (s : Sto) (l : List Flt) (K : AV → List AV → Prop) : Prop :=
    K (.st (stC (selM s l))) []
noncomputable def C28 : List AV → (AV → List AV → Prop) → Prop
  | [.st [.ps .item s_0, .int .i64 s_1], .ps .flt l], K => c28 ⟨s_0, s_1⟩ l K
  | _, _ => False
noncomputable def E28 : Ctx := mkE tab [(38, .pure F38), (56, .pure F56), (57, .pure F57), (58, .gen .ps C58)]
noncomputable def O28 : Nat → List DI := ordL [(8, [.q 0, .q 1, .q 2, .l 3 [1], .l 4 [1], .l 5 [], .q 6, .l 7 []])]
theorem a28 (s : Sto) (l : List Flt) (hb : BdAs [.st (stC s), .ps .flt l]) (K : AV → List AV → Prop) (h : c28 s l K) : abody E28 O28 .ps Tryd.f28 (Tryd.f28.body.getD .skip) [.st (stC s), .ps .flt l] K := by
  simp only [BdAs, BdA, BdL, BdC, MX, ndC, shC, itC, stC, opC, chC, nwC, flC, rqC, rsC, enc, List.cons_append, List.nil_append, and_true, true_and] at hb
  unfold c28 at h
  have hK := h
  conv => whnf
  repeat' first|((first|refine Cnd.mk (fun h=>?_) (fun h=>?_)|refine Gd.mk (fun h=>?_))<;>(try simp [etas,elDef,-List.getD_eq_getElem?_getD] at h)<;>conv=>whnf)|((first|refine Obl.mk (by first|omega|rfl|exact inK_byte _|(simp only [inK,Int.toNat_natCast,etas,elDef]<;>first|omega|grind)|grind [inK]) ?_|refine OblG.mk (by ((conv=>whnf);(repeat (first|refine Bx.mk ?_|(intro h;(try simp [etas,elDef,-List.getD_eq_getElem?_getD] at h);conv=>whnf)));(first|omega|rfl|exact inK_byte _|(simp only [inK,Int.toNat_natCast,etas,elDef]<;>first|omega|grind)|grind [inK]))) ?_|refine And.intro ?_ ?_)<;>conv=>whnf)|exact True.intro|(intro;conv=>whnf)
  · have e : selM s l = ⟨[], 0⟩ := by grind [selM]
    exact leafV hK (by rw [e]; rfl)
  have hv : storeM s = true ∧ filtersM l = true := by grind
  have e : selM s l = ⟨selL s l, s.clock⟩ := by grind [selM]
  rw [e] at hK
  have h10 := (storeM_clock hv.1).2.2
  refine aloop_intro (Nat × List It) (fun q => q.1 ≤ s.items.length ∧ q.2 = (s.items.take q.1).filter (selP l)) (fun q => s.items.length - q.1) (fun q => [(23, .int .i64 q.1)]) (fun q => (5, .box [nlV .item q.2, .int .i64 s.clock]) :: nlL .item q.2) [4] (0, []) [] [] ⟨Nat.zero_le _, rfl⟩ ?_ (by exact sgOk_of (by rfl)) ?_
  · iterate 2 ((all_goals (conv=>whnf));(repeat' (first|exact trivial|rfl|(refine nilEq ?_;first|rfl|(simp only [*];done)|(simp [*];done)|grind)|apply And.intro|((first|apply intEq|apply boolEq|apply strEq|apply psEq|apply nilEq|apply arrEq);(try simp only [Int.toNat_natCast,etas,elDef]);first | done | omega | grind | (simp only [*]; done) | (simp [*]; done)))));(all_goals ((try simp only [Int.toNat_natCast,etas,elDef]);first | done | omega | grind | (simp only [*]; done) | (simp [*]; done)))
  rintro ⟨i, _ | ⟨a, r⟩⟩ ⟨hi, hj⟩
  · dsimp only at hi hj
    have htk := fun h => sel_take (s := s) (l := l) (i := i) h
    have hsm := fun h => (storeM_sm hv.1).item (j := i) h
    rcases Nat.lt_or_ge i s.items.length with hil | hil
    · have hsm := hsm hil
      have htk := htk hil
      conv => whnf
      repeat' first|((first|refine Cnd.mk (fun h=>?_) (fun h=>?_)|refine Gd.mk (fun h=>?_))<;>(try simp [etas,elDef,-List.getD_eq_getElem?_getD] at h)<;>conv=>whnf)|((first|refine Obl.mk (by first|omega|rfl|exact inK_byte _|(simp only [inK,Int.toNat_natCast,etas,elDef]<;>first|omega|grind)|grind [inK]) ?_|refine OblG.mk (by ((conv=>whnf);(repeat (first|refine Bx.mk ?_|(intro h;(try simp [etas,elDef,-List.getD_eq_getElem?_getD] at h);conv=>whnf)));(first|omega|rfl|exact inK_byte _|(simp only [inK,Int.toNat_natCast,etas,elDef]<;>first|omega|grind)|grind [inK]))) ?_|refine And.intro ?_ ?_)<;>conv=>whnf)|exact True.intro|(intro;conv=>whnf)
      · have hp : selP l (s.items.getD i default) = true := by unfold selP; simpa using h
        exact ⟨(i + 1, [s.items.getD i default]), [(900, 36)], [], ⟨by simp only; omega, by simp only; rw [htk, ← hj, if_pos hp]; rfl⟩, by simp only; omega, by iterate 2 ((all_goals (conv=>whnf));(repeat' (first|exact trivial|rfl|(refine nilEq ?_;first|rfl|(simp only [*];done)|(simp [*];done)|grind)|apply And.intro|((first|apply intEq|apply boolEq|apply strEq|apply psEq|apply nilEq|apply arrEq);(try simp only [Int.toNat_natCast,etas,elDef]);first | done | omega | grind | (simp only [*]; done) | (simp [*]; done)))));(all_goals ((try simp only [Int.toNat_natCast,etas,elDef]);first | done | omega | grind | (simp only [*]; done) | (simp [*]; done))), (by exact sgOk_of (by rfl))⟩
      · have hp : selP l (s.items.getD i default) = false := by unfold selP; simpa using h
        exact ⟨(i + 1, []), [], [], ⟨by simp only; omega, by simp only; rw [htk, ← hj, if_neg (by rw [hp]; simp)]; rfl⟩, by simp only; omega, by iterate 2 ((all_goals (conv=>whnf));(repeat' (first|exact trivial|rfl|(refine nilEq ?_;first|rfl|(simp only [*];done)|(simp [*];done)|grind)|apply And.intro|((first|apply intEq|apply boolEq|apply strEq|apply psEq|apply nilEq|apply arrEq);(try simp only [Int.toNat_natCast,etas,elDef]);first | done | omega | grind | (simp only [*]; done) | (simp [*]; done)))));(all_goals ((try simp only [Int.toNat_natCast,etas,elDef]);first | done | omega | grind | (simp only [*]; done) | (simp [*]; done))), (by exact sgOk_of (by rfl))⟩
      · exfalso; omega
    · conv => whnf
      repeat' first|((first|refine Cnd.mk (fun h=>?_) (fun h=>?_)|refine Gd.mk (fun h=>?_))<;>(try simp [etas,elDef,-List.getD_eq_getElem?_getD] at h)<;>conv=>whnf)|((first|refine Obl.mk (by first|omega|rfl|exact inK_byte _|(simp only [inK,Int.toNat_natCast,etas,elDef]<;>first|omega|grind)|grind [inK]) ?_|refine OblG.mk (by ((conv=>whnf);(repeat (first|refine Bx.mk ?_|(intro h;(try simp [etas,elDef,-List.getD_eq_getElem?_getD] at h);conv=>whnf)));(first|omega|rfl|exact inK_byte _|(simp only [inK,Int.toNat_natCast,etas,elDef]<;>first|omega|grind)|grind [inK]))) ?_|refine And.intro ?_ ?_)<;>conv=>whnf)|exact True.intro|(intro;conv=>whnf)
      all_goals first | (exfalso; omega) | skip
      exact leafV hK (by simp only [stC, selL]; rw [List.take_of_length_le (by omega)] at hj; rw [← hj])
  · dsimp only at hi hj
    have htk := fun h => sel_take (s := s) (l := l) (i := i) h
    have hsm := fun h => (storeM_sm hv.1).item (j := i) h
    have hln := sel_len s l i
    rw [← hj] at hln
    have hl2 : (a :: r).length + [s.items.getD i default].length ≤ 1073741824 := by simp at hln ⊢; omega
    rcases Nat.lt_or_ge i s.items.length with hil | hil
    · have hsm := hsm hil
      have htk := htk hil
      conv => whnf
      repeat' first|((first|refine Cnd.mk (fun h=>?_) (fun h=>?_)|refine Gd.mk (fun h=>?_))<;>(try simp [etas,elDef,-List.getD_eq_getElem?_getD] at h)<;>conv=>whnf)|((first|refine Obl.mk (by first|omega|rfl|exact inK_byte _|(simp only [inK,Int.toNat_natCast,etas,elDef]<;>first|omega|grind)|grind [inK]) ?_|refine OblG.mk (by ((conv=>whnf);(repeat (first|refine Bx.mk ?_|(intro h;(try simp [etas,elDef,-List.getD_eq_getElem?_getD] at h);conv=>whnf)));(first|omega|rfl|exact inK_byte _|(simp only [inK,Int.toNat_natCast,etas,elDef]<;>first|omega|grind)|grind [inK]))) ?_|refine And.intro ?_ ?_)<;>conv=>whnf)|exact True.intro|(intro;conv=>whnf)
      · have hp : selP l (s.items.getD i default) = true := by unfold selP; simpa using h
        exact ⟨(i + 1, a :: r ++ [s.items.getD i default]), [(900, 36)], [], ⟨by simp only; omega, by simp only; rw [htk, ← hj, if_pos hp]⟩, by simp only; omega, by iterate 2 ((all_goals (conv=>whnf));(repeat' (first|exact trivial|rfl|(refine nilEq ?_;first|rfl|(simp only [*];done)|(simp [*];done)|grind)|apply And.intro|((first|apply intEq|apply boolEq|apply strEq|apply psEq|apply nilEq|apply arrEq);(try simp only [Int.toNat_natCast,etas,elDef]);first | omega | rfl))));(all_goals ((try simp only [Int.toNat_natCast,etas,elDef]);first | omega | rfl)), (by exact sgOk_of (by rfl))⟩
      · have hp : selP l (s.items.getD i default) = false := by unfold selP; simpa using h
        exact ⟨(i + 1, a :: r), [], [], ⟨by simp only; omega, by simp only; rw [htk, ← hj, if_neg (by rw [hp]; simp), List.append_nil]⟩, by simp only; omega, by iterate 2 ((all_goals (conv=>whnf));(repeat' (first|exact trivial|rfl|(refine nilEq ?_;first|rfl|(simp only [*];done)|(simp [*];done)|grind)|apply And.intro|((first|apply intEq|apply boolEq|apply strEq|apply psEq|apply nilEq|apply arrEq);(try simp only [Int.toNat_natCast,etas,elDef]);first | done | omega | grind | (simp only [*]; done) | (simp [*]; done)))));(all_goals ((try simp only [Int.toNat_natCast,etas,elDef]);first | done | omega | grind | (simp only [*]; done) | (simp [*]; done))), (by exact sgOk_of (by rfl))⟩
      · exfalso; omega
    · conv => whnf
      repeat' first|((first|refine Cnd.mk (fun h=>?_) (fun h=>?_)|refine Gd.mk (fun h=>?_))<;>(try simp [etas,elDef,-List.getD_eq_getElem?_getD] at h)<;>conv=>whnf)|((first|refine Obl.mk (by first|omega|rfl|exact inK_byte _|(simp only [inK,Int.toNat_natCast,etas,elDef]<;>first|omega|grind)|grind [inK]) ?_|refine OblG.mk (by ((conv=>whnf);(repeat (first|refine Bx.mk ?_|(intro h;(try simp [etas,elDef,-List.getD_eq_getElem?_getD] at h);conv=>whnf)));(first|omega|rfl|exact inK_byte _|(simp only [inK,Int.toNat_natCast,etas,elDef]<;>first|omega|grind)|grind [inK]))) ?_|refine And.intro ?_ ?_)<;>conv=>whnf)|exact True.intro|(intro;conv=>whnf)
      all_goals first | (exfalso; omega) | skip
      exact leafV hK (by simp only [stC, selL]; rw [List.take_of_length_le (by omega)] at hj; rw [← hj])
theorem s28 : (CtrOK Tryd.prog 28 (.gen .ps C28) ∧ Callable Tryd.prog 28) := by
  refine gen_ok (E := E28) (mkE_cons s38 (mkE_cons s56 (mkE_cons s57 (mkE_cons s58 (mkE_nil tab_ok))))) mix (O := O28) (C := C28) (own := .ps) Tryd.func28 rfl (by rfl) (by kernel_rfl) (fun args K h hbd => ?_)
  unfold C28 at h; split at h
  case h_2 => exact h.elim
  exact ⟨Nat.le_of_ble_eq_true rfl, a28 ⟨_, _⟩ _ (by exact hbd) _ h⟩
noncomputable def c7 (s : Sto) (l : List Flt) (K : AV → List AV → Prop) : Prop :=
    K (.ps .str (namesI (selM s l).items)) []
noncomputable def C7 : List AV → (AV → List AV → Prop) → Prop
  | [.st [.ps .item s_0, .int .i64 s_1], .ps .flt l], K => c7 ⟨s_0, s_1⟩ l K
  | _, _ => False
noncomputable def E7 : Ctx := mkE tab [(23, .pure F23), (24, .pure F24), (25, .pure F25)]
noncomputable def O7 : Nat → List DI := ordL []
theorem a7 (s : Sto) (l : List Flt) (hb : BdAs [.st (stC s), .ps .flt l]) (K : AV → List AV → Prop) (h : c7 s l K) : abody E7 O7 .ps Tryd.f7 (Tryd.f7.body.getD .skip) [.st (stC s), .ps .flt l] K := by
  simp only [BdAs, BdA, BdL, BdC, MX, ndC, shC, itC, stC, opC, chC, nwC, flC, rqC, rsC, enc, List.cons_append, List.nil_append, and_true, true_and] at hb
  unfold c7 at h
  have hK := h
  conv => whnf
  repeat' first|((first|refine Cnd.mk (fun h=>?_) (fun h=>?_)|refine Gd.mk (fun h=>?_))<;>(try simp [etas,elDef,-List.getD_eq_getElem?_getD] at h)<;>conv=>whnf)|((first|refine Obl.mk (by first|omega|rfl|exact inK_byte _|(simp only [inK,Int.toNat_natCast,etas,elDef,o25]<;>first|omega|grind)|grind [inK,o25]) ?_|refine OblG.mk (by ((conv=>whnf);(repeat (first|refine Bx.mk ?_|(intro h;(try simp [etas,elDef,-List.getD_eq_getElem?_getD] at h);conv=>whnf)));(first|omega|rfl|exact inK_byte _|(simp only [inK,Int.toNat_natCast,etas,elDef,o25]<;>first|omega|grind)|grind [inK,o25]))) ?_|refine And.intro ?_ ?_)<;>conv=>whnf)|exact True.intro|(intro;conv=>whnf)
  · have e : selM s l = ⟨[], 0⟩ := by grind [selM]
    exact leafV hK (by rw [e]; rfl)
  have hv : storeM s = true ∧ filtersM l = true := by grind
  have e : selM s l = ⟨selL s l, s.clock⟩ := by grind [selM]
  rw [e] at hK
  have h10 := (storeM_clock hv.1).2.2
  refine aloop_intro Nat (fun k => k ≤ s.items.length ∧ True) (fun k => s.items.length - k) (fun k => [(6, .int .i64 k), (5, .ls 900)]) (fun k => [(900, .arr .str (namesI ((s.items.take k).filter (selP l))))]) [2] 0 [(900, 7)] [] ?_ ?_ (by exact sgOk_of (by rfl)) ?_
  · first | (simp; done) | (simp; assumption)
  · iterate 2 ((all_goals (conv=>whnf));(repeat' (first|exact trivial|rfl|(refine nilEq ?_;first|rfl|(simp only [*];done)|(simp [*];done)|grind)|apply And.intro|((first|apply intEq|apply boolEq|apply strEq|apply psEq|apply nilEq|apply arrEq);(try simp only [Int.toNat_natCast,etas,elDef]);first | done | omega | grind | (simp only [*]; done) | (simp [*]; done)))));(all_goals ((try simp only [Int.toNat_natCast,etas,elDef]);first | done | omega | grind | (simp only [*]; done) | (simp [*]; done)))
  rintro i ⟨hi, hj⟩
  conv => whnf
  have hln := sel_len s l i
  have hl2 : (namesI ((s.items.take i).filter (selP l))).length + [(s.items.getD i default).name].length ≤ 1073741824 := by simp [namesI]; omega
  rcases Nat.lt_or_ge i s.items.length with hil | hil
  · have hvn := storeM_node hv.1 hil
    have htk := sel_take (s := s) (l := l) hil
    conv => whnf
    repeat' first|((first|refine Cnd.mk (fun h=>?_) (fun h=>?_)|refine Gd.mk (fun h=>?_))<;>(try simp [etas,elDef,-List.getD_eq_getElem?_getD] at h)<;>conv=>whnf)|((first|refine Obl.mk (by first|omega|rfl|exact inK_byte _|(simp only [inK,Int.toNat_natCast,etas,elDef,o25]<;>first|omega|grind)|grind [inK,o25]) ?_|refine OblG.mk (by ((conv=>whnf);(repeat (first|refine Bx.mk ?_|(intro h;(try simp [etas,elDef,-List.getD_eq_getElem?_getD] at h);conv=>whnf)));(first|omega|rfl|exact inK_byte _|(simp only [inK,Int.toNat_natCast,etas,elDef,o25]<;>first|omega|grind)|grind [inK,o25]))) ?_|refine And.intro ?_ ?_)<;>conv=>whnf)|exact True.intro|(intro;conv=>whnf)
    · have hp : selP l (s.items.getD i default) = true := by unfold selP; simpa using h
      have e2 : namesI ((s.items.take (i + 1)).filter (selP l)) = namesI ((s.items.take i).filter (selP l)) ++ [(s.items.getD i default).name] := by rw [htk, if_pos hp]; simp [namesI]
      exact ⟨i + 1, [(900, 39)], [], ⟨by omega, trivial⟩, by omega, by iterate 2 ((all_goals (conv=>whnf));(repeat' (first|exact trivial|rfl|(refine nilEq ?_;first|rfl|(simp only [*];done)|(simp [*];done)|grind)|apply And.intro|((first|apply intEq|apply boolEq|apply strEq|apply psEq|apply nilEq|apply arrEq);(try simp only [Int.toNat_natCast,etas,elDef]);first | omega | exact e2.symm))));(all_goals ((try simp only [Int.toNat_natCast,etas,elDef]);first | omega | exact e2.symm)), (by exact sgOk_of (by rfl))⟩
    · have hp : selP l (s.items.getD i default) = false := by unfold selP; simpa using h
      have e2 : namesI ((s.items.take (i + 1)).filter (selP l)) = namesI ((s.items.take i).filter (selP l)) := by rw [htk, if_neg (by rw [hp]; simp), List.append_nil]
      exact ⟨i + 1, [], [], ⟨by omega, trivial⟩, by omega, by iterate 2 ((all_goals (conv=>whnf));(repeat' (first|exact trivial|rfl|(refine nilEq ?_;first|rfl|(simp only [*];done)|(simp [*];done)|grind)|apply And.intro|((first|apply intEq|apply boolEq|apply strEq|apply psEq|apply nilEq|apply arrEq);(try simp only [Int.toNat_natCast,etas,elDef]);first | omega | exact e2.symm))));(all_goals ((try simp only [Int.toNat_natCast,etas,elDef]);first | omega | exact e2.symm)), (by exact sgOk_of (by rfl))⟩
    · exfalso; omega
  · conv => whnf
    repeat' first|((first|refine Cnd.mk (fun h=>?_) (fun h=>?_)|refine Gd.mk (fun h=>?_))<;>(try simp [etas,elDef,-List.getD_eq_getElem?_getD] at h)<;>conv=>whnf)|((first|refine Obl.mk (by first|omega|rfl|exact inK_byte _|(simp only [inK,Int.toNat_natCast,etas,elDef,o25]<;>first|omega|grind)|grind [inK,o25]) ?_|refine OblG.mk (by ((conv=>whnf);(repeat (first|refine Bx.mk ?_|(intro h;(try simp [etas,elDef,-List.getD_eq_getElem?_getD] at h);conv=>whnf)));(first|omega|rfl|exact inK_byte _|(simp only [inK,Int.toNat_natCast,etas,elDef,o25]<;>first|omega|grind)|grind [inK,o25]))) ?_|refine And.intro ?_ ?_)<;>conv=>whnf)|exact True.intro|(intro;conv=>whnf)
    all_goals first | (exfalso; omega) | skip
    exact leafV hK (by simp only [selL]; rw [List.take_of_length_le (by omega)])
theorem s7 : (CtrOK Tryd.prog 7 (.gen .ps C7) ∧ Callable Tryd.prog 7) := by
  refine gen_ok (E := E7) (mkE_cons s23 (mkE_cons s24 (mkE_cons s25 (mkE_nil tab_ok)))) mix (O := O7) (C := C7) (own := .ps) Tryd.func7 rfl (by rfl) (by kernel_rfl) (fun args K h hbd => ?_)
  unfold C7 at h; split at h
  case h_2 => exact h.elim
  exact ⟨Nat.le_of_ble_eq_true rfl, a7 ⟨_, _⟩ _ (by exact hbd) _ h⟩
end Go.Rs

