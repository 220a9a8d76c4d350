import Derived.Test.YtoailaifflbomaaBase
import Derived.Test.YtoailaifflbomaaMA
set_option linter.all false
set_option linter.unusedSimpArgs false
set_option linter.unusedVariables false
namespace Go.Rs
open Go.Proofs
set_option maxRecDepth 100000
noncomputable def v51 (n : Int) (a : Int) (b : Int) : AV := .bool (decide (a ≤ n) && decide (n ≤ b))
noncomputable def o51 (n : Int) (a : Int) (b : Int) : Prop := True
noncomputable def F51 : List AV → QR
  | [.int .i64 n, .int .i64 a, .int .i64 b] => some (none, v51 n a b)
  | _ => none
noncomputable def E51 : Ctx := mkE tab []
noncomputable def O51 : Nat → List DI := ordL []
theorem a51 (n : Int) (a : Int) (b : Int) (hb : BdAs [.int .i64 n, .int .i64 a, .int .i64 b]) (ho : o51 n a b) (K : AV → List AV → Prop) (hK : K (v51 n a b) []) : abody E51 O51 .ps Try.f51 (Try.f51.body.getD .skip) [.int .i64 n, .int .i64 a, .int .i64 b] K := by
  simp only [BdAs, BdA, BdL, BdC, MX, ndC, shC, itC, stC, opC, chC, nwC, flC, rqC, rsC, enc, List.cons_append, List.nil_append, and_true, true_and] at hb
  unfold v51 at hK
  conv => whnf
  exact hK
theorem s51 : (CtrOK Try.prog 51 (.pure F51) ∧ Callable Try.prog 51) := by
  refine pure_ok (E := E51) (mkE_nil tab_ok) mix (O := O51) (F := F51) Try.func51 rfl (by rfl) (by kernel_rfl) (fun args o v h => ?_) (fun args o v h => ?_) (fun args o v h hbd hp K hK => ?_)
  · unfold F51 at h; split at h <;> cases h; first | trivial | (simp [v51, Scalar, Scalar2, Scalar1, stC, ndC, itC, chC, nwC])
  · unfold F51 at h; split at h <;> cases h; exact Nat.le_of_ble_eq_true rfl
  · unfold F51 at h; split at h
    case h_2 => cases h
    cases h
    exact a51 _ _ _ (by exact hbd) trivial K hK
noncomputable def v153 (b : Bool) : AV := .int .i64 (if b then 1 else 0)
noncomputable def o153 (b : Bool) : Prop := True
noncomputable def F153 : List AV → QR
  | [.bool b] => some (none, v153 b)
  | _ => none
noncomputable def E153 : Ctx := mkE tab []
noncomputable def O153 : Nat → List DI := ordL []
theorem a153 (b : Bool) (hb : BdAs [.bool b]) (ho : o153 b) (K : AV → List AV → Prop) (hK : K (v153 b) []) : abody E153 O153 .ps Try.f153 (Try.f153.body.getD .skip) [.bool b] K := by
  simp only [BdAs, BdA, BdL, BdC, MX, ndC, shC, itC, stC, opC, chC, nwC, flC, rqC, rsC, enc, List.cons_append, List.nil_append, and_true, true_and] at hb
  unfold v153 at hK
  conv => whnf
  repeat' first|((first|refine Cnd.mk (fun h=>?_) (fun h=>?_)|refine Gd.mk (fun h=>?_))<;>(try simp [etas,elDef,-List.getD_eq_getElem?_getD] at h)<;>conv=>whnf)|((first|refine Obl.mk (by first|omega|rfl|exact inK_byte _|(simp only [inK,Int.toNat_natCast,etas,elDef]<;>first|omega|grind)|grind [inK]) ?_|refine OblG.mk (by ((conv=>whnf);(repeat (first|refine Bx.mk ?_|(intro h;(try simp [etas,elDef,-List.getD_eq_getElem?_getD] at h);conv=>whnf)));(first|omega|rfl|exact inK_byte _|(simp only [inK,Int.toNat_natCast,etas,elDef]<;>first|omega|grind)|grind [inK]))) ?_|refine And.intro ?_ ?_)<;>conv=>whnf)|exact True.intro|(intro;conv=>whnf)
  all_goals exact leafI hK (by grind)
theorem s153 : (CtrOK Try.prog 153 (.pure F153) ∧ Callable Try.prog 153) := by
  refine pure_ok (E := E153) (mkE_nil tab_ok) mix (O := O153) (F := F153) Try.func153 rfl (by rfl) (by kernel_rfl) (fun args o v h => ?_) (fun args o v h => ?_) (fun args o v h hbd hp K hK => ?_)
  · unfold F153 at h; split at h <;> cases h; first | trivial | (simp [v153, Scalar, Scalar2, Scalar1, stC, ndC, itC, chC, nwC])
  · unfold F153 at h; split at h <;> cases h; exact Nat.le_of_ble_eq_true rfl
  · unfold F153 at h; split at h
    case h_2 => cases h
    cases h
    exact a153 _ (by exact hbd) trivial K hK
noncomputable def v109 (s : Bs) : AV := .bool (txtM s)
noncomputable def o109 (s : Bs) : Prop := True
noncomputable def F109 : List AV → QR
  | [.str s] => some (none, v109 s)
  | _ => none
noncomputable def E109 : Ctx := mkE tab [(51, .pure F51)]
noncomputable def O109 : Nat → List DI := ordL []
theorem a109 (s : Bs) (hb : BdAs [.str s]) (ho : o109 s) (K : AV → List AV → Prop) (hK : K (v109 s) []) : abody E109 O109 .ps Try.f109 (Try.f109.body.getD .skip) [.str s] K := by
  simp only [BdAs, BdA, BdL, BdC, MX, ndC, shC, itC, stC, opC, chC, nwC, flC, rqC, rsC, enc, List.cons_append, List.nil_append, and_true, true_and] at hb
  unfold v109 at hK
  conv => whnf
  refine aloop_intro Nat (fun k => k ≤ s.length ∧ ∀ j, j < k → chrOk (s.getD j 0) = true) (fun k => s.length - k) (fun k => [(3, .int .i64 k)]) (fun _ => []) [] 0 [] [] ⟨by simp, by simp⟩ ?_ (by exact sgOk_of (by rfl)) ?_
  · iterate 2 ((all_goals (conv=>whnf));(repeat' (first|exact trivial|rfl|(refine nilEq ?_;first|rfl|(simp only [*];done)|(simp [*];done)|grind)|apply And.intro|((first|apply intEq|apply boolEq|apply strEq|apply psEq|apply nilEq|apply arrEq);(try simp only [Int.toNat_natCast,etas,elDef]);first | done | omega | grind | (simp only [*]; done) | (simp [*]; done)))));(all_goals ((try simp only [Int.toNat_natCast,etas,elDef]);first | done | omega | grind | (simp only [*]; done) | (simp [*]; done)))
  rintro k ⟨hk, hj⟩
  conv => whnf
  repeat' first|((first|refine Cnd.mk (fun h=>?_) (fun h=>?_)|refine Gd.mk (fun h=>?_))<;>(try simp [etas,elDef,-List.getD_eq_getElem?_getD] at h)<;>conv=>whnf)|((first|refine Obl.mk (by first|omega|rfl|exact inK_byte _|(simp only [inK,Int.toNat_natCast,etas,elDef]<;>first|omega|grind)|grind [inK]) ?_|refine OblG.mk (by ((conv=>whnf);(repeat (first|refine Bx.mk ?_|(intro h;(try simp [etas,elDef,-List.getD_eq_getElem?_getD] at h);conv=>whnf)));(first|omega|rfl|exact inK_byte _|(simp only [inK,Int.toNat_natCast,etas,elDef]<;>first|omega|grind)|grind [inK]))) ?_|refine And.intro ?_ ?_)<;>conv=>whnf)|exact True.intro|(intro;conv=>whnf)
  · have : chrOk (s.getD k 0) = false := by grind [chrOk]
    exact leafB hK (by grind [txtM, all_no])
  · refine ⟨k + 1, [], [], ⟨by omega, fun j hjl => ?_⟩, by omega, ?_, (by exact sgOk_of (by rfl))⟩
    · have : chrOk (s.getD k 0) = true := by grind [chrOk]
      grind
    · iterate 2 ((all_goals (conv=>whnf));(repeat' (first|exact trivial|rfl|(refine nilEq ?_;first|rfl|(simp only [*];done)|(simp [*];done)|grind)|apply And.intro|((first|apply intEq|apply boolEq|apply strEq|apply psEq|apply nilEq|apply arrEq);(try simp only [Int.toNat_natCast,etas,elDef]);first | done | omega | grind | (simp only [*]; done) | (simp [*]; done)))));(all_goals ((try simp only [Int.toNat_natCast,etas,elDef]);first | done | omega | grind | (simp only [*]; done) | (simp [*]; done)))
  · have : s.all chrOk = true := (all_iff s _).2 (by grind)
    exact leafB hK (by grind [txtM])
theorem s109 : (CtrOK Try.prog 109 (.pure F109) ∧ Callable Try.prog 109) := by
  refine pure_ok (E := E109) (mkE_cons s51 (mkE_nil tab_ok)) mix (O := O109) (F := F109) Try.func109 rfl (by rfl) (by kernel_rfl) (fun args o v h => ?_) (fun args o v h => ?_) (fun args o v h hbd hp K hK => ?_)
  · unfold F109 at h; split at h <;> cases h; first | trivial | (simp [v109, Scalar, Scalar2, Scalar1, stC, ndC, itC, chC, nwC])
  · unfold F109 at h; split at h <;> cases h; exact Nat.le_of_ble_eq_true rfl
  · unfold F109 at h; split at h
    case h_2 => cases h
    cases h
    exact a109 _ (by exact hbd) trivial K hK
noncomputable def v132 (s : Bs) : AV := .bool (txtM s)
noncomputable def o132 (s : Bs) : Prop := True
noncomputable def F132 : List AV → QR
  | [.str s] => some (none, v132 s)
  | _ => none
noncomputable def E132 : Ctx := mkE tab []
noncomputable def O132 : Nat → List DI := ordL []
theorem a132 (s : Bs) (hb : BdAs [.str s]) (ho : o132 s) (K : AV → List AV → Prop) (hK : K (v132 s) []) : abody E132 O132 .ps Try.f132 (Try.f132.body.getD .skip) [.str s] K := by
  simp only [BdAs, BdA, BdL, BdC, MX, ndC, shC, itC, stC, opC, chC, nwC, flC, rqC, rsC, enc, List.cons_append, List.nil_append, and_true, true_and] at hb
  unfold v132 at hK
  conv => whnf
  repeat' first|((first|refine Cnd.mk (fun h=>?_) (fun h=>?_)|refine Gd.mk (fun h=>?_))<;>(try simp [etas,elDef,-List.getD_eq_getElem?_getD] at h)<;>conv=>whnf)|((first|refine Obl.mk (by first|omega|rfl|exact inK_byte _|(simp only [inK,Int.toNat_natCast,etas,elDef]<;>first|omega|grind)|grind [inK]) ?_|refine OblG.mk (by ((conv=>whnf);(repeat (first|refine Bx.mk ?_|(intro h;(try simp [etas,elDef,-List.getD_eq_getElem?_getD] at h);conv=>whnf)));(first|omega|rfl|exact inK_byte _|(simp only [inK,Int.toNat_natCast,etas,elDef]<;>first|omega|grind)|grind [inK]))) ?_|refine And.intro ?_ ?_)<;>conv=>whnf)|exact True.intro|(intro;conv=>whnf)
  · exact leafB hK (by grind [txtM])
  refine aloop_intro Nat (fun k => k ≤ s.length ∧ ∀ j, j < k → chrOk (s.getD j 0) = true) (fun k => s.length - k) (fun k => [(3, .int .i64 k)]) (fun _ => []) [] 0 [] [] ⟨by simp, by simp⟩ ?_ (by exact sgOk_of (by rfl)) ?_
  · iterate 2 ((all_goals (conv=>whnf));(repeat' (first|exact trivial|rfl|(refine nilEq ?_;first|rfl|(simp only [*];done)|(simp [*];done)|grind)|apply And.intro|((first|apply intEq|apply boolEq|apply strEq|apply psEq|apply nilEq|apply arrEq);(try simp only [Int.toNat_natCast,etas,elDef]);first | done | omega | grind | (simp only [*]; done) | (simp [*]; done)))));(all_goals ((try simp only [Int.toNat_natCast,etas,elDef]);first | done | omega | grind | (simp only [*]; done) | (simp [*]; done)))
  rintro k ⟨hk, hj⟩
  conv => whnf
  repeat' first|((first|refine Cnd.mk (fun h=>?_) (fun h=>?_)|refine Gd.mk (fun h=>?_))<;>(try simp [etas,elDef,-List.getD_eq_getElem?_getD] at h)<;>conv=>whnf)|((first|refine Obl.mk (by first|omega|rfl|exact inK_byte _|(simp only [inK,Int.toNat_natCast,etas,elDef]<;>first|omega|grind)|grind [inK]) ?_|refine OblG.mk (by ((conv=>whnf);(repeat (first|refine Bx.mk ?_|(intro h;(try simp [etas,elDef,-List.getD_eq_getElem?_getD] at h);conv=>whnf)));(first|omega|rfl|exact inK_byte _|(simp only [inK,Int.toNat_natCast,etas,elDef]<;>first|omega|grind)|grind [inK]))) ?_|refine And.intro ?_ ?_)<;>conv=>whnf)|exact True.intro|(intro;conv=>whnf)
  · have : chrOk (s.getD k 0) = false := by grind [chrOk]
    exact leafB hK (by grind [txtM, all_no])
  · refine ⟨k + 1, [], [], ⟨by omega, fun j hjl => ?_⟩, by omega, ?_, (by exact sgOk_of (by rfl))⟩
    · have : chrOk (s.getD k 0) = true := by grind [chrOk]
      grind
    · iterate 2 ((all_goals (conv=>whnf));(repeat' (first|exact trivial|rfl|(refine nilEq ?_;first|rfl|(simp only [*];done)|(simp [*];done)|grind)|apply And.intro|((first|apply intEq|apply boolEq|apply strEq|apply psEq|apply nilEq|apply arrEq);(try simp only [Int.toNat_natCast,etas,elDef]);first | done | omega | grind | (simp only [*]; done) | (simp [*]; done)))));(all_goals ((try simp only [Int.toNat_natCast,etas,elDef]);first | done | omega | grind | (simp only [*]; done) | (simp [*]; done)))
  · have : s.all chrOk = true := (all_iff s _).2 (by grind)
    exact leafB hK (by grind [txtM])
theorem s132 : (CtrOK Try.prog 132 (.pure F132) ∧ Callable Try.prog 132) := by
  refine pure_ok (E := E132) (mkE_nil tab_ok) mix (O := O132) (F := F132) Try.func132 rfl (by rfl) (by kernel_rfl) (fun args o v h => ?_) (fun args o v h => ?_) (fun args o v h hbd hp K hK => ?_)
  · unfold F132 at h; split at h <;> cases h; first | trivial | (simp [v132, Scalar, Scalar2, Scalar1, stC, ndC, itC, chC, nwC])
  · unfold F132 at h; split at h <;> cases h; exact Nat.le_of_ble_eq_true rfl
  · unfold F132 at h; split at h
    case h_2 => cases h
    cases h
    exact a132 _ (by exact hbd) trivial K hK
noncomputable def v133 (l : List Bs) : AV := .bool (areNamesM l)
noncomputable def o133 (l : List Bs) : Prop := True
noncomputable def F133 : List AV → QR
  | [.ps .str l] => some (none, v133 l)
  | _ => none
noncomputable def E133 : Ctx := mkE tab [(132, .pure F132)]
noncomputable def O133 : Nat → List DI := ordL []
theorem a133 (l : List Bs) (hb : BdAs [.ps .str l]) (ho : o133 l) (K : AV → List AV → Prop) (hK : K (v133 l) []) : abody E133 O133 .ps Try.f133 (Try.f133.body.getD .skip) [.ps .str l] K := by
  simp only [BdAs, BdA, BdL, BdC, MX, ndC, shC, itC, stC, opC, chC, nwC, flC, rqC, rsC, enc, List.cons_append, List.nil_append, and_true, true_and] at hb
  unfold v133 at hK
  conv => whnf
  repeat' first|((first|refine Cnd.mk (fun h=>?_) (fun h=>?_)|refine Gd.mk (fun h=>?_))<;>(try simp [etas,elDef,-List.getD_eq_getElem?_getD] at h)<;>conv=>whnf)|((first|refine Obl.mk (by first|omega|rfl|exact inK_byte _|(simp only [inK,Int.toNat_natCast,etas,elDef]<;>first|omega|grind)|grind [inK]) ?_|refine OblG.mk (by ((conv=>whnf);(repeat (first|refine Bx.mk ?_|(intro h;(try simp [etas,elDef,-List.getD_eq_getElem?_getD] at h);conv=>whnf)));(first|omega|rfl|exact inK_byte _|(simp only [inK,Int.toNat_natCast,etas,elDef]<;>first|omega|grind)|grind [inK]))) ?_|refine And.intro ?_ ?_)<;>conv=>whnf)|exact True.intro|(intro;conv=>whnf)
  · exact leafB hK (by grind [areNamesM])
  refine aloop_intro Nat (fun k => k ≤ l.length ∧ ∀ j, j < k → nameOk l j = true) (fun k => l.length - k) (fun k => [(10, .int .i64 k)]) (fun _ => []) [] 0 [] [] ⟨by simp, by simp⟩ ?_ (by exact sgOk_of (by rfl)) ?_
  · iterate 2 ((all_goals (conv=>whnf));(repeat' (first|exact trivial|rfl|(refine nilEq ?_;first|rfl|(simp only [*];done)|(simp [*];done)|grind)|apply And.intro|((first|apply intEq|apply boolEq|apply strEq|apply psEq|apply nilEq|apply arrEq);(try simp only [Int.toNat_natCast,etas,elDef]);first | done | omega | grind | (simp only [*]; done) | (simp [*]; done)))));(all_goals ((try simp only [Int.toNat_natCast,etas,elDef]);first | done | omega | grind | (simp only [*]; done) | (simp [*]; done)))
  rintro k ⟨hk, hj⟩
  conv => whnf
  repeat' first|((first|refine Cnd.mk (fun h=>?_) (fun h=>?_)|refine Gd.mk (fun h=>?_))<;>(try simp [etas,elDef,-List.getD_eq_getElem?_getD] at h)<;>conv=>whnf)|((first|refine Obl.mk (by first|omega|rfl|exact inK_byte _|(simp only [inK,Int.toNat_natCast,etas,elDef]<;>first|omega|grind)|grind [inK]) ?_|refine OblG.mk (by ((conv=>whnf);(repeat (first|refine Bx.mk ?_|(intro h;(try simp [etas,elDef,-List.getD_eq_getElem?_getD] at h);conv=>whnf)));(first|omega|rfl|exact inK_byte _|(simp only [inK,Int.toNat_natCast,etas,elDef]<;>first|omega|grind)|grind [inK]))) ?_|refine And.intro ?_ ?_)<;>conv=>whnf)|exact True.intro|(intro;conv=>whnf)
  · have : nameOk l k = false := by grind [nameOk]
    exact leafB hK (by grind [areNamesM, namesM_no])
  · refine ⟨k + 1, [], [], ⟨by omega, fun j hjl => ?_⟩, by omega, ?_, (by exact sgOk_of (by rfl))⟩
    · have : nameOk l k = true := by grind [nameOk]
      grind
    · iterate 2 ((all_goals (conv=>whnf));(repeat' (first|exact trivial|rfl|(refine nilEq ?_;first|rfl|(simp only [*];done)|(simp [*];done)|grind)|apply And.intro|((first|apply intEq|apply boolEq|apply strEq|apply psEq|apply nilEq|apply arrEq);(try simp only [Int.toNat_natCast,etas,elDef]);first | done | omega | grind | (simp only [*]; done) | (simp [*]; done)))));(all_goals ((try simp only [Int.toNat_natCast,etas,elDef]);first | done | omega | grind | (simp only [*]; done) | (simp [*]; done)))
  · have : namesM l = true := (namesM_iff l).2 (by grind)
    exact leafB hK (by grind [areNamesM])
theorem s133 : (CtrOK Try.prog 133 (.pure F133) ∧ Callable Try.prog 133) := by
  refine pure_ok (E := E133) (mkE_cons s132 (mkE_nil tab_ok)) mix (O := O133) (F := F133) Try.func133 rfl (by rfl) (by kernel_rfl) (fun args o v h => ?_) (fun args o v h => ?_) (fun args o v h hbd hp K hK => ?_)
  · unfold F133 at h; split at h <;> cases h; first | trivial | (simp [v133, Scalar, Scalar2, Scalar1, stC, ndC, itC, chC, nwC])
  · unfold F133 at h; split at h <;> cases h; exact Nat.le_of_ble_eq_true rfl
  · unfold F133 at h; split at h
    case h_2 => cases h
    cases h
    exact a133 _ (by exact hbd) trivial K hK
noncomputable def v111 (l : List Bs) : AV := .bool (namesM l)
noncomputable def o111 (l : List Bs) : Prop := True
noncomputable def F111 : List AV → QR
  | [.ps .str l] => some (none, v111 l)
  | _ => none
noncomputable def E111 : Ctx := mkE tab [(109, .pure F109)]
noncomputable def O111 : Nat → List DI := ordL [(4, [.q 0, .q 1, .q 2, .q 3, .q 4, .q 5, .q 6, .q 7, .q 8, .q 9, .q 10, .q 11, .q 12, .q 13, .q 14, .q 15, .q 16, .q 17, .q 18, .q 19, .q 20, .q 21])]
theorem a111 (l : List Bs) (hb : BdAs [.ps .str l]) (ho : o111 l) (K : AV → List AV → Prop) (hK : K (v111 l) []) : abody E111 O111 .ps Try.f111 (Try.f111.body.getD .skip) [.ps .str l] K := by
  simp only [BdAs, BdA, BdL, BdC, MX, ndC, shC, itC, stC, opC, chC, nwC, flC, rqC, rsC, enc, List.cons_append, List.nil_append, and_true, true_and] at hb
  unfold v111 at hK
  conv => whnf
  refine aloop_intro Nat (fun k => k ≤ l.length ∧ ∀ j, j < k → nameOk l j = true) (fun k => l.length - k) (fun k => [(3, .int .i64 k)]) (fun _ => []) [] 0 [] [] ⟨by simp, by simp⟩ ?_ (by exact sgOk_of (by rfl)) ?_
  · iterate 2 ((all_goals (conv=>whnf));(repeat' (first|exact trivial|rfl|(refine nilEq ?_;first|rfl|(simp only [*];done)|(simp [*];done)|grind)|apply And.intro|((first|apply intEq|apply boolEq|apply strEq|apply psEq|apply nilEq|apply arrEq);(try simp only [Int.toNat_natCast,etas,elDef]);first | done | omega | grind | (simp only [*]; done) | (simp [*]; done)))));(all_goals ((try simp only [Int.toNat_natCast,etas,elDef]);first | done | omega | grind | (simp only [*]; done) | (simp [*]; done)))
  rintro k ⟨hk, hj⟩
  conv => whnf
  repeat' first|((first|refine Cnd.mk (fun h=>?_) (fun h=>?_)|refine Gd.mk (fun h=>?_))<;>(try simp [etas,elDef,-List.getD_eq_getElem?_getD] at h)<;>conv=>whnf)|((first|refine Obl.mk (by first|omega|rfl|exact inK_byte _|(simp only [inK,Int.toNat_natCast,etas,elDef]<;>first|omega|grind)|grind [inK]) ?_|refine OblG.mk (by ((conv=>whnf);(repeat (first|refine Bx.mk ?_|(intro h;(try simp [etas,elDef,-List.getD_eq_getElem?_getD] at h);conv=>whnf)));(first|omega|rfl|exact inK_byte _|(simp only [inK,Int.toNat_natCast,etas,elDef]<;>first|omega|grind)|grind [inK]))) ?_|refine And.intro ?_ ?_)<;>conv=>whnf)|exact True.intro|(intro;conv=>whnf)
  · have : nameOk l k = false := by grind [nameOk]
    exact leafB hK (by grind [namesM_no])
  · refine ⟨k + 1, [], [], ⟨by omega, fun j hjl => ?_⟩, by omega, ?_, (by exact sgOk_of (by rfl))⟩
    · have : nameOk l k = true := by grind [nameOk]
      grind
    · iterate 2 ((all_goals (conv=>whnf));(repeat' (first|exact trivial|rfl|(refine nilEq ?_;first|rfl|(simp only [*];done)|(simp [*];done)|grind)|apply And.intro|((first|apply intEq|apply boolEq|apply strEq|apply psEq|apply nilEq|apply arrEq);(try simp only [Int.toNat_natCast,etas,elDef]);first | done | omega | grind | (simp only [*]; done) | (simp [*]; done)))));(all_goals ((try simp only [Int.toNat_natCast,etas,elDef]);first | done | omega | grind | (simp only [*]; done) | (simp [*]; done)))
  · have : namesM l = true := (namesM_iff l).2 (by grind)
    exact leafB hK (by grind)
theorem s111 : (CtrOK Try.prog 111 (.pure F111) ∧ Callable Try.prog 111) := by
  refine pure_ok (E := E111) (mkE_cons s109 (mkE_nil tab_ok)) mix (O := O111) (F := F111) Try.func111 rfl (by rfl) (by kernel_rfl) (fun args o v h => ?_) (fun args o v h => ?_) (fun args o v h hbd hp K hK => ?_)
  · unfold F111 at h; split at h <;> cases h; first | trivial | (simp [v111, Scalar, Scalar2, Scalar1, stC, ndC, itC, chC, nwC])
  · unfold F111 at h; split at h <;> cases h; exact Nat.le_of_ble_eq_true rfl
  · unfold F111 at h; split at h
    case h_2 => cases h
    cases h
    exact a111 _ (by exact hbd) trivial K hK
noncomputable def v116 (n : Nd) : AV := .bool (partsM n)
noncomputable def o116 (n : Nd) : Prop := True
noncomputable def F116 : List AV → QR
  | [.st [.int .i64 n_0, .int .i64 n_1, .str n_2, .ps .str n_3, .ps .node n_4]] => some (none, v116 ⟨n_0, n_1, n_2, n_3, n_4⟩)
  | _ => none
noncomputable def E116 : Ctx := mkE tab [(132, .pure F132), (133, .pure F133)]
noncomputable def O116 : Nat → List DI := ordL []
theorem a116 (n : Nd) (hb : BdAs [.st (ndC n)]) (ho : o116 n) (K : AV → List AV → Prop) (hK : K (v116 n) []) : abody E116 O116 .ps Try.f116 (Try.f116.body.getD .skip) [.st (ndC n)] K := by
  simp only [BdAs, BdA, BdL, BdC, MX, ndC, shC, itC, stC, opC, chC, nwC, flC, rqC, rsC, enc, List.cons_append, List.nil_append, and_true, true_and] at hb
  unfold v116 at hK
  conv => whnf
  repeat' first|((first|refine Cnd.mk (fun h=>?_) (fun h=>?_)|refine Gd.mk (fun h=>?_))<;>(try simp [etas,elDef,-List.getD_eq_getElem?_getD] at h)<;>conv=>whnf)|((first|refine Obl.mk (by first|omega|rfl|exact inK_byte _|(simp only [inK,Int.toNat_natCast,etas,elDef]<;>first|omega|grind)|grind [inK]) ?_|refine OblG.mk (by ((conv=>whnf);(repeat (first|refine Bx.mk ?_|(intro h;(try simp [etas,elDef,-List.getD_eq_getElem?_getD] at h);conv=>whnf)));(first|omega|rfl|exact inK_byte _|(simp only [inK,Int.toNat_natCast,etas,elDef]<;>first|omega|grind)|grind [inK]))) ?_|refine And.intro ?_ ?_)<;>conv=>whnf)|exact True.intro|(intro;conv=>whnf)
  all_goals exact leafB hK (by grind [partsM])
theorem s116 : (CtrOK Try.prog 116 (.pure F116) ∧ Callable Try.prog 116) := by
  refine pure_ok (E := E116) (mkE_cons s132 (mkE_cons s133 (mkE_nil tab_ok))) mix (O := O116) (F := F116) Try.func116 rfl (by rfl) (by kernel_rfl) (fun args o v h => ?_) (fun args o v h => ?_) (fun args o v h hbd hp K hK => ?_)
  · unfold F116 at h; split at h <;> cases h; first | trivial | (simp [v116, Scalar, Scalar2, Scalar1, stC, ndC, itC, chC, nwC])
  · unfold F116 at h; split at h <;> cases h; exact Nat.le_of_ble_eq_true rfl
  · unfold F116 at h; split at h
    case h_2 => cases h
    cases h
    exact a116 ⟨_, _, _, _, _⟩ (by exact hbd) trivial K hK
noncomputable def v87 (n : Nd) (d : Int) : AV := .bool (shapeM d.toNat n)
noncomputable def o87 (n : Nd) (d : Int) : Prop := 0 ≤ d ∧ d ≤ 5
noncomputable def m87 (n : Nd) (d : Int) : Nat := 2 * d.toNat
noncomputable def F87 : List AV → QR
  | [.st [.int .i64 n_0, .int .i64 n_1, .str n_2, .ps .str n_3, .ps .node n_4], .int .i64 d] => some (some (o87 ⟨n_0, n_1, n_2, n_3, n_4⟩ d), v87 ⟨n_0, n_1, n_2, n_3, n_4⟩ d)
  | _ => none
noncomputable def Fk87 (k : Nat) : List AV → QR
  | [.st [.int .i64 n_0, .int .i64 n_1, .str n_2, .ps .str n_3, .ps .node n_4], .int .i64 d] => some (some (m87 ⟨n_0, n_1, n_2, n_3, n_4⟩ d < k ∧ o87 ⟨n_0, n_1, n_2, n_3, n_4⟩ d), v87 ⟨n_0, n_1, n_2, n_3, n_4⟩ d)
  | _ => none
noncomputable def v110 (n : Nd) (d : Int) : AV := .bool (n.kids.all (shapeM (d.toNat - 1)))
noncomputable def o110 (n : Nd) (d : Int) : Prop := 1 ≤ d ∧ d ≤ 5
noncomputable def m110 (n : Nd) (d : Int) : Nat := 2 * d.toNat - 1
noncomputable def Fk110 (k : Nat) : List AV → QR
  | [.st [.int .i64 n_0, .int .i64 n_1, .str n_2, .ps .str n_3, .ps .node n_4], .int .i64 d] => some (some (m110 ⟨n_0, n_1, n_2, n_3, n_4⟩ d < k ∧ o110 ⟨n_0, n_1, n_2, n_3, n_4⟩ d), v110 ⟨n_0, n_1, n_2, n_3, n_4⟩ d)
  | _ => none
noncomputable def E87 (k : Nat) : Ctx := mkE tab [(51, .pure F51), (109, .pure F109), (110, .pure (Fk110 k)), (111, .pure F111)]
noncomputable def O87 : Nat → List DI := ordL []
theorem a87 (k : Nat) (n : Nd) (d : Int) (hm : m87 n d < k + 1) (hb : BdAs [.st (ndC n), .int .i64 d]) (ho : o87 n d) (K : AV → List AV → Prop) (hK : K (v87 n d) []) : abody (E87 k) O87 .ps Try.f87 (Try.f87.body.getD .skip) [.st (ndC n), .int .i64 d] K := by
  simp only [BdAs, BdA, BdL, BdC, MX, ndC, shC, itC, stC, opC, chC, nwC, flC, rqC, rsC, enc, List.cons_append, List.nil_append, and_true, true_and] at hb
  unfold o87 at ho
  unfold v87 at hK
  unfold m87 at hm
  have h0 : d = 0 → shapeM d.toNat n = false := fun e => by subst e; rfl
  have h1 : 0 < d → shapeM d.toNat n = (partsM n && n.kids.all (shapeM (d.toNat - 1))) := shapeM_pos n
  conv => whnf
  repeat' first|((first|refine Cnd.mk (fun h=>?_) (fun h=>?_)|refine Gd.mk (fun h=>?_))<;>(try simp [etas,elDef,-List.getD_eq_getElem?_getD] at h)<;>conv=>whnf)|((first|refine Obl.mk (by first|omega|rfl|exact inK_byte _|(simp only [inK,Int.toNat_natCast,etas,elDef,m87,m110,o110,m110]<;>first|omega|grind)|grind [inK,m87,m110,o110,m110]) ?_|refine OblG.mk (by ((conv=>whnf);(repeat (first|refine Bx.mk ?_|(intro h;(try simp [etas,elDef,-List.getD_eq_getElem?_getD] at h);conv=>whnf)));(first|omega|rfl|exact inK_byte _|(simp only [inK,Int.toNat_natCast,etas,elDef,m87,m110,o110,m110]<;>first|omega|grind)|grind [inK,m87,m110,o110,m110]))) ?_|refine And.intro ?_ ?_)<;>conv=>whnf)|exact True.intro|(intro;conv=>whnf)
  all_goals exact leafB hK (by grind (splits := 20) [partsM, areNamesM])
noncomputable def E110 (k : Nat) : Ctx := mkE tab [(87, .pure (Fk87 k))]
noncomputable def O110 : Nat → List DI := ordL []
theorem a110 (k : Nat) (n : Nd) (d : Int) (hm : m110 n d < k + 1) (hb : BdAs [.st (ndC n), .int .i64 d]) (ho : o110 n d) (K : AV → List AV → Prop) (hK : K (v110 n d) []) : abody (E110 k) O110 .ps Try.f110 (Try.f110.body.getD .skip) [.st (ndC n), .int .i64 d] K := by
  simp only [BdAs, BdA, BdL, BdC, MX, ndC, shC, itC, stC, opC, chC, nwC, flC, rqC, rsC, enc, List.cons_append, List.nil_append, and_true, true_and] at hb
  unfold o110 at ho
  unfold v110 at hK
  unfold m110 at hm
  have hd : (d - 1).toNat = d.toNat - 1 := by omega
  conv => whnf
  refine aloop_intro Nat (fun k => k ≤ n.kids.length ∧ ∀ j, j < k → shapeM (d.toNat - 1) (n.kids.getD j default) = true) (fun k => n.kids.length - k) (fun k => [(5, .int .i64 k)]) (fun _ => []) [2] 0 [] [] ⟨by simp, by simp⟩ ?_ (by exact sgOk_of (by rfl)) ?_
  · iterate 2 ((all_goals (conv=>whnf));(repeat' (first|exact trivial|rfl|(refine nilEq ?_;first|rfl|(simp only [*];done)|(simp [*];done)|grind)|apply And.intro|((first|apply intEq|apply boolEq|apply strEq|apply psEq|apply nilEq|apply arrEq);(try simp only [Int.toNat_natCast,etas,elDef]);first | done | omega | grind | (simp only [*]; done) | (simp [*]; done)))));(all_goals ((try simp only [Int.toNat_natCast,etas,elDef]);first | done | omega | grind | (simp only [*]; done) | (simp [*]; done)))
  rintro i ⟨hk, hj⟩
  conv => whnf
  repeat' first|((first|refine Cnd.mk (fun h=>?_) (fun h=>?_)|refine Gd.mk (fun h=>?_))<;>(try simp [etas,elDef,-List.getD_eq_getElem?_getD] at h)<;>conv=>whnf)|((first|refine Obl.mk (by first|omega|rfl|exact inK_byte _|(simp only [inK,Int.toNat_natCast,etas,elDef,m87,m110,o87,m87]<;>first|omega|grind)|grind [inK,m87,m110,o87,m87]) ?_|refine OblG.mk (by ((conv=>whnf);(repeat (first|refine Bx.mk ?_|(intro h;(try simp [etas,elDef,-List.getD_eq_getElem?_getD] at h);conv=>whnf)));(first|omega|rfl|exact inK_byte _|(simp only [inK,Int.toNat_natCast,etas,elDef,m87,m110,o87,m87]<;>first|omega|grind)|grind [inK,m87,m110,o87,m87]))) ?_|refine And.intro ?_ ?_)<;>conv=>whnf)|exact True.intro|(intro;conv=>whnf)
  · exact leafB hK (allN_no (j := i) (by omega) (by grind))
  · refine ⟨i + 1, [], [], ⟨by omega, fun j hjl => ?_⟩, by omega, ?_, (by exact sgOk_of (by rfl))⟩
    · have : shapeM (d.toNat - 1) (n.kids.getD i default) = true := by grind
      grind
    · iterate 2 ((all_goals (conv=>whnf));(repeat' (first|exact trivial|rfl|(refine nilEq ?_;first|rfl|(simp only [*];done)|(simp [*];done)|grind)|apply And.intro|((first|apply intEq|apply boolEq|apply strEq|apply psEq|apply nilEq|apply arrEq);(try simp only [Int.toNat_natCast,etas,elDef]);first | done | omega | grind | (simp only [*]; done) | (simp [*]; done)))));(all_goals ((try simp only [Int.toNat_natCast,etas,elDef]);first | done | omega | grind | (simp only [*]; done) | (simp [*]; done)))
  · exact leafB hK ((allN_iff _ _).2 (by grind))
theorem r87_110 : ∀ k, (CtrOK Try.prog 87 (.pure (Fk87 k)) ∧ Callable Try.prog 87) ∧ (CtrOK Try.prog 110 (.pure (Fk110 k)) ∧ Callable Try.prog 110) := by
  intro k
  induction k with
  | zero =>
    exact ⟨⟨⟨fun args o v h => by unfold Fk87 at h; split at h <;> cases h; first | trivial | (simp [v87, Scalar, Scalar2, Scalar1, stC, ndC, itC, chC, nwC]), fun args K h => by
        unfold pureC Fk87 at h; split at h
        · rename_i h1; split at h1 <;> cases h1; exact absurd (h.1 _ rfl).1 (Nat.not_lt_zero _)
        · exact h.elim⟩, callable Try.func87 rfl (by rfl)⟩, ⟨⟨fun args o v h => by unfold Fk110 at h; split at h <;> cases h; first | trivial | (simp [v110, Scalar, Scalar2, Scalar1, stC, ndC, itC, chC, nwC]), fun args K h => by
        unfold pureC Fk110 at h; split at h
        · rename_i h1; split at h1 <;> cases h1; exact absurd (h.1 _ rfl).1 (Nat.not_lt_zero _)
        · exact h.elim⟩, callable Try.func110 rfl (by rfl)⟩⟩
  | succ k ih =>
    refine ⟨?_, ?_⟩
    · refine pure_ok (E := E87 k) (mkE_cons s51 (mkE_cons s109 (mkE_cons ih.2 (mkE_cons s111 (mkE_nil tab_ok))))) mix (O := O87) (F := (Fk87 (k + 1))) Try.func87 rfl (by rfl) (by kernel_rfl) (fun args o v h => ?_) (fun args o v h => ?_) (fun args o v h hbd hp K hK => ?_)
      · unfold Fk87 at h; split at h <;> cases h; first | trivial | (simp [v87, Scalar, Scalar2, Scalar1, stC, ndC, itC, chC, nwC])
      · unfold Fk87 at h; split at h <;> cases h; exact Nat.le_of_ble_eq_true rfl
      · unfold Fk87 at h; split at h
        case h_2 => cases h
        cases h
        exact a87 k ⟨_, _, _, _, _⟩ _ (hp _ rfl).1 (by exact hbd) (hp _ rfl).2 K hK
    · refine pure_ok (E := E110 k) (mkE_cons ih.1 (mkE_nil tab_ok)) mix (O := O110) (F := (Fk110 (k + 1))) Try.func110 rfl (by rfl) (by kernel_rfl) (fun args o v h => ?_) (fun args o v h => ?_) (fun args o v h hbd hp K hK => ?_)
      · unfold Fk110 at h; split at h <;> cases h; first | trivial | (simp [v110, Scalar, Scalar2, Scalar1, stC, ndC, itC, chC, nwC])
      · unfold Fk110 at h; split at h <;> cases h; exact Nat.le_of_ble_eq_true rfl
      · unfold Fk110 at h; split at h
        case h_2 => cases h
        cases h
        exact a110 k ⟨_, _, _, _, _⟩ _ (hp _ rfl).1 (by exact hbd) (hp _ rfl).2 K hK
theorem s87 : (CtrOK Try.prog 87 (.pure F87) ∧ Callable Try.prog 87) := by
  refine ⟨⟨fun args o v h => ?_, fun args K h => ?_⟩, (r87_110 0).1.2⟩
  · unfold F87 at h; split at h <;> cases h; first | trivial | (simp [v87, Scalar, Scalar2, Scalar1, stC, ndC, itC, chC, nwC])
  · unfold pureC F87 at h; split at h
    · rename_i h1; split at h1 <;> cases h1
      exact (r87_110 (m87 ⟨_, _, _, _, _⟩ _ + 1)).1.1.2 _ K ⟨fun p hp => by cases hp; exact ⟨Nat.lt_succ_self _, (h.1 _ rfl)⟩, h.2⟩
    · exact h.elim
end Go.Rs

