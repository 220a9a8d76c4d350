import Derived.Test.YtfaaemggaliojaaDoorBase
import Derived.Test.YtfaaemggaliojaaDoorMA
set_option linter.all false
set_option linter.unusedSimpArgs false
set_option linter.unusedVariables false
namespace Go.Rs
open Go.Proofs
set_option maxRecDepth 100000
noncomputable def v50 (n : Int) (a : Int) (b : Int) : AV := .bool (decide (a ≤ n) && decide (n ≤ b))
noncomputable def o50 (n : Int) (a : Int) (b : Int) : Prop := True
noncomputable def F50 : List AV → QR
  | [.int .i64 n, .int .i64 a, .int .i64 b] => some (none, v50 n a b)
  | _ => none
noncomputable def E50 : Ctx := mkE tab []
noncomputable def O50 : Nat → List DI := ordL []
theorem a50 (n : Int) (a : Int) (b : Int) (hb : BdAs [.int .i64 n, .int .i64 a, .int .i64 b]) (ho : o50 n a b) (K : AV → List AV → Prop) (hK : K (v50 n a b) []) : abody E50 O50 .ps Tryd.f50 (Tryd.f50.body.getD .skip) [.int .i64 n, .int .i64 a, .int .i64 b] K := by
  simp only [BdAs, BdA, BdL, BdC, MX, ndC, shC, itC, stC, opC, chC, nwC, flC, rqC, rsC, enc, List.cons_append, List.nil_append, and_true, true_and] at hb
  unfold v50 at hK
  conv => whnf
  exact hK
theorem s50 : (CtrOK Tryd.prog 50 (.pure F50) ∧ Callable Tryd.prog 50) := by
  refine pure_ok (E := E50) (mkE_nil tab_ok) mix (O := O50) (F := F50) Tryd.func50 rfl (by rfl) (by kernel_rfl) (fun args o v h => ?_) (fun args o v h => ?_) (fun args o v h hbd hp K hK => ?_)
  · unfold F50 at h; split at h <;> cases h; first | trivial | (simp [v50, Scalar, Scalar2, Scalar1, stC, ndC, itC, chC, nwC])
  · unfold F50 at h; split at h <;> cases h; exact Nat.le_of_ble_eq_true rfl
  · unfold F50 at h; split at h
    case h_2 => cases h
    cases h
    exact a50 _ _ _ (by exact hbd) trivial K hK
noncomputable def v95 (b : Bool) : AV := .int .i64 (if b then 1 else 0)
noncomputable def o95 (b : Bool) : Prop := True
noncomputable def F95 : List AV → QR
  | [.bool b] => some (none, v95 b)
  | _ => none
noncomputable def E95 : Ctx := mkE tab []
noncomputable def O95 : Nat → List DI := ordL []
theorem a95 (b : Bool) (hb : BdAs [.bool b]) (ho : o95 b) (K : AV → List AV → Prop) (hK : K (v95 b) []) : abody E95 O95 .ps Tryd.f95 (Tryd.f95.body.getD .skip) [.bool b] K := by
  simp only [BdAs, BdA, BdL, BdC, MX, ndC, shC, itC, stC, opC, chC, nwC, flC, rqC, rsC, enc, List.cons_append, List.nil_append, and_true, true_and] at hb
  unfold v95 at hK
  conv => whnf
  repeat' first|((first|refine Cnd.mk (fun h=>?_) (fun h=>?_)|refine Gd.mk (fun h=>?_))<;>(try simp [etas,elDef,-List.getD_eq_getElem?_getD] at h)<;>conv=>whnf)|((first|refine Obl.mk (by first|omega|rfl|exact inK_byte _|(simp only [inK,Int.toNat_natCast,etas,elDef]<;>first|omega|grind)|grind [inK]) ?_|refine OblG.mk (by ((conv=>whnf);(repeat (first|refine Bx.mk ?_|(intro h;(try simp [etas,elDef,-List.getD_eq_getElem?_getD] at h);conv=>whnf)));(first|omega|rfl|exact inK_byte _|(simp only [inK,Int.toNat_natCast,etas,elDef]<;>first|omega|grind)|grind [inK]))) ?_|refine And.intro ?_ ?_)<;>conv=>whnf)|exact True.intro|(intro;conv=>whnf)
  all_goals exact leafI hK (by grind)
theorem s95 : (CtrOK Tryd.prog 95 (.pure F95) ∧ Callable Tryd.prog 95) := by
  refine pure_ok (E := E95) (mkE_nil tab_ok) mix (O := O95) (F := F95) Tryd.func95 rfl (by rfl) (by kernel_rfl) (fun args o v h => ?_) (fun args o v h => ?_) (fun args o v h hbd hp K hK => ?_)
  · unfold F95 at h; split at h <;> cases h; first | trivial | (simp [v95, Scalar, Scalar2, Scalar1, stC, ndC, itC, chC, nwC])
  · unfold F95 at h; split at h <;> cases h; exact Nat.le_of_ble_eq_true rfl
  · unfold F95 at h; split at h
    case h_2 => cases h
    cases h
    exact a95 _ (by exact hbd) trivial K hK
noncomputable def v83 (s : Bs) : AV := .bool (txtM s)
noncomputable def o83 (s : Bs) : Prop := True
noncomputable def F83 : List AV → QR
  | [.str s] => some (none, v83 s)
  | _ => none
noncomputable def E83 : Ctx := mkE tab [(50, .pure F50)]
noncomputable def O83 : Nat → List DI := ordL []
theorem a83 (s : Bs) (hb : BdAs [.str s]) (ho : o83 s) (K : AV → List AV → Prop) (hK : K (v83 s) []) : abody E83 O83 .ps Tryd.f83 (Tryd.f83.body.getD .skip) [.str s] K := by
  simp only [BdAs, BdA, BdL, BdC, MX, ndC, shC, itC, stC, opC, chC, nwC, flC, rqC, rsC, enc, List.cons_append, List.nil_append, and_true, true_and] at hb
  unfold v83 at hK
  conv => whnf
  refine aloop_intro Nat (fun k => k ≤ s.length ∧ ∀ j, j < k → chrOk (s.getD j 0) = true) (fun k => s.length - k) (fun k => [(3, .int .i64 k)]) (fun _ => []) [] 0 [] [] ⟨by simp, by simp⟩ ?_ (by exact sgOk_of (by rfl)) ?_
  · iterate 2 ((all_goals (conv=>whnf));(repeat' (first|exact trivial|rfl|(refine nilEq ?_;first|rfl|(simp only [*];done)|(simp [*];done)|grind)|apply And.intro|((first|apply intEq|apply boolEq|apply strEq|apply psEq|apply nilEq|apply arrEq);(try simp only [Int.toNat_natCast,etas,elDef]);first | done | omega | grind | (simp only [*]; done) | (simp [*]; done)))));(all_goals ((try simp only [Int.toNat_natCast,etas,elDef]);first | done | omega | grind | (simp only [*]; done) | (simp [*]; done)))
  rintro k ⟨hk, hj⟩
  conv => whnf
  repeat' first|((first|refine Cnd.mk (fun h=>?_) (fun h=>?_)|refine Gd.mk (fun h=>?_))<;>(try simp [etas,elDef,-List.getD_eq_getElem?_getD] at h)<;>conv=>whnf)|((first|refine Obl.mk (by first|omega|rfl|exact inK_byte _|(simp only [inK,Int.toNat_natCast,etas,elDef]<;>first|omega|grind)|grind [inK]) ?_|refine OblG.mk (by ((conv=>whnf);(repeat (first|refine Bx.mk ?_|(intro h;(try simp [etas,elDef,-List.getD_eq_getElem?_getD] at h);conv=>whnf)));(first|omega|rfl|exact inK_byte _|(simp only [inK,Int.toNat_natCast,etas,elDef]<;>first|omega|grind)|grind [inK]))) ?_|refine And.intro ?_ ?_)<;>conv=>whnf)|exact True.intro|(intro;conv=>whnf)
  · have : chrOk (s.getD k 0) = false := by grind [chrOk]
    exact leafB hK (by grind [txtM, all_no])
  · refine ⟨k + 1, [], [], ⟨by omega, fun j hjl => ?_⟩, by omega, ?_, (by exact sgOk_of (by rfl))⟩
    · have : chrOk (s.getD k 0) = true := by grind [chrOk]
      grind
    · iterate 2 ((all_goals (conv=>whnf));(repeat' (first|exact trivial|rfl|(refine nilEq ?_;first|rfl|(simp only [*];done)|(simp [*];done)|grind)|apply And.intro|((first|apply intEq|apply boolEq|apply strEq|apply psEq|apply nilEq|apply arrEq);(try simp only [Int.toNat_natCast,etas,elDef]);first | done | omega | grind | (simp only [*]; done) | (simp [*]; done)))));(all_goals ((try simp only [Int.toNat_natCast,etas,elDef]);first | done | omega | grind | (simp only [*]; done) | (simp [*]; done)))
  · have : s.all chrOk = true := (all_iff s _).2 (by grind)
    exact leafB hK (by grind [txtM])
theorem s83 : (CtrOK Tryd.prog 83 (.pure F83) ∧ Callable Tryd.prog 83) := by
  refine pure_ok (E := E83) (mkE_cons s50 (mkE_nil tab_ok)) mix (O := O83) (F := F83) Tryd.func83 rfl (by rfl) (by kernel_rfl) (fun args o v h => ?_) (fun args o v h => ?_) (fun args o v h hbd hp K hK => ?_)
  · unfold F83 at h; split at h <;> cases h; first | trivial | (simp [v83, Scalar, Scalar2, Scalar1, stC, ndC, itC, chC, nwC])
  · unfold F83 at h; split at h <;> cases h; exact Nat.le_of_ble_eq_true rfl
  · unfold F83 at h; split at h
    case h_2 => cases h
    cases h
    exact a83 _ (by exact hbd) trivial K hK
noncomputable def v96 (s : Bs) : AV := .bool (txtM s)
noncomputable def o96 (s : Bs) : Prop := True
noncomputable def F96 : List AV → QR
  | [.str s] => some (none, v96 s)
  | _ => none
noncomputable def E96 : Ctx := mkE tab []
noncomputable def O96 : Nat → List DI := ordL []
theorem a96 (s : Bs) (hb : BdAs [.str s]) (ho : o96 s) (K : AV → List AV → Prop) (hK : K (v96 s) []) : abody E96 O96 .ps Tryd.f96 (Tryd.f96.body.getD .skip) [.str s] K := by
  simp only [BdAs, BdA, BdL, BdC, MX, ndC, shC, itC, stC, opC, chC, nwC, flC, rqC, rsC, enc, List.cons_append, List.nil_append, and_true, true_and] at hb
  unfold v96 at hK
  conv => whnf
  repeat' first|((first|refine Cnd.mk (fun h=>?_) (fun h=>?_)|refine Gd.mk (fun h=>?_))<;>(try simp [etas,elDef,-List.getD_eq_getElem?_getD] at h)<;>conv=>whnf)|((first|refine Obl.mk (by first|omega|rfl|exact inK_byte _|(simp only [inK,Int.toNat_natCast,etas,elDef]<;>first|omega|grind)|grind [inK]) ?_|refine OblG.mk (by ((conv=>whnf);(repeat (first|refine Bx.mk ?_|(intro h;(try simp [etas,elDef,-List.getD_eq_getElem?_getD] at h);conv=>whnf)));(first|omega|rfl|exact inK_byte _|(simp only [inK,Int.toNat_natCast,etas,elDef]<;>first|omega|grind)|grind [inK]))) ?_|refine And.intro ?_ ?_)<;>conv=>whnf)|exact True.intro|(intro;conv=>whnf)
  · exact leafB hK (by grind [txtM])
  refine aloop_intro Nat (fun k => k ≤ s.length ∧ ∀ j, j < k → chrOk (s.getD j 0) = true) (fun k => s.length - k) (fun k => [(3, .int .i64 k)]) (fun _ => []) [] 0 [] [] ⟨by simp, by simp⟩ ?_ (by exact sgOk_of (by rfl)) ?_
  · iterate 2 ((all_goals (conv=>whnf));(repeat' (first|exact trivial|rfl|(refine nilEq ?_;first|rfl|(simp only [*];done)|(simp [*];done)|grind)|apply And.intro|((first|apply intEq|apply boolEq|apply strEq|apply psEq|apply nilEq|apply arrEq);(try simp only [Int.toNat_natCast,etas,elDef]);first | done | omega | grind | (simp only [*]; done) | (simp [*]; done)))));(all_goals ((try simp only [Int.toNat_natCast,etas,elDef]);first | done | omega | grind | (simp only [*]; done) | (simp [*]; done)))
  rintro k ⟨hk, hj⟩
  conv => whnf
  repeat' first|((first|refine Cnd.mk (fun h=>?_) (fun h=>?_)|refine Gd.mk (fun h=>?_))<;>(try simp [etas,elDef,-List.getD_eq_getElem?_getD] at h)<;>conv=>whnf)|((first|refine Obl.mk (by first|omega|rfl|exact inK_byte _|(simp only [inK,Int.toNat_natCast,etas,elDef]<;>first|omega|grind)|grind [inK]) ?_|refine OblG.mk (by ((conv=>whnf);(repeat (first|refine Bx.mk ?_|(intro h;(try simp [etas,elDef,-List.getD_eq_getElem?_getD] at h);conv=>whnf)));(first|omega|rfl|exact inK_byte _|(simp only [inK,Int.toNat_natCast,etas,elDef]<;>first|omega|grind)|grind [inK]))) ?_|refine And.intro ?_ ?_)<;>conv=>whnf)|exact True.intro|(intro;conv=>whnf)
  · have : chrOk (s.getD k 0) = false := by grind [chrOk]
    exact leafB hK (by grind [txtM, all_no])
  · refine ⟨k + 1, [], [], ⟨by omega, fun j hjl => ?_⟩, by omega, ?_, (by exact sgOk_of (by rfl))⟩
    · have : chrOk (s.getD k 0) = true := by grind [chrOk]
      grind
    · iterate 2 ((all_goals (conv=>whnf));(repeat' (first|exact trivial|rfl|(refine nilEq ?_;first|rfl|(simp only [*];done)|(simp [*];done)|grind)|apply And.intro|((first|apply intEq|apply boolEq|apply strEq|apply psEq|apply nilEq|apply arrEq);(try simp only [Int.toNat_natCast,etas,elDef]);first | done | omega | grind | (simp only [*]; done) | (simp [*]; done)))));(all_goals ((try simp only [Int.toNat_natCast,etas,elDef]);first | done | omega | grind | (simp only [*]; done) | (simp [*]; done)))
  · have : s.all chrOk = true := (all_iff s _).2 (by grind)
    exact leafB hK (by grind [txtM])
theorem s96 : (CtrOK Tryd.prog 96 (.pure F96) ∧ Callable Tryd.prog 96) := by
  refine pure_ok (E := E96) (mkE_nil tab_ok) mix (O := O96) (F := F96) Tryd.func96 rfl (by rfl) (by kernel_rfl) (fun args o v h => ?_) (fun args o v h => ?_) (fun args o v h hbd hp K hK => ?_)
  · unfold F96 at h; split at h <;> cases h; first | trivial | (simp [v96, Scalar, Scalar2, Scalar1, stC, ndC, itC, chC, nwC])
  · unfold F96 at h; split at h <;> cases h; exact Nat.le_of_ble_eq_true rfl
  · unfold F96 at h; split at h
    case h_2 => cases h
    cases h
    exact a96 _ (by exact hbd) trivial K hK
noncomputable def v100 (l : List Bs) : AV := .bool (areNamesM l)
noncomputable def o100 (l : List Bs) : Prop := True
noncomputable def F100 : List AV → QR
  | [.ps .str l] => some (none, v100 l)
  | _ => none
noncomputable def E100 : Ctx := mkE tab [(96, .pure F96)]
noncomputable def O100 : Nat → List DI := ordL []
theorem a100 (l : List Bs) (hb : BdAs [.ps .str l]) (ho : o100 l) (K : AV → List AV → Prop) (hK : K (v100 l) []) : abody E100 O100 .ps Tryd.f100 (Tryd.f100.body.getD .skip) [.ps .str l] K := by
  simp only [BdAs, BdA, BdL, BdC, MX, ndC, shC, itC, stC, opC, chC, nwC, flC, rqC, rsC, enc, List.cons_append, List.nil_append, and_true, true_and] at hb
  unfold v100 at hK
  conv => whnf
  repeat' first|((first|refine Cnd.mk (fun h=>?_) (fun h=>?_)|refine Gd.mk (fun h=>?_))<;>(try simp [etas,elDef,-List.getD_eq_getElem?_getD] at h)<;>conv=>whnf)|((first|refine Obl.mk (by first|omega|rfl|exact inK_byte _|(simp only [inK,Int.toNat_natCast,etas,elDef]<;>first|omega|grind)|grind [inK]) ?_|refine OblG.mk (by ((conv=>whnf);(repeat (first|refine Bx.mk ?_|(intro h;(try simp [etas,elDef,-List.getD_eq_getElem?_getD] at h);conv=>whnf)));(first|omega|rfl|exact inK_byte _|(simp only [inK,Int.toNat_natCast,etas,elDef]<;>first|omega|grind)|grind [inK]))) ?_|refine And.intro ?_ ?_)<;>conv=>whnf)|exact True.intro|(intro;conv=>whnf)
  · exact leafB hK (by grind [areNamesM])
  refine aloop_intro Nat (fun k => k ≤ l.length ∧ ∀ j, j < k → nameOk l j = true) (fun k => l.length - k) (fun k => [(10, .int .i64 k)]) (fun _ => []) [] 0 [] [] ⟨by simp, by simp⟩ ?_ (by exact sgOk_of (by rfl)) ?_
  · iterate 2 ((all_goals (conv=>whnf));(repeat' (first|exact trivial|rfl|(refine nilEq ?_;first|rfl|(simp only [*];done)|(simp [*];done)|grind)|apply And.intro|((first|apply intEq|apply boolEq|apply strEq|apply psEq|apply nilEq|apply arrEq);(try simp only [Int.toNat_natCast,etas,elDef]);first | done | omega | grind | (simp only [*]; done) | (simp [*]; done)))));(all_goals ((try simp only [Int.toNat_natCast,etas,elDef]);first | done | omega | grind | (simp only [*]; done) | (simp [*]; done)))
  rintro k ⟨hk, hj⟩
  conv => whnf
  repeat' first|((first|refine Cnd.mk (fun h=>?_) (fun h=>?_)|refine Gd.mk (fun h=>?_))<;>(try simp [etas,elDef,-List.getD_eq_getElem?_getD] at h)<;>conv=>whnf)|((first|refine Obl.mk (by first|omega|rfl|exact inK_byte _|(simp only [inK,Int.toNat_natCast,etas,elDef]<;>first|omega|grind)|grind [inK]) ?_|refine OblG.mk (by ((conv=>whnf);(repeat (first|refine Bx.mk ?_|(intro h;(try simp [etas,elDef,-List.getD_eq_getElem?_getD] at h);conv=>whnf)));(first|omega|rfl|exact inK_byte _|(simp only [inK,Int.toNat_natCast,etas,elDef]<;>first|omega|grind)|grind [inK]))) ?_|refine And.intro ?_ ?_)<;>conv=>whnf)|exact True.intro|(intro;conv=>whnf)
  · have : nameOk l k = false := by grind [nameOk]
    exact leafB hK (by grind [areNamesM, namesM_no])
  · refine ⟨k + 1, [], [], ⟨by omega, fun j hjl => ?_⟩, by omega, ?_, (by exact sgOk_of (by rfl))⟩
    · have : nameOk l k = true := by grind [nameOk]
      grind
    · iterate 2 ((all_goals (conv=>whnf));(repeat' (first|exact trivial|rfl|(refine nilEq ?_;first|rfl|(simp only [*];done)|(simp [*];done)|grind)|apply And.intro|((first|apply intEq|apply boolEq|apply strEq|apply psEq|apply nilEq|apply arrEq);(try simp only [Int.toNat_natCast,etas,elDef]);first | done | omega | grind | (simp only [*]; done) | (simp [*]; done)))));(all_goals ((try simp only [Int.toNat_natCast,etas,elDef]);first | done | omega | grind | (simp only [*]; done) | (simp [*]; done)))
  · have : namesM l = true := (namesM_iff l).2 (by grind)
    exact leafB hK (by grind [areNamesM])
theorem s100 : (CtrOK Tryd.prog 100 (.pure F100) ∧ Callable Tryd.prog 100) := by
  refine pure_ok (E := E100) (mkE_cons s96 (mkE_nil tab_ok)) mix (O := O100) (F := F100) Tryd.func100 rfl (by rfl) (by kernel_rfl) (fun args o v h => ?_) (fun args o v h => ?_) (fun args o v h hbd hp K hK => ?_)
  · unfold F100 at h; split at h <;> cases h; first | trivial | (simp [v100, Scalar, Scalar2, Scalar1, stC, ndC, itC, chC, nwC])
  · unfold F100 at h; split at h <;> cases h; exact Nat.le_of_ble_eq_true rfl
  · unfold F100 at h; split at h
    case h_2 => cases h
    cases h
    exact a100 _ (by exact hbd) trivial K hK
noncomputable def v85 (l : List Bs) : AV := .bool (namesM l)
noncomputable def o85 (l : List Bs) : Prop := True
noncomputable def F85 : List AV → QR
  | [.ps .str l] => some (none, v85 l)
  | _ => none
noncomputable def E85 : Ctx := mkE tab [(83, .pure F83)]
noncomputable def O85 : Nat → List DI := ordL [(4, [.q 0, .q 1, .q 2, .q 3, .q 4, .q 5, .q 6, .q 7, .q 8, .q 9, .q 10, .q 11, .q 12, .q 13, .q 14, .q 15, .q 16, .q 17, .q 18, .q 19, .q 20, .q 21])]
theorem a85 (l : List Bs) (hb : BdAs [.ps .str l]) (ho : o85 l) (K : AV → List AV → Prop) (hK : K (v85 l) []) : abody E85 O85 .ps Tryd.f85 (Tryd.f85.body.getD .skip) [.ps .str l] K := by
  simp only [BdAs, BdA, BdL, BdC, MX, ndC, shC, itC, stC, opC, chC, nwC, flC, rqC, rsC, enc, List.cons_append, List.nil_append, and_true, true_and] at hb
  unfold v85 at hK
  conv => whnf
  refine aloop_intro Nat (fun k => k ≤ l.length ∧ ∀ j, j < k → nameOk l j = true) (fun k => l.length - k) (fun k => [(3, .int .i64 k)]) (fun _ => []) [] 0 [] [] ⟨by simp, by simp⟩ ?_ (by exact sgOk_of (by rfl)) ?_
  · iterate 2 ((all_goals (conv=>whnf));(repeat' (first|exact trivial|rfl|(refine nilEq ?_;first|rfl|(simp only [*];done)|(simp [*];done)|grind)|apply And.intro|((first|apply intEq|apply boolEq|apply strEq|apply psEq|apply nilEq|apply arrEq);(try simp only [Int.toNat_natCast,etas,elDef]);first | done | omega | grind | (simp only [*]; done) | (simp [*]; done)))));(all_goals ((try simp only [Int.toNat_natCast,etas,elDef]);first | done | omega | grind | (simp only [*]; done) | (simp [*]; done)))
  rintro k ⟨hk, hj⟩
  conv => whnf
  repeat' first|((first|refine Cnd.mk (fun h=>?_) (fun h=>?_)|refine Gd.mk (fun h=>?_))<;>(try simp [etas,elDef,-List.getD_eq_getElem?_getD] at h)<;>conv=>whnf)|((first|refine Obl.mk (by first|omega|rfl|exact inK_byte _|(simp only [inK,Int.toNat_natCast,etas,elDef]<;>first|omega|grind)|grind [inK]) ?_|refine OblG.mk (by ((conv=>whnf);(repeat (first|refine Bx.mk ?_|(intro h;(try simp [etas,elDef,-List.getD_eq_getElem?_getD] at h);conv=>whnf)));(first|omega|rfl|exact inK_byte _|(simp only [inK,Int.toNat_natCast,etas,elDef]<;>first|omega|grind)|grind [inK]))) ?_|refine And.intro ?_ ?_)<;>conv=>whnf)|exact True.intro|(intro;conv=>whnf)
  · have : nameOk l k = false := by grind [nameOk]
    exact leafB hK (by grind [namesM_no])
  · refine ⟨k + 1, [], [], ⟨by omega, fun j hjl => ?_⟩, by omega, ?_, (by exact sgOk_of (by rfl))⟩
    · have : nameOk l k = true := by grind [nameOk]
      grind
    · iterate 2 ((all_goals (conv=>whnf));(repeat' (first|exact trivial|rfl|(refine nilEq ?_;first|rfl|(simp only [*];done)|(simp [*];done)|grind)|apply And.intro|((first|apply intEq|apply boolEq|apply strEq|apply psEq|apply nilEq|apply arrEq);(try simp only [Int.toNat_natCast,etas,elDef]);first | done | omega | grind | (simp only [*]; done) | (simp [*]; done)))));(all_goals ((try simp only [Int.toNat_natCast,etas,elDef]);first | done | omega | grind | (simp only [*]; done) | (simp [*]; done)))
  · have : namesM l = true := (namesM_iff l).2 (by grind)
    exact leafB hK (by grind)
theorem s85 : (CtrOK Tryd.prog 85 (.pure F85) ∧ Callable Tryd.prog 85) := by
  refine pure_ok (E := E85) (mkE_cons s83 (mkE_nil tab_ok)) mix (O := O85) (F := F85) Tryd.func85 rfl (by rfl) (by kernel_rfl) (fun args o v h => ?_) (fun args o v h => ?_) (fun args o v h hbd hp K hK => ?_)
  · unfold F85 at h; split at h <;> cases h; first | trivial | (simp [v85, Scalar, Scalar2, Scalar1, stC, ndC, itC, chC, nwC])
  · unfold F85 at h; split at h <;> cases h; exact Nat.le_of_ble_eq_true rfl
  · unfold F85 at h; split at h
    case h_2 => cases h
    cases h
    exact a85 _ (by exact hbd) trivial K hK
noncomputable def v92 (n : Nd) : AV := .bool (partsM n)
noncomputable def o92 (n : Nd) : Prop := True
noncomputable def F92 : List AV → QR
  | [.st [.int .i64 n_0, .int .i64 n_1, .str n_2, .ps .str n_3, .ps .node n_4]] => some (none, v92 ⟨n_0, n_1, n_2, n_3, n_4⟩)
  | _ => none
noncomputable def E92 : Ctx := mkE tab [(96, .pure F96), (100, .pure F100)]
noncomputable def O92 : Nat → List DI := ordL []
theorem a92 (n : Nd) (hb : BdAs [.st (ndC n)]) (ho : o92 n) (K : AV → List AV → Prop) (hK : K (v92 n) []) : abody E92 O92 .ps Tryd.f92 (Tryd.f92.body.getD .skip) [.st (ndC n)] K := by
  simp only [BdAs, BdA, BdL, BdC, MX, ndC, shC, itC, stC, opC, chC, nwC, flC, rqC, rsC, enc, List.cons_append, List.nil_append, and_true, true_and] at hb
  unfold v92 at hK
  conv => whnf
  repeat' first|((first|refine Cnd.mk (fun h=>?_) (fun h=>?_)|refine Gd.mk (fun h=>?_))<;>(try simp [etas,elDef,-List.getD_eq_getElem?_getD] at h)<;>conv=>whnf)|((first|refine Obl.mk (by first|omega|rfl|exact inK_byte _|(simp only [inK,Int.toNat_natCast,etas,elDef]<;>first|omega|grind)|grind [inK]) ?_|refine OblG.mk (by ((conv=>whnf);(repeat (first|refine Bx.mk ?_|(intro h;(try simp [etas,elDef,-List.getD_eq_getElem?_getD] at h);conv=>whnf)));(first|omega|rfl|exact inK_byte _|(simp only [inK,Int.toNat_natCast,etas,elDef]<;>first|omega|grind)|grind [inK]))) ?_|refine And.intro ?_ ?_)<;>conv=>whnf)|exact True.intro|(intro;conv=>whnf)
  all_goals exact leafB hK (by grind [partsM])
theorem s92 : (CtrOK Tryd.prog 92 (.pure F92) ∧ Callable Tryd.prog 92) := by
  refine pure_ok (E := E92) (mkE_cons s96 (mkE_cons s100 (mkE_nil tab_ok))) mix (O := O92) (F := F92) Tryd.func92 rfl (by rfl) (by kernel_rfl) (fun args o v h => ?_) (fun args o v h => ?_) (fun args o v h hbd hp K hK => ?_)
  · unfold F92 at h; split at h <;> cases h; first | trivial | (simp [v92, Scalar, Scalar2, Scalar1, stC, ndC, itC, chC, nwC])
  · unfold F92 at h; split at h <;> cases h; exact Nat.le_of_ble_eq_true rfl
  · unfold F92 at h; split at h
    case h_2 => cases h
    cases h
    exact a92 ⟨_, _, _, _, _⟩ (by exact hbd) trivial K hK
noncomputable def v68 (n : Nd) (d : Int) : AV := .bool (shapeM d.toNat n)
noncomputable def o68 (n : Nd) (d : Int) : Prop := 0 ≤ d ∧ d ≤ 5
noncomputable def m68 (n : Nd) (d : Int) : Nat := 2 * d.toNat
noncomputable def F68 : List AV → QR
  | [.st [.int .i64 n_0, .int .i64 n_1, .str n_2, .ps .str n_3, .ps .node n_4], .int .i64 d] => some (some (o68 ⟨n_0, n_1, n_2, n_3, n_4⟩ d), v68 ⟨n_0, n_1, n_2, n_3, n_4⟩ d)
  | _ => none
noncomputable def Fk68 (k : Nat) : List AV → QR
  | [.st [.int .i64 n_0, .int .i64 n_1, .str n_2, .ps .str n_3, .ps .node n_4], .int .i64 d] => some (some (m68 ⟨n_0, n_1, n_2, n_3, n_4⟩ d < k ∧ o68 ⟨n_0, n_1, n_2, n_3, n_4⟩ d), v68 ⟨n_0, n_1, n_2, n_3, n_4⟩ d)
  | _ => none
noncomputable def v84 (n : Nd) (d : Int) : AV := .bool (n.kids.all (shapeM (d.toNat - 1)))
noncomputable def o84 (n : Nd) (d : Int) : Prop := 1 ≤ d ∧ d ≤ 5
noncomputable def m84 (n : Nd) (d : Int) : Nat := 2 * d.toNat - 1
noncomputable def Fk84 (k : Nat) : List AV → QR
  | [.st [.int .i64 n_0, .int .i64 n_1, .str n_2, .ps .str n_3, .ps .node n_4], .int .i64 d] => some (some (m84 ⟨n_0, n_1, n_2, n_3, n_4⟩ d < k ∧ o84 ⟨n_0, n_1, n_2, n_3, n_4⟩ d), v84 ⟨n_0, n_1, n_2, n_3, n_4⟩ d)
  | _ => none
noncomputable def E68 (k : Nat) : Ctx := mkE tab [(50, .pure F50), (83, .pure F83), (84, .pure (Fk84 k)), (85, .pure F85)]
noncomputable def O68 : Nat → List DI := ordL []
theorem a68 (k : Nat) (n : Nd) (d : Int) (hm : m68 n d < k + 1) (hb : BdAs [.st (ndC n), .int .i64 d]) (ho : o68 n d) (K : AV → List AV → Prop) (hK : K (v68 n d) []) : abody (E68 k) O68 .ps Tryd.f68 (Tryd.f68.body.getD .skip) [.st (ndC n), .int .i64 d] K := by
  simp only [BdAs, BdA, BdL, BdC, MX, ndC, shC, itC, stC, opC, chC, nwC, flC, rqC, rsC, enc, List.cons_append, List.nil_append, and_true, true_and] at hb
  unfold o68 at ho
  unfold v68 at hK
  unfold m68 at hm
  have h0 : d = 0 → shapeM d.toNat n = false := fun e => by subst e; rfl
  have h1 : 0 < d → shapeM d.toNat n = (partsM n && n.kids.all (shapeM (d.toNat - 1))) := shapeM_pos n
  conv => whnf
  repeat' first|((first|refine Cnd.mk (fun h=>?_) (fun h=>?_)|refine Gd.mk (fun h=>?_))<;>(try simp [etas,elDef,-List.getD_eq_getElem?_getD] at h)<;>conv=>whnf)|((first|refine Obl.mk (by first|omega|rfl|exact inK_byte _|(simp only [inK,Int.toNat_natCast,etas,elDef,m68,m84,o84,m84]<;>first|omega|grind)|grind [inK,m68,m84,o84,m84]) ?_|refine OblG.mk (by ((conv=>whnf);(repeat (first|refine Bx.mk ?_|(intro h;(try simp [etas,elDef,-List.getD_eq_getElem?_getD] at h);conv=>whnf)));(first|omega|rfl|exact inK_byte _|(simp only [inK,Int.toNat_natCast,etas,elDef,m68,m84,o84,m84]<;>first|omega|grind)|grind [inK,m68,m84,o84,m84]))) ?_|refine And.intro ?_ ?_)<;>conv=>whnf)|exact True.intro|(intro;conv=>whnf)
  all_goals exact leafB hK (by grind (splits := 20) [partsM, areNamesM])
noncomputable def E84 (k : Nat) : Ctx := mkE tab [(68, .pure (Fk68 k))]
noncomputable def O84 : Nat → List DI := ordL []
theorem a84 (k : Nat) (n : Nd) (d : Int) (hm : m84 n d < k + 1) (hb : BdAs [.st (ndC n), .int .i64 d]) (ho : o84 n d) (K : AV → List AV → Prop) (hK : K (v84 n d) []) : abody (E84 k) O84 .ps Tryd.f84 (Tryd.f84.body.getD .skip) [.st (ndC n), .int .i64 d] K := by
  simp only [BdAs, BdA, BdL, BdC, MX, ndC, shC, itC, stC, opC, chC, nwC, flC, rqC, rsC, enc, List.cons_append, List.nil_append, and_true, true_and] at hb
  unfold o84 at ho
  unfold v84 at hK
  unfold m84 at hm
  have hd : (d - 1).toNat = d.toNat - 1 := by omega
  conv => whnf
  refine aloop_intro Nat (fun k => k ≤ n.kids.length ∧ ∀ j, j < k → shapeM (d.toNat - 1) (n.kids.getD j default) = true) (fun k => n.kids.length - k) (fun k => [(5, .int .i64 k)]) (fun _ => []) [2] 0 [] [] ⟨by simp, by simp⟩ ?_ (by exact sgOk_of (by rfl)) ?_
  · iterate 2 ((all_goals (conv=>whnf));(repeat' (first|exact trivial|rfl|(refine nilEq ?_;first|rfl|(simp only [*];done)|(simp [*];done)|grind)|apply And.intro|((first|apply intEq|apply boolEq|apply strEq|apply psEq|apply nilEq|apply arrEq);(try simp only [Int.toNat_natCast,etas,elDef]);first | done | omega | grind | (simp only [*]; done) | (simp [*]; done)))));(all_goals ((try simp only [Int.toNat_natCast,etas,elDef]);first | done | omega | grind | (simp only [*]; done) | (simp [*]; done)))
  rintro i ⟨hk, hj⟩
  conv => whnf
  repeat' first|((first|refine Cnd.mk (fun h=>?_) (fun h=>?_)|refine Gd.mk (fun h=>?_))<;>(try simp [etas,elDef,-List.getD_eq_getElem?_getD] at h)<;>conv=>whnf)|((first|refine Obl.mk (by first|omega|rfl|exact inK_byte _|(simp only [inK,Int.toNat_natCast,etas,elDef,m68,m84,o68,m68]<;>first|omega|grind)|grind [inK,m68,m84,o68,m68]) ?_|refine OblG.mk (by ((conv=>whnf);(repeat (first|refine Bx.mk ?_|(intro h;(try simp [etas,elDef,-List.getD_eq_getElem?_getD] at h);conv=>whnf)));(first|omega|rfl|exact inK_byte _|(simp only [inK,Int.toNat_natCast,etas,elDef,m68,m84,o68,m68]<;>first|omega|grind)|grind [inK,m68,m84,o68,m68]))) ?_|refine And.intro ?_ ?_)<;>conv=>whnf)|exact True.intro|(intro;conv=>whnf)
  · exact leafB hK (allN_no (j := i) (by omega) (by grind))
  · refine ⟨i + 1, [], [], ⟨by omega, fun j hjl => ?_⟩, by omega, ?_, (by exact sgOk_of (by rfl))⟩
    · have : shapeM (d.toNat - 1) (n.kids.getD i default) = true := by grind
      grind
    · iterate 2 ((all_goals (conv=>whnf));(repeat' (first|exact trivial|rfl|(refine nilEq ?_;first|rfl|(simp only [*];done)|(simp [*];done)|grind)|apply And.intro|((first|apply intEq|apply boolEq|apply strEq|apply psEq|apply nilEq|apply arrEq);(try simp only [Int.toNat_natCast,etas,elDef]);first | done | omega | grind | (simp only [*]; done) | (simp [*]; done)))));(all_goals ((try simp only [Int.toNat_natCast,etas,elDef]);first | done | omega | grind | (simp only [*]; done) | (simp [*]; done)))
  · exact leafB hK ((allN_iff _ _).2 (by grind))
theorem r68_84 : ∀ k, (CtrOK Tryd.prog 68 (.pure (Fk68 k)) ∧ Callable Tryd.prog 68) ∧ (CtrOK Tryd.prog 84 (.pure (Fk84 k)) ∧ Callable Tryd.prog 84) := by
  intro k
  induction k with
  | zero =>
    exact ⟨⟨⟨fun args o v h => by unfold Fk68 at h; split at h <;> cases h; first | trivial | (simp [v68, Scalar, Scalar2, Scalar1, stC, ndC, itC, chC, nwC]), fun args K h => by
        unfold pureC Fk68 at h; split at h
        · rename_i h1; split at h1 <;> cases h1; exact absurd (h.1 _ rfl).1 (Nat.not_lt_zero _)
        · exact h.elim⟩, callable Tryd.func68 rfl (by rfl)⟩, ⟨⟨fun args o v h => by unfold Fk84 at h; split at h <;> cases h; first | trivial | (simp [v84, Scalar, Scalar2, Scalar1, stC, ndC, itC, chC, nwC]), fun args K h => by
        unfold pureC Fk84 at h; split at h
        · rename_i h1; split at h1 <;> cases h1; exact absurd (h.1 _ rfl).1 (Nat.not_lt_zero _)
        · exact h.elim⟩, callable Tryd.func84 rfl (by rfl)⟩⟩
  | succ k ih =>
    refine ⟨?_, ?_⟩
    · refine pure_ok (E := E68 k) (mkE_cons s50 (mkE_cons s83 (mkE_cons ih.2 (mkE_cons s85 (mkE_nil tab_ok))))) mix (O := O68) (F := (Fk68 (k + 1))) Tryd.func68 rfl (by rfl) (by kernel_rfl) (fun args o v h => ?_) (fun args o v h => ?_) (fun args o v h hbd hp K hK => ?_)
      · unfold Fk68 at h; split at h <;> cases h; first | trivial | (simp [v68, Scalar, Scalar2, Scalar1, stC, ndC, itC, chC, nwC])
      · unfold Fk68 at h; split at h <;> cases h; exact Nat.le_of_ble_eq_true rfl
      · unfold Fk68 at h; split at h
        case h_2 => cases h
        cases h
        exact a68 k ⟨_, _, _, _, _⟩ _ (hp _ rfl).1 (by exact hbd) (hp _ rfl).2 K hK
    · refine pure_ok (E := E84 k) (mkE_cons ih.1 (mkE_nil tab_ok)) mix (O := O84) (F := (Fk84 (k + 1))) Tryd.func84 rfl (by rfl) (by kernel_rfl) (fun args o v h => ?_) (fun args o v h => ?_) (fun args o v h hbd hp K hK => ?_)
      · unfold Fk84 at h; split at h <;> cases h; first | trivial | (simp [v84, Scalar, Scalar2, Scalar1, stC, ndC, itC, chC, nwC])
      · unfold Fk84 at h; split at h <;> cases h; exact Nat.le_of_ble_eq_true rfl
      · unfold Fk84 at h; split at h
        case h_2 => cases h
        cases h
        exact a84 k ⟨_, _, _, _, _⟩ _ (hp _ rfl).1 (by exact hbd) (hp _ rfl).2 K hK
theorem s68 : (CtrOK Tryd.prog 68 (.pure F68) ∧ Callable Tryd.prog 68) := by
  refine ⟨⟨fun args o v h => ?_, fun args K h => ?_⟩, (r68_84 0).1.2⟩
  · unfold F68 at h; split at h <;> cases h; first | trivial | (simp [v68, Scalar, Scalar2, Scalar1, stC, ndC, itC, chC, nwC])
  · unfold pureC F68 at h; split at h
    · rename_i h1; split at h1 <;> cases h1
      exact (r68_84 (m68 ⟨_, _, _, _, _⟩ _ + 1)).1.1.2 _ K ⟨fun p hp => by cases hp; exact ⟨Nat.lt_succ_self _, (h.1 _ rfl)⟩, h.2⟩
    · exact h.elim
end Go.Rs

