import Derived.Test.YtfaaemggaliojaaGreatDoorBase
import Derived.Test.YtfaaemggaliojaaGreatDoorMA
set_option linter.all false
set_option linter.unusedSimpArgs false
set_option linter.unusedVariables false
namespace Go.Rs
open Go.Proofs
set_option maxRecDepth 100000
noncomputable def v39 (n : Int) (a : Int) (b : Int) : AV := .bool (decide (a ≤ n) && decide (n ≤ b))
noncomputable def o39 (n : Int) (a : Int) (b : Int) : Prop := True
noncomputable def F39 : List AV → QR
  | [.int .i64 n, .int .i64 a, .int .i64 b] => some (none, v39 n a b)
  | _ => none
noncomputable def E39 : Ctx := mkE tab []
noncomputable def O39 : Nat → List DI := ordL []
theorem a39 (n : Int) (a : Int) (b : Int) (hb : BdAs [.int .i64 n, .int .i64 a, .int .i64 b]) (ho : o39 n a b) (K : AV → List AV → Prop) (hK : K (v39 n a b) []) : abody E39 O39 .ps Tryz.f39 (Tryz.f39.body.getD .skip) [.int .i64 n, .int .i64 a, .int .i64 b] K := by
  simp only [BdAs, BdA, BdL, BdC, MX, ndC, shC, itC, stC, opC, chC, nwC, flC, rqC, rsC, enc, List.cons_append, List.nil_append, and_true, true_and] at hb
  unfold v39 at hK
  conv => whnf
  exact hK
theorem s39 : (CtrOK Tryz.prog 39 (.pure F39) ∧ Callable Tryz.prog 39) := by
  refine pure_ok (E := E39) (mkE_nil tab_ok) mix (O := O39) (F := F39) Tryz.func39 rfl (by rfl) (by kernel_rfl) (fun args o v h => ?_) (fun args o v h => ?_) (fun args o v h hbd hp K hK => ?_)
  · unfold F39 at h; split at h <;> cases h; first | trivial | (simp [v39, Scalar, Scalar2, Scalar1, stC, ndC, itC, chC, nwC])
  · unfold F39 at h; split at h <;> cases h; exact Nat.le_of_ble_eq_true rfl
  · unfold F39 at h; split at h
    case h_2 => cases h
    cases h
    exact a39 _ _ _ (by exact hbd) trivial K hK
noncomputable def v81 (b : Bool) : AV := .int .i64 (if b then 1 else 0)
noncomputable def o81 (b : Bool) : Prop := True
noncomputable def F81 : List AV → QR
  | [.bool b] => some (none, v81 b)
  | _ => none
noncomputable def E81 : Ctx := mkE tab []
noncomputable def O81 : Nat → List DI := ordL []
theorem a81 (b : Bool) (hb : BdAs [.bool b]) (ho : o81 b) (K : AV → List AV → Prop) (hK : K (v81 b) []) : abody E81 O81 .ps Tryz.f81 (Tryz.f81.body.getD .skip) [.bool b] K := by
  simp only [BdAs, BdA, BdL, BdC, MX, ndC, shC, itC, stC, opC, chC, nwC, flC, rqC, rsC, enc, List.cons_append, List.nil_append, and_true, true_and] at hb
  unfold v81 at hK
  conv => whnf
  repeat' first|(refine Cnd.mk (fun h=>?_) (fun h=>?_)<;>(try simp [etas,elDef,-List.getD_eq_getElem?_getD] at h)<;>conv=>whnf)|(refine Obl.mk (by first|omega|rfl|exact inK_byte _|(simp only [inK,Int.toNat_natCast,etas,elDef]<;>first|omega|grind)|grind [inK]) ?_<;>conv=>whnf)|(refine OblG.mk (by ((conv=>whnf);(repeat (first|(refine Bx.mk ?_)|(intro h;(try simp [etas,elDef,-List.getD_eq_getElem?_getD] at h);conv=>whnf)));(first|omega|rfl|exact inK_byte _|(simp only [inK,Int.toNat_natCast,etas,elDef]<;>first|omega|grind)|grind [inK]))) ?_<;>conv=>whnf)|(refine Gd.mk (fun h=>?_)<;>(try simp [etas,elDef,-List.getD_eq_getElem?_getD] at h)<;>conv=>whnf)|(refine And.intro ?_ ?_<;>conv=>whnf)|exact True.intro|(intro;conv=>whnf)
  all_goals exact leafI hK (by grind)
theorem s81 : (CtrOK Tryz.prog 81 (.pure F81) ∧ Callable Tryz.prog 81) := by
  refine pure_ok (E := E81) (mkE_nil tab_ok) mix (O := O81) (F := F81) Tryz.func81 rfl (by rfl) (by kernel_rfl) (fun args o v h => ?_) (fun args o v h => ?_) (fun args o v h hbd hp K hK => ?_)
  · unfold F81 at h; split at h <;> cases h; first | trivial | (simp [v81, Scalar, Scalar2, Scalar1, stC, ndC, itC, chC, nwC])
  · unfold F81 at h; split at h <;> cases h; exact Nat.le_of_ble_eq_true rfl
  · unfold F81 at h; split at h
    case h_2 => cases h
    cases h
    exact a81 _ (by exact hbd) trivial K hK
noncomputable def v69 (s : Bs) : AV := .bool (txtM s)
noncomputable def o69 (s : Bs) : Prop := True
noncomputable def F69 : List AV → QR
  | [.str s] => some (none, v69 s)
  | _ => none
noncomputable def E69 : Ctx := mkE tab [(39, .pure F39)]
noncomputable def O69 : Nat → List DI := ordL []
theorem a69 (s : Bs) (hb : BdAs [.str s]) (ho : o69 s) (K : AV → List AV → Prop) (hK : K (v69 s) []) : abody E69 O69 .ps Tryz.f69 (Tryz.f69.body.getD .skip) [.str s] K := by
  simp only [BdAs, BdA, BdL, BdC, MX, ndC, shC, itC, stC, opC, chC, nwC, flC, rqC, rsC, enc, List.cons_append, List.nil_append, and_true, true_and] at hb
  unfold v69 at hK
  conv => whnf
  refine aloop_intro Nat (fun k => k ≤ s.length ∧ ∀ j, j < k → chrOk (s.getD j 0) = true) (fun k => s.length - k) (fun k => [(3, .int .i64 k)]) (fun _ => []) [] 0 [] [] ⟨by simp, by simp⟩ ?_ (by exact sgOk_of (by rfl)) ?_
  · iterate 2 ((all_goals (conv=>whnf));(repeat' (first|exact trivial|rfl|(refine nilEq ?_;first|rfl|(simp only [*];done)|(simp [*];done)|grind)|apply And.intro|((first|refine intEq ?_|refine boolEq ?_|refine strEq ?_|refine psEq ?_|refine nilEq ?_|refine arrEq ?_);(try simp only [Int.toNat_natCast,etas,elDef]);first | done | omega | grind | (simp only [*]; done) | (simp [*]; done)))));(all_goals ((try simp only [Int.toNat_natCast,etas,elDef]);first | done | omega | grind | (simp only [*]; done) | (simp [*]; done)))
  rintro k ⟨hk, hj⟩
  conv => whnf
  repeat' first|(refine Cnd.mk (fun h=>?_) (fun h=>?_)<;>(try simp [etas,elDef,-List.getD_eq_getElem?_getD] at h)<;>conv=>whnf)|(refine Obl.mk (by first|omega|rfl|exact inK_byte _|(simp only [inK,Int.toNat_natCast,etas,elDef]<;>first|omega|grind)|grind [inK]) ?_<;>conv=>whnf)|(refine OblG.mk (by ((conv=>whnf);(repeat (first|(refine Bx.mk ?_)|(intro h;(try simp [etas,elDef,-List.getD_eq_getElem?_getD] at h);conv=>whnf)));(first|omega|rfl|exact inK_byte _|(simp only [inK,Int.toNat_natCast,etas,elDef]<;>first|omega|grind)|grind [inK]))) ?_<;>conv=>whnf)|(refine Gd.mk (fun h=>?_)<;>(try simp [etas,elDef,-List.getD_eq_getElem?_getD] at h)<;>conv=>whnf)|(refine And.intro ?_ ?_<;>conv=>whnf)|exact True.intro|(intro;conv=>whnf)
  · have : chrOk (s.getD k 0) = false := by grind [chrOk]
    exact leafB hK (by grind [txtM, all_no])
  · refine ⟨k + 1, [], [], ⟨by omega, fun j hjl => ?_⟩, by omega, ?_, (by exact sgOk_of (by rfl))⟩
    · have : chrOk (s.getD k 0) = true := by grind [chrOk]
      grind
    · iterate 2 ((all_goals (conv=>whnf));(repeat' (first|exact trivial|rfl|(refine nilEq ?_;first|rfl|(simp only [*];done)|(simp [*];done)|grind)|apply And.intro|((first|refine intEq ?_|refine boolEq ?_|refine strEq ?_|refine psEq ?_|refine nilEq ?_|refine arrEq ?_);(try simp only [Int.toNat_natCast,etas,elDef]);first | done | omega | grind | (simp only [*]; done) | (simp [*]; done)))));(all_goals ((try simp only [Int.toNat_natCast,etas,elDef]);first | done | omega | grind | (simp only [*]; done) | (simp [*]; done)))
  · have : s.all chrOk = true := (all_iff s _).2 (by grind)
    exact leafB hK (by grind [txtM])
theorem s69 : (CtrOK Tryz.prog 69 (.pure F69) ∧ Callable Tryz.prog 69) := by
  refine pure_ok (E := E69) (mkE_cons s39 (mkE_nil tab_ok)) mix (O := O69) (F := F69) Tryz.func69 rfl (by rfl) (by kernel_rfl) (fun args o v h => ?_) (fun args o v h => ?_) (fun args o v h hbd hp K hK => ?_)
  · unfold F69 at h; split at h <;> cases h; first | trivial | (simp [v69, Scalar, Scalar2, Scalar1, stC, ndC, itC, chC, nwC])
  · unfold F69 at h; split at h <;> cases h; exact Nat.le_of_ble_eq_true rfl
  · unfold F69 at h; split at h
    case h_2 => cases h
    cases h
    exact a69 _ (by exact hbd) trivial K hK
noncomputable def v76 (s : Bs) : AV := .bool (txtM s)
noncomputable def o76 (s : Bs) : Prop := True
noncomputable def F76 : List AV → QR
  | [.str s] => some (none, v76 s)
  | _ => none
noncomputable def E76 : Ctx := mkE tab []
noncomputable def O76 : Nat → List DI := ordL []
theorem a76 (s : Bs) (hb : BdAs [.str s]) (ho : o76 s) (K : AV → List AV → Prop) (hK : K (v76 s) []) : abody E76 O76 .ps Tryz.f76 (Tryz.f76.body.getD .skip) [.str s] K := by
  simp only [BdAs, BdA, BdL, BdC, MX, ndC, shC, itC, stC, opC, chC, nwC, flC, rqC, rsC, enc, List.cons_append, List.nil_append, and_true, true_and] at hb
  unfold v76 at hK
  conv => whnf
  repeat' first|(refine Cnd.mk (fun h=>?_) (fun h=>?_)<;>(try simp [etas,elDef,-List.getD_eq_getElem?_getD] at h)<;>conv=>whnf)|(refine Obl.mk (by first|omega|rfl|exact inK_byte _|(simp only [inK,Int.toNat_natCast,etas,elDef]<;>first|omega|grind)|grind [inK]) ?_<;>conv=>whnf)|(refine OblG.mk (by ((conv=>whnf);(repeat (first|(refine Bx.mk ?_)|(intro h;(try simp [etas,elDef,-List.getD_eq_getElem?_getD] at h);conv=>whnf)));(first|omega|rfl|exact inK_byte _|(simp only [inK,Int.toNat_natCast,etas,elDef]<;>first|omega|grind)|grind [inK]))) ?_<;>conv=>whnf)|(refine Gd.mk (fun h=>?_)<;>(try simp [etas,elDef,-List.getD_eq_getElem?_getD] at h)<;>conv=>whnf)|(refine And.intro ?_ ?_<;>conv=>whnf)|exact True.intro|(intro;conv=>whnf)
  · exact leafB hK (by grind [txtM])
  refine aloop_intro Nat (fun k => k ≤ s.length ∧ ∀ j, j < k → chrOk (s.getD j 0) = true) (fun k => s.length - k) (fun k => [(3, .int .i64 k)]) (fun _ => []) [] 0 [] [] ⟨by simp, by simp⟩ ?_ (by exact sgOk_of (by rfl)) ?_
  · iterate 2 ((all_goals (conv=>whnf));(repeat' (first|exact trivial|rfl|(refine nilEq ?_;first|rfl|(simp only [*];done)|(simp [*];done)|grind)|apply And.intro|((first|refine intEq ?_|refine boolEq ?_|refine strEq ?_|refine psEq ?_|refine nilEq ?_|refine arrEq ?_);(try simp only [Int.toNat_natCast,etas,elDef]);first | done | omega | grind | (simp only [*]; done) | (simp [*]; done)))));(all_goals ((try simp only [Int.toNat_natCast,etas,elDef]);first | done | omega | grind | (simp only [*]; done) | (simp [*]; done)))
  rintro k ⟨hk, hj⟩
  conv => whnf
  repeat' first|(refine Cnd.mk (fun h=>?_) (fun h=>?_)<;>(try simp [etas,elDef,-List.getD_eq_getElem?_getD] at h)<;>conv=>whnf)|(refine Obl.mk (by first|omega|rfl|exact inK_byte _|(simp only [inK,Int.toNat_natCast,etas,elDef]<;>first|omega|grind)|grind [inK]) ?_<;>conv=>whnf)|(refine OblG.mk (by ((conv=>whnf);(repeat (first|(refine Bx.mk ?_)|(intro h;(try simp [etas,elDef,-List.getD_eq_getElem?_getD] at h);conv=>whnf)));(first|omega|rfl|exact inK_byte _|(simp only [inK,Int.toNat_natCast,etas,elDef]<;>first|omega|grind)|grind [inK]))) ?_<;>conv=>whnf)|(refine Gd.mk (fun h=>?_)<;>(try simp [etas,elDef,-List.getD_eq_getElem?_getD] at h)<;>conv=>whnf)|(refine And.intro ?_ ?_<;>conv=>whnf)|exact True.intro|(intro;conv=>whnf)
  · have : chrOk (s.getD k 0) = false := by grind [chrOk]
    exact leafB hK (by grind [txtM, all_no])
  · refine ⟨k + 1, [], [], ⟨by omega, fun j hjl => ?_⟩, by omega, ?_, (by exact sgOk_of (by rfl))⟩
    · have : chrOk (s.getD k 0) = true := by grind [chrOk]
      grind
    · iterate 2 ((all_goals (conv=>whnf));(repeat' (first|exact trivial|rfl|(refine nilEq ?_;first|rfl|(simp only [*];done)|(simp [*];done)|grind)|apply And.intro|((first|refine intEq ?_|refine boolEq ?_|refine strEq ?_|refine psEq ?_|refine nilEq ?_|refine arrEq ?_);(try simp only [Int.toNat_natCast,etas,elDef]);first | done | omega | grind | (simp only [*]; done) | (simp [*]; done)))));(all_goals ((try simp only [Int.toNat_natCast,etas,elDef]);first | done | omega | grind | (simp only [*]; done) | (simp [*]; done)))
  · have : s.all chrOk = true := (all_iff s _).2 (by grind)
    exact leafB hK (by grind [txtM])
theorem s76 : (CtrOK Tryz.prog 76 (.pure F76) ∧ Callable Tryz.prog 76) := by
  refine pure_ok (E := E76) (mkE_nil tab_ok) mix (O := O76) (F := F76) Tryz.func76 rfl (by rfl) (by kernel_rfl) (fun args o v h => ?_) (fun args o v h => ?_) (fun args o v h hbd hp K hK => ?_)
  · unfold F76 at h; split at h <;> cases h; first | trivial | (simp [v76, Scalar, Scalar2, Scalar1, stC, ndC, itC, chC, nwC])
  · unfold F76 at h; split at h <;> cases h; exact Nat.le_of_ble_eq_true rfl
  · unfold F76 at h; split at h
    case h_2 => cases h
    cases h
    exact a76 _ (by exact hbd) trivial K hK
noncomputable def v82 (l : List Bs) : AV := .bool (areNamesM l)
noncomputable def o82 (l : List Bs) : Prop := True
noncomputable def F82 : List AV → QR
  | [.ps .str l] => some (none, v82 l)
  | _ => none
noncomputable def E82 : Ctx := mkE tab [(76, .pure F76)]
noncomputable def O82 : Nat → List DI := ordL []
theorem a82 (l : List Bs) (hb : BdAs [.ps .str l]) (ho : o82 l) (K : AV → List AV → Prop) (hK : K (v82 l) []) : abody E82 O82 .ps Tryz.f82 (Tryz.f82.body.getD .skip) [.ps .str l] K := by
  simp only [BdAs, BdA, BdL, BdC, MX, ndC, shC, itC, stC, opC, chC, nwC, flC, rqC, rsC, enc, List.cons_append, List.nil_append, and_true, true_and] at hb
  unfold v82 at hK
  conv => whnf
  repeat' first|(refine Cnd.mk (fun h=>?_) (fun h=>?_)<;>(try simp [etas,elDef,-List.getD_eq_getElem?_getD] at h)<;>conv=>whnf)|(refine Obl.mk (by first|omega|rfl|exact inK_byte _|(simp only [inK,Int.toNat_natCast,etas,elDef]<;>first|omega|grind)|grind [inK]) ?_<;>conv=>whnf)|(refine OblG.mk (by ((conv=>whnf);(repeat (first|(refine Bx.mk ?_)|(intro h;(try simp [etas,elDef,-List.getD_eq_getElem?_getD] at h);conv=>whnf)));(first|omega|rfl|exact inK_byte _|(simp only [inK,Int.toNat_natCast,etas,elDef]<;>first|omega|grind)|grind [inK]))) ?_<;>conv=>whnf)|(refine Gd.mk (fun h=>?_)<;>(try simp [etas,elDef,-List.getD_eq_getElem?_getD] at h)<;>conv=>whnf)|(refine And.intro ?_ ?_<;>conv=>whnf)|exact True.intro|(intro;conv=>whnf)
  · exact leafB hK (by grind [areNamesM])
  refine aloop_intro Nat (fun k => k ≤ l.length ∧ ∀ j, j < k → nameOk l j = true) (fun k => l.length - k) (fun k => [(10, .int .i64 k)]) (fun _ => []) [] 0 [] [] ⟨by simp, by simp⟩ ?_ (by exact sgOk_of (by rfl)) ?_
  · iterate 2 ((all_goals (conv=>whnf));(repeat' (first|exact trivial|rfl|(refine nilEq ?_;first|rfl|(simp only [*];done)|(simp [*];done)|grind)|apply And.intro|((first|refine intEq ?_|refine boolEq ?_|refine strEq ?_|refine psEq ?_|refine nilEq ?_|refine arrEq ?_);(try simp only [Int.toNat_natCast,etas,elDef]);first | done | omega | grind | (simp only [*]; done) | (simp [*]; done)))));(all_goals ((try simp only [Int.toNat_natCast,etas,elDef]);first | done | omega | grind | (simp only [*]; done) | (simp [*]; done)))
  rintro k ⟨hk, hj⟩
  conv => whnf
  repeat' first|(refine Cnd.mk (fun h=>?_) (fun h=>?_)<;>(try simp [etas,elDef,-List.getD_eq_getElem?_getD] at h)<;>conv=>whnf)|(refine Obl.mk (by first|omega|rfl|exact inK_byte _|(simp only [inK,Int.toNat_natCast,etas,elDef]<;>first|omega|grind)|grind [inK]) ?_<;>conv=>whnf)|(refine OblG.mk (by ((conv=>whnf);(repeat (first|(refine Bx.mk ?_)|(intro h;(try simp [etas,elDef,-List.getD_eq_getElem?_getD] at h);conv=>whnf)));(first|omega|rfl|exact inK_byte _|(simp only [inK,Int.toNat_natCast,etas,elDef]<;>first|omega|grind)|grind [inK]))) ?_<;>conv=>whnf)|(refine Gd.mk (fun h=>?_)<;>(try simp [etas,elDef,-List.getD_eq_getElem?_getD] at h)<;>conv=>whnf)|(refine And.intro ?_ ?_<;>conv=>whnf)|exact True.intro|(intro;conv=>whnf)
  · have : nameOk l k = false := by grind [nameOk]
    exact leafB hK (by grind [areNamesM, namesM_no])
  · refine ⟨k + 1, [], [], ⟨by omega, fun j hjl => ?_⟩, by omega, ?_, (by exact sgOk_of (by rfl))⟩
    · have : nameOk l k = true := by grind [nameOk]
      grind
    · iterate 2 ((all_goals (conv=>whnf));(repeat' (first|exact trivial|rfl|(refine nilEq ?_;first|rfl|(simp only [*];done)|(simp [*];done)|grind)|apply And.intro|((first|refine intEq ?_|refine boolEq ?_|refine strEq ?_|refine psEq ?_|refine nilEq ?_|refine arrEq ?_);(try simp only [Int.toNat_natCast,etas,elDef]);first | done | omega | grind | (simp only [*]; done) | (simp [*]; done)))));(all_goals ((try simp only [Int.toNat_natCast,etas,elDef]);first | done | omega | grind | (simp only [*]; done) | (simp [*]; done)))
  · have : namesM l = true := (namesM_iff l).2 (by grind)
    exact leafB hK (by grind [areNamesM])
theorem s82 : (CtrOK Tryz.prog 82 (.pure F82) ∧ Callable Tryz.prog 82) := by
  refine pure_ok (E := E82) (mkE_cons s76 (mkE_nil tab_ok)) mix (O := O82) (F := F82) Tryz.func82 rfl (by rfl) (by kernel_rfl) (fun args o v h => ?_) (fun args o v h => ?_) (fun args o v h hbd hp K hK => ?_)
  · unfold F82 at h; split at h <;> cases h; first | trivial | (simp [v82, Scalar, Scalar2, Scalar1, stC, ndC, itC, chC, nwC])
  · unfold F82 at h; split at h <;> cases h; exact Nat.le_of_ble_eq_true rfl
  · unfold F82 at h; split at h
    case h_2 => cases h
    cases h
    exact a82 _ (by exact hbd) trivial K hK
noncomputable def v71 (l : List Bs) : AV := .bool (namesM l)
noncomputable def o71 (l : List Bs) : Prop := True
noncomputable def F71 : List AV → QR
  | [.ps .str l] => some (none, v71 l)
  | _ => none
noncomputable def E71 : Ctx := mkE tab [(69, .pure F69)]
noncomputable def O71 : Nat → List DI := ordL [(4, [.q 0, .q 1, .q 2, .q 3, .q 4, .q 5, .q 6, .q 7, .q 8, .q 9, .q 10, .q 11, .q 12, .q 13, .q 14, .q 15, .q 16, .q 17, .q 18, .q 19, .q 20, .q 21])]
theorem a71 (l : List Bs) (hb : BdAs [.ps .str l]) (ho : o71 l) (K : AV → List AV → Prop) (hK : K (v71 l) []) : abody E71 O71 .ps Tryz.f71 (Tryz.f71.body.getD .skip) [.ps .str l] K := by
  simp only [BdAs, BdA, BdL, BdC, MX, ndC, shC, itC, stC, opC, chC, nwC, flC, rqC, rsC, enc, List.cons_append, List.nil_append, and_true, true_and] at hb
  unfold v71 at hK
  conv => whnf
  refine aloop_intro Nat (fun k => k ≤ l.length ∧ ∀ j, j < k → nameOk l j = true) (fun k => l.length - k) (fun k => [(3, .int .i64 k)]) (fun _ => []) [] 0 [] [] ⟨by simp, by simp⟩ ?_ (by exact sgOk_of (by rfl)) ?_
  · iterate 2 ((all_goals (conv=>whnf));(repeat' (first|exact trivial|rfl|(refine nilEq ?_;first|rfl|(simp only [*];done)|(simp [*];done)|grind)|apply And.intro|((first|refine intEq ?_|refine boolEq ?_|refine strEq ?_|refine psEq ?_|refine nilEq ?_|refine arrEq ?_);(try simp only [Int.toNat_natCast,etas,elDef]);first | done | omega | grind | (simp only [*]; done) | (simp [*]; done)))));(all_goals ((try simp only [Int.toNat_natCast,etas,elDef]);first | done | omega | grind | (simp only [*]; done) | (simp [*]; done)))
  rintro k ⟨hk, hj⟩
  conv => whnf
  repeat' first|(refine Cnd.mk (fun h=>?_) (fun h=>?_)<;>(try simp [etas,elDef,-List.getD_eq_getElem?_getD] at h)<;>conv=>whnf)|(refine Obl.mk (by first|omega|rfl|exact inK_byte _|(simp only [inK,Int.toNat_natCast,etas,elDef]<;>first|omega|grind)|grind [inK]) ?_<;>conv=>whnf)|(refine OblG.mk (by ((conv=>whnf);(repeat (first|(refine Bx.mk ?_)|(intro h;(try simp [etas,elDef,-List.getD_eq_getElem?_getD] at h);conv=>whnf)));(first|omega|rfl|exact inK_byte _|(simp only [inK,Int.toNat_natCast,etas,elDef]<;>first|omega|grind)|grind [inK]))) ?_<;>conv=>whnf)|(refine Gd.mk (fun h=>?_)<;>(try simp [etas,elDef,-List.getD_eq_getElem?_getD] at h)<;>conv=>whnf)|(refine And.intro ?_ ?_<;>conv=>whnf)|exact True.intro|(intro;conv=>whnf)
  · have : nameOk l k = false := by grind [nameOk]
    exact leafB hK (by grind [namesM_no])
  · refine ⟨k + 1, [], [], ⟨by omega, fun j hjl => ?_⟩, by omega, ?_, (by exact sgOk_of (by rfl))⟩
    · have : nameOk l k = true := by grind [nameOk]
      grind
    · iterate 2 ((all_goals (conv=>whnf));(repeat' (first|exact trivial|rfl|(refine nilEq ?_;first|rfl|(simp only [*];done)|(simp [*];done)|grind)|apply And.intro|((first|refine intEq ?_|refine boolEq ?_|refine strEq ?_|refine psEq ?_|refine nilEq ?_|refine arrEq ?_);(try simp only [Int.toNat_natCast,etas,elDef]);first | done | omega | grind | (simp only [*]; done) | (simp [*]; done)))));(all_goals ((try simp only [Int.toNat_natCast,etas,elDef]);first | done | omega | grind | (simp only [*]; done) | (simp [*]; done)))
  · have : namesM l = true := (namesM_iff l).2 (by grind)
    exact leafB hK (by grind)
theorem s71 : (CtrOK Tryz.prog 71 (.pure F71) ∧ Callable Tryz.prog 71) := by
  refine pure_ok (E := E71) (mkE_cons s69 (mkE_nil tab_ok)) mix (O := O71) (F := F71) Tryz.func71 rfl (by rfl) (by kernel_rfl) (fun args o v h => ?_) (fun args o v h => ?_) (fun args o v h hbd hp K hK => ?_)
  · unfold F71 at h; split at h <;> cases h; first | trivial | (simp [v71, Scalar, Scalar2, Scalar1, stC, ndC, itC, chC, nwC])
  · unfold F71 at h; split at h <;> cases h; exact Nat.le_of_ble_eq_true rfl
  · unfold F71 at h; split at h
    case h_2 => cases h
    cases h
    exact a71 _ (by exact hbd) trivial K hK
noncomputable def v75 (n : Nd) : AV := .bool (partsM n)
noncomputable def o75 (n : Nd) : Prop := True
noncomputable def F75 : List AV → QR
  | [.st [.int .i64 n_0, .int .i64 n_1, .str n_2, .ps .str n_3, .ps .node n_4]] => some (none, v75 ⟨n_0, n_1, n_2, n_3, n_4⟩)
  | _ => none
noncomputable def E75 : Ctx := mkE tab [(76, .pure F76), (82, .pure F82)]
noncomputable def O75 : Nat → List DI := ordL []
theorem a75 (n : Nd) (hb : BdAs [.st (ndC n)]) (ho : o75 n) (K : AV → List AV → Prop) (hK : K (v75 n) []) : abody E75 O75 .ps Tryz.f75 (Tryz.f75.body.getD .skip) [.st (ndC n)] K := by
  simp only [BdAs, BdA, BdL, BdC, MX, ndC, shC, itC, stC, opC, chC, nwC, flC, rqC, rsC, enc, List.cons_append, List.nil_append, and_true, true_and] at hb
  unfold v75 at hK
  conv => whnf
  repeat' first|(refine Cnd.mk (fun h=>?_) (fun h=>?_)<;>(try simp [etas,elDef,-List.getD_eq_getElem?_getD] at h)<;>conv=>whnf)|(refine Obl.mk (by first|omega|rfl|exact inK_byte _|(simp only [inK,Int.toNat_natCast,etas,elDef]<;>first|omega|grind)|grind [inK]) ?_<;>conv=>whnf)|(refine OblG.mk (by ((conv=>whnf);(repeat (first|(refine Bx.mk ?_)|(intro h;(try simp [etas,elDef,-List.getD_eq_getElem?_getD] at h);conv=>whnf)));(first|omega|rfl|exact inK_byte _|(simp only [inK,Int.toNat_natCast,etas,elDef]<;>first|omega|grind)|grind [inK]))) ?_<;>conv=>whnf)|(refine Gd.mk (fun h=>?_)<;>(try simp [etas,elDef,-List.getD_eq_getElem?_getD] at h)<;>conv=>whnf)|(refine And.intro ?_ ?_<;>conv=>whnf)|exact True.intro|(intro;conv=>whnf)
  all_goals exact leafB hK (by grind [partsM])
theorem s75 : (CtrOK Tryz.prog 75 (.pure F75) ∧ Callable Tryz.prog 75) := by
  refine pure_ok (E := E75) (mkE_cons s76 (mkE_cons s82 (mkE_nil tab_ok))) mix (O := O75) (F := F75) Tryz.func75 rfl (by rfl) (by kernel_rfl) (fun args o v h => ?_) (fun args o v h => ?_) (fun args o v h hbd hp K hK => ?_)
  · unfold F75 at h; split at h <;> cases h; first | trivial | (simp [v75, Scalar, Scalar2, Scalar1, stC, ndC, itC, chC, nwC])
  · unfold F75 at h; split at h <;> cases h; exact Nat.le_of_ble_eq_true rfl
  · unfold F75 at h; split at h
    case h_2 => cases h
    cases h
    exact a75 ⟨_, _, _, _, _⟩ (by exact hbd) trivial K hK
noncomputable def v57 (n : Nd) (d : Int) : AV := .bool (shapeM d.toNat n)
noncomputable def o57 (n : Nd) (d : Int) : Prop := 0 ≤ d ∧ d ≤ 5
noncomputable def m57 (n : Nd) (d : Int) : Nat := 2 * d.toNat
noncomputable def F57 : List AV → QR
  | [.st [.int .i64 n_0, .int .i64 n_1, .str n_2, .ps .str n_3, .ps .node n_4], .int .i64 d] => some (some (o57 ⟨n_0, n_1, n_2, n_3, n_4⟩ d), v57 ⟨n_0, n_1, n_2, n_3, n_4⟩ d)
  | _ => none
noncomputable def Fk57 (k : Nat) : List AV → QR
  | [.st [.int .i64 n_0, .int .i64 n_1, .str n_2, .ps .str n_3, .ps .node n_4], .int .i64 d] => some (some (m57 ⟨n_0, n_1, n_2, n_3, n_4⟩ d < k ∧ o57 ⟨n_0, n_1, n_2, n_3, n_4⟩ d), v57 ⟨n_0, n_1, n_2, n_3, n_4⟩ d)
  | _ => none
noncomputable def v70 (n : Nd) (d : Int) : AV := .bool (n.kids.all (shapeM (d.toNat - 1)))
noncomputable def o70 (n : Nd) (d : Int) : Prop := 1 ≤ d ∧ d ≤ 5
noncomputable def m70 (n : Nd) (d : Int) : Nat := 2 * d.toNat - 1
noncomputable def Fk70 (k : Nat) : List AV → QR
  | [.st [.int .i64 n_0, .int .i64 n_1, .str n_2, .ps .str n_3, .ps .node n_4], .int .i64 d] => some (some (m70 ⟨n_0, n_1, n_2, n_3, n_4⟩ d < k ∧ o70 ⟨n_0, n_1, n_2, n_3, n_4⟩ d), v70 ⟨n_0, n_1, n_2, n_3, n_4⟩ d)
  | _ => none
noncomputable def E57 (k : Nat) : Ctx := mkE tab [(39, .pure F39), (69, .pure F69), (70, .pure (Fk70 k)), (71, .pure F71)]
noncomputable def O57 : Nat → List DI := ordL []
theorem a57 (k : Nat) (n : Nd) (d : Int) (hm : m57 n d < k + 1) (hb : BdAs [.st (ndC n), .int .i64 d]) (ho : o57 n d) (K : AV → List AV → Prop) (hK : K (v57 n d) []) : abody (E57 k) O57 .ps Tryz.f57 (Tryz.f57.body.getD .skip) [.st (ndC n), .int .i64 d] K := by
  simp only [BdAs, BdA, BdL, BdC, MX, ndC, shC, itC, stC, opC, chC, nwC, flC, rqC, rsC, enc, List.cons_append, List.nil_append, and_true, true_and] at hb
  unfold o57 at ho
  unfold v57 at hK
  unfold m57 at hm
  have h0 : d = 0 → shapeM d.toNat n = false := fun e => by subst e; rfl
  have h1 : 0 < d → shapeM d.toNat n = (partsM n && n.kids.all (shapeM (d.toNat - 1))) := shapeM_pos n
  conv => whnf
  repeat' first|(refine Cnd.mk (fun h=>?_) (fun h=>?_)<;>(try simp [etas,elDef,-List.getD_eq_getElem?_getD] at h)<;>conv=>whnf)|(refine Obl.mk (by first|omega|rfl|exact inK_byte _|(simp only [inK,Int.toNat_natCast,etas,elDef,m57,m70,o70,m70]<;>first|omega|grind)|grind [inK,m57,m70,o70,m70]) ?_<;>conv=>whnf)|(refine OblG.mk (by ((conv=>whnf);(repeat (first|(refine Bx.mk ?_)|(intro h;(try simp [etas,elDef,-List.getD_eq_getElem?_getD] at h);conv=>whnf)));(first|omega|rfl|exact inK_byte _|(simp only [inK,Int.toNat_natCast,etas,elDef,m57,m70,o70,m70]<;>first|omega|grind)|grind [inK,m57,m70,o70,m70]))) ?_<;>conv=>whnf)|(refine Gd.mk (fun h=>?_)<;>(try simp [etas,elDef,-List.getD_eq_getElem?_getD] at h)<;>conv=>whnf)|(refine And.intro ?_ ?_<;>conv=>whnf)|exact True.intro|(intro;conv=>whnf)
  all_goals exact leafB hK (by grind (splits := 20) [partsM, areNamesM])
noncomputable def E70 (k : Nat) : Ctx := mkE tab [(57, .pure (Fk57 k))]
noncomputable def O70 : Nat → List DI := ordL []
theorem a70 (k : Nat) (n : Nd) (d : Int) (hm : m70 n d < k + 1) (hb : BdAs [.st (ndC n), .int .i64 d]) (ho : o70 n d) (K : AV → List AV → Prop) (hK : K (v70 n d) []) : abody (E70 k) O70 .ps Tryz.f70 (Tryz.f70.body.getD .skip) [.st (ndC n), .int .i64 d] K := by
  simp only [BdAs, BdA, BdL, BdC, MX, ndC, shC, itC, stC, opC, chC, nwC, flC, rqC, rsC, enc, List.cons_append, List.nil_append, and_true, true_and] at hb
  unfold o70 at ho
  unfold v70 at hK
  unfold m70 at hm
  have hd : (d - 1).toNat = d.toNat - 1 := by omega
  conv => whnf
  refine aloop_intro Nat (fun k => k ≤ n.kids.length ∧ ∀ j, j < k → shapeM (d.toNat - 1) (n.kids.getD j default) = true) (fun k => n.kids.length - k) (fun k => [(5, .int .i64 k)]) (fun _ => []) [2] 0 [] [] ⟨by simp, by simp⟩ ?_ (by exact sgOk_of (by rfl)) ?_
  · iterate 2 ((all_goals (conv=>whnf));(repeat' (first|exact trivial|rfl|(refine nilEq ?_;first|rfl|(simp only [*];done)|(simp [*];done)|grind)|apply And.intro|((first|refine intEq ?_|refine boolEq ?_|refine strEq ?_|refine psEq ?_|refine nilEq ?_|refine arrEq ?_);(try simp only [Int.toNat_natCast,etas,elDef]);first | done | omega | grind | (simp only [*]; done) | (simp [*]; done)))));(all_goals ((try simp only [Int.toNat_natCast,etas,elDef]);first | done | omega | grind | (simp only [*]; done) | (simp [*]; done)))
  rintro i ⟨hk, hj⟩
  conv => whnf
  repeat' first|(refine Cnd.mk (fun h=>?_) (fun h=>?_)<;>(try simp [etas,elDef,-List.getD_eq_getElem?_getD] at h)<;>conv=>whnf)|(refine Obl.mk (by first|omega|rfl|exact inK_byte _|(simp only [inK,Int.toNat_natCast,etas,elDef,m57,m70,o57,m57]<;>first|omega|grind)|grind [inK,m57,m70,o57,m57]) ?_<;>conv=>whnf)|(refine OblG.mk (by ((conv=>whnf);(repeat (first|(refine Bx.mk ?_)|(intro h;(try simp [etas,elDef,-List.getD_eq_getElem?_getD] at h);conv=>whnf)));(first|omega|rfl|exact inK_byte _|(simp only [inK,Int.toNat_natCast,etas,elDef,m57,m70,o57,m57]<;>first|omega|grind)|grind [inK,m57,m70,o57,m57]))) ?_<;>conv=>whnf)|(refine Gd.mk (fun h=>?_)<;>(try simp [etas,elDef,-List.getD_eq_getElem?_getD] at h)<;>conv=>whnf)|(refine And.intro ?_ ?_<;>conv=>whnf)|exact True.intro|(intro;conv=>whnf)
  · exact leafB hK (allN_no (j := i) (by omega) (by grind))
  · refine ⟨i + 1, [], [], ⟨by omega, fun j hjl => ?_⟩, by omega, ?_, (by exact sgOk_of (by rfl))⟩
    · have : shapeM (d.toNat - 1) (n.kids.getD i default) = true := by grind
      grind
    · iterate 2 ((all_goals (conv=>whnf));(repeat' (first|exact trivial|rfl|(refine nilEq ?_;first|rfl|(simp only [*];done)|(simp [*];done)|grind)|apply And.intro|((first|refine intEq ?_|refine boolEq ?_|refine strEq ?_|refine psEq ?_|refine nilEq ?_|refine arrEq ?_);(try simp only [Int.toNat_natCast,etas,elDef]);first | done | omega | grind | (simp only [*]; done) | (simp [*]; done)))));(all_goals ((try simp only [Int.toNat_natCast,etas,elDef]);first | done | omega | grind | (simp only [*]; done) | (simp [*]; done)))
  · exact leafB hK ((allN_iff _ _).2 (by grind))
theorem r57_70 : ∀ k, (CtrOK Tryz.prog 57 (.pure (Fk57 k)) ∧ Callable Tryz.prog 57) ∧ (CtrOK Tryz.prog 70 (.pure (Fk70 k)) ∧ Callable Tryz.prog 70) := by
  intro k
  induction k with
  | zero =>
    exact ⟨⟨⟨fun args o v h => by unfold Fk57 at h; split at h <;> cases h; first | trivial | (simp [v57, Scalar, Scalar2, Scalar1, stC, ndC, itC, chC, nwC]), fun args K h => by
        unfold pureC Fk57 at h; split at h
        · rename_i h1; split at h1 <;> cases h1; exact absurd (h.1 _ rfl).1 (Nat.not_lt_zero _)
        · exact h.elim⟩, callable Tryz.func57 rfl (by rfl)⟩, ⟨⟨fun args o v h => by unfold Fk70 at h; split at h <;> cases h; first | trivial | (simp [v70, Scalar, Scalar2, Scalar1, stC, ndC, itC, chC, nwC]), fun args K h => by
        unfold pureC Fk70 at h; split at h
        · rename_i h1; split at h1 <;> cases h1; exact absurd (h.1 _ rfl).1 (Nat.not_lt_zero _)
        · exact h.elim⟩, callable Tryz.func70 rfl (by rfl)⟩⟩
  | succ k ih =>
    refine ⟨?_, ?_⟩
    · refine pure_ok (E := E57 k) (mkE_cons s39 (mkE_cons s69 (mkE_cons ih.2 (mkE_cons s71 (mkE_nil tab_ok))))) mix (O := O57) (F := (Fk57 (k + 1))) Tryz.func57 rfl (by rfl) (by kernel_rfl) (fun args o v h => ?_) (fun args o v h => ?_) (fun args o v h hbd hp K hK => ?_)
      · unfold Fk57 at h; split at h <;> cases h; first | trivial | (simp [v57, Scalar, Scalar2, Scalar1, stC, ndC, itC, chC, nwC])
      · unfold Fk57 at h; split at h <;> cases h; exact Nat.le_of_ble_eq_true rfl
      · unfold Fk57 at h; split at h
        case h_2 => cases h
        cases h
        exact a57 k ⟨_, _, _, _, _⟩ _ (hp _ rfl).1 (by exact hbd) (hp _ rfl).2 K hK
    · refine pure_ok (E := E70 k) (mkE_cons ih.1 (mkE_nil tab_ok)) mix (O := O70) (F := (Fk70 (k + 1))) Tryz.func70 rfl (by rfl) (by kernel_rfl) (fun args o v h => ?_) (fun args o v h => ?_) (fun args o v h hbd hp K hK => ?_)
      · unfold Fk70 at h; split at h <;> cases h; first | trivial | (simp [v70, Scalar, Scalar2, Scalar1, stC, ndC, itC, chC, nwC])
      · unfold Fk70 at h; split at h <;> cases h; exact Nat.le_of_ble_eq_true rfl
      · unfold Fk70 at h; split at h
        case h_2 => cases h
        cases h
        exact a70 k ⟨_, _, _, _, _⟩ _ (hp _ rfl).1 (by exact hbd) (hp _ rfl).2 K hK
theorem s57 : (CtrOK Tryz.prog 57 (.pure F57) ∧ Callable Tryz.prog 57) := by
  refine ⟨⟨fun args o v h => ?_, fun args K h => ?_⟩, (r57_70 0).1.2⟩
  · unfold F57 at h; split at h <;> cases h; first | trivial | (simp [v57, Scalar, Scalar2, Scalar1, stC, ndC, itC, chC, nwC])
  · unfold pureC F57 at h; split at h
    · rename_i h1; split at h1 <;> cases h1
      exact (r57_70 (m57 ⟨_, _, _, _, _⟩ _ + 1)).1.1.2 _ K ⟨fun p hp => by cases hp; exact ⟨Nat.lt_succ_self _, (h.1 _ rfl)⟩, h.2⟩
    · exact h.elim
end Go.Rs

