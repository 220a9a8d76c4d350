import Derived.Test.YtmkgadogaefkaaaBase
import Derived.Test.YtmkgadogaefkaaaMA
set_option linter.all false
set_option linter.unusedSimpArgs false
set_option linter.unusedVariables false
namespace Go.Rs
open Go.Proofs
set_option maxRecDepth 100000
noncomputable def v46 (n : Int) (a : Int) (b : Int) : AV := .bool (decide (a ≤ n) && decide (n ≤ b))
noncomputable def o46 (n : Int) (a : Int) (b : Int) : Prop := True
noncomputable def F46 : List AV → QR
  | [.int .i64 n, .int .i64 a, .int .i64 b] => some (none, v46 n a b)
  | _ => none
noncomputable def E46 : Ctx := mkE tab []
noncomputable def O46 : Nat → List DI := ordL []
theorem a46 (n : Int) (a : Int) (b : Int) (hb : BdAs [.int .i64 n, .int .i64 a, .int .i64 b]) (ho : o46 n a b) (K : AV → List AV → Prop) (hK : K (v46 n a b) []) : abody E46 O46 .ps Try.f46 (Try.f46.body.getD .skip) [.int .i64 n, .int .i64 a, .int .i64 b] K := by
  simp only [BdAs, BdA, BdL, BdC, MX, ndC, shC, itC, stC, opC, chC, nwC, flC, rqC, rsC, enc, List.cons_append, List.nil_append, and_true, true_and] at hb
  unfold v46 at hK
  conv => whnf
  exact hK
theorem s46 : (CtrOK Try.prog 46 (.pure F46) ∧ Callable Try.prog 46) := by
  refine pure_ok (E := E46) (mkE_nil tab_ok) mix (O := O46) (F := F46) Try.func46 rfl (by rfl) (by kernel_rfl) (fun args o v h => ?_) (fun args o v h => ?_) (fun args o v h hbd hp K hK => ?_)
  · unfold F46 at h; split at h <;> cases h; first | trivial | (simp [v46, Scalar, Scalar2, Scalar1, stC, ndC, itC, chC, nwC])
  · unfold F46 at h; split at h <;> cases h; exact Nat.le_of_ble_eq_true rfl
  · unfold F46 at h; split at h
    case h_2 => cases h
    cases h
    exact a46 _ _ _ (by exact hbd) trivial K hK
noncomputable def v91 (s : Bs) : AV := .bool (txtM s)
noncomputable def o91 (s : Bs) : Prop := True
noncomputable def F91 : List AV → QR
  | [.str s] => some (none, v91 s)
  | _ => none
noncomputable def E91 : Ctx := mkE tab [(46, .pure F46)]
noncomputable def O91 : Nat → List DI := ordL []
theorem a91 (s : Bs) (hb : BdAs [.str s]) (ho : o91 s) (K : AV → List AV → Prop) (hK : K (v91 s) []) : abody E91 O91 .ps Try.f91 (Try.f91.body.getD .skip) [.str s] K := by
  simp only [BdAs, BdA, BdL, BdC, MX, ndC, shC, itC, stC, opC, chC, nwC, flC, rqC, rsC, enc, List.cons_append, List.nil_append, and_true, true_and] at hb
  unfold v91 at hK
  conv => whnf
  refine aloop_intro Nat (fun k => k ≤ s.length ∧ ∀ j, j < k → chrOk (s.getD j 0) = true) (fun k => s.length - k) (fun k => [(3, .int .i64 k)]) (fun _ => []) [] 0 [] [] ⟨by simp, by simp⟩ ?_ (by exact sgOk_of (by rfl)) ?_
  · iterate 2 ((all_goals (conv=>whnf));(repeat' (first|exact trivial|rfl|(refine nilEq ?_;first|rfl|(simp only [*];done)|(simp [*];done)|grind)|apply And.intro|((first|refine intEq ?_|refine boolEq ?_|refine strEq ?_|refine psEq ?_|refine nilEq ?_|refine arrEq ?_);(try simp only [Int.toNat_natCast,etas,elDef]);first | done | omega | grind | (simp only [*]; done) | (simp [*]; done)))));(all_goals ((try simp only [Int.toNat_natCast,etas,elDef]);first | done | omega | grind | (simp only [*]; done) | (simp [*]; done)))
  rintro k ⟨hk, hj⟩
  conv => whnf
  repeat' first|(refine Cnd.mk (fun h=>?_) (fun h=>?_)<;>(try simp [etas,elDef,-List.getD_eq_getElem?_getD] at h)<;>conv=>whnf)|(refine Obl.mk (by first|omega|rfl|exact inK_byte _|(simp only [inK,Int.toNat_natCast,etas,elDef]<;>first|omega|grind)|grind [inK]) ?_<;>conv=>whnf)|(refine OblG.mk (by ((conv=>whnf);(repeat (first|(refine Bx.mk ?_)|(intro h;(try simp [etas,elDef,-List.getD_eq_getElem?_getD] at h);conv=>whnf)));(first|omega|rfl|exact inK_byte _|(simp only [inK,Int.toNat_natCast,etas,elDef]<;>first|omega|grind)|grind [inK]))) ?_<;>conv=>whnf)|(refine Gd.mk (fun h=>?_)<;>(try simp [etas,elDef,-List.getD_eq_getElem?_getD] at h)<;>conv=>whnf)|(refine And.intro ?_ ?_<;>conv=>whnf)|exact True.intro|(intro;conv=>whnf)
  · have : chrOk (s.getD k 0) = false := by grind [chrOk]
    exact leafB hK (by grind [txtM, all_no])
  · refine ⟨k + 1, [], [], ⟨by omega, fun j hjl => ?_⟩, by omega, ?_, (by exact sgOk_of (by rfl))⟩
    · have : chrOk (s.getD k 0) = true := by grind [chrOk]
      grind
    · iterate 2 ((all_goals (conv=>whnf));(repeat' (first|exact trivial|rfl|(refine nilEq ?_;first|rfl|(simp only [*];done)|(simp [*];done)|grind)|apply And.intro|((first|refine intEq ?_|refine boolEq ?_|refine strEq ?_|refine psEq ?_|refine nilEq ?_|refine arrEq ?_);(try simp only [Int.toNat_natCast,etas,elDef]);first | done | omega | grind | (simp only [*]; done) | (simp [*]; done)))));(all_goals ((try simp only [Int.toNat_natCast,etas,elDef]);first | done | omega | grind | (simp only [*]; done) | (simp [*]; done)))
  · have : s.all chrOk = true := (all_iff s _).2 (by grind)
    exact leafB hK (by grind [txtM])
theorem s91 : (CtrOK Try.prog 91 (.pure F91) ∧ Callable Try.prog 91) := by
  refine pure_ok (E := E91) (mkE_cons s46 (mkE_nil tab_ok)) mix (O := O91) (F := F91) Try.func91 rfl (by rfl) (by kernel_rfl) (fun args o v h => ?_) (fun args o v h => ?_) (fun args o v h hbd hp K hK => ?_)
  · unfold F91 at h; split at h <;> cases h; first | trivial | (simp [v91, Scalar, Scalar2, Scalar1, stC, ndC, itC, chC, nwC])
  · unfold F91 at h; split at h <;> cases h; exact Nat.le_of_ble_eq_true rfl
  · unfold F91 at h; split at h
    case h_2 => cases h
    cases h
    exact a91 _ (by exact hbd) trivial K hK
noncomputable def v101 (s : Bs) : AV := .bool (txtM s)
noncomputable def o101 (s : Bs) : Prop := True
noncomputable def F101 : List AV → QR
  | [.str s] => some (none, v101 s)
  | _ => none
noncomputable def E101 : Ctx := mkE tab []
noncomputable def O101 : Nat → List DI := ordL []
theorem a101 (s : Bs) (hb : BdAs [.str s]) (ho : o101 s) (K : AV → List AV → Prop) (hK : K (v101 s) []) : abody E101 O101 .ps Try.f101 (Try.f101.body.getD .skip) [.str s] K := by
  simp only [BdAs, BdA, BdL, BdC, MX, ndC, shC, itC, stC, opC, chC, nwC, flC, rqC, rsC, enc, List.cons_append, List.nil_append, and_true, true_and] at hb
  unfold v101 at hK
  conv => whnf
  repeat' first|(refine Cnd.mk (fun h=>?_) (fun h=>?_)<;>(try simp [etas,elDef,-List.getD_eq_getElem?_getD] at h)<;>conv=>whnf)|(refine Obl.mk (by first|omega|rfl|exact inK_byte _|(simp only [inK,Int.toNat_natCast,etas,elDef]<;>first|omega|grind)|grind [inK]) ?_<;>conv=>whnf)|(refine OblG.mk (by ((conv=>whnf);(repeat (first|(refine Bx.mk ?_)|(intro h;(try simp [etas,elDef,-List.getD_eq_getElem?_getD] at h);conv=>whnf)));(first|omega|rfl|exact inK_byte _|(simp only [inK,Int.toNat_natCast,etas,elDef]<;>first|omega|grind)|grind [inK]))) ?_<;>conv=>whnf)|(refine Gd.mk (fun h=>?_)<;>(try simp [etas,elDef,-List.getD_eq_getElem?_getD] at h)<;>conv=>whnf)|(refine And.intro ?_ ?_<;>conv=>whnf)|exact True.intro|(intro;conv=>whnf)
  · exact leafB hK (by grind [txtM])
  refine aloop_intro Nat (fun k => k ≤ s.length ∧ ∀ j, j < k → chrOk (s.getD j 0) = true) (fun k => s.length - k) (fun k => [(3, .int .i64 k)]) (fun _ => []) [] 0 [] [] ⟨by simp, by simp⟩ ?_ (by exact sgOk_of (by rfl)) ?_
  · iterate 2 ((all_goals (conv=>whnf));(repeat' (first|exact trivial|rfl|(refine nilEq ?_;first|rfl|(simp only [*];done)|(simp [*];done)|grind)|apply And.intro|((first|refine intEq ?_|refine boolEq ?_|refine strEq ?_|refine psEq ?_|refine nilEq ?_|refine arrEq ?_);(try simp only [Int.toNat_natCast,etas,elDef]);first | done | omega | grind | (simp only [*]; done) | (simp [*]; done)))));(all_goals ((try simp only [Int.toNat_natCast,etas,elDef]);first | done | omega | grind | (simp only [*]; done) | (simp [*]; done)))
  rintro k ⟨hk, hj⟩
  conv => whnf
  repeat' first|(refine Cnd.mk (fun h=>?_) (fun h=>?_)<;>(try simp [etas,elDef,-List.getD_eq_getElem?_getD] at h)<;>conv=>whnf)|(refine Obl.mk (by first|omega|rfl|exact inK_byte _|(simp only [inK,Int.toNat_natCast,etas,elDef]<;>first|omega|grind)|grind [inK]) ?_<;>conv=>whnf)|(refine OblG.mk (by ((conv=>whnf);(repeat (first|(refine Bx.mk ?_)|(intro h;(try simp [etas,elDef,-List.getD_eq_getElem?_getD] at h);conv=>whnf)));(first|omega|rfl|exact inK_byte _|(simp only [inK,Int.toNat_natCast,etas,elDef]<;>first|omega|grind)|grind [inK]))) ?_<;>conv=>whnf)|(refine Gd.mk (fun h=>?_)<;>(try simp [etas,elDef,-List.getD_eq_getElem?_getD] at h)<;>conv=>whnf)|(refine And.intro ?_ ?_<;>conv=>whnf)|exact True.intro|(intro;conv=>whnf)
  · have : chrOk (s.getD k 0) = false := by grind [chrOk]
    exact leafB hK (by grind [txtM, all_no])
  · refine ⟨k + 1, [], [], ⟨by omega, fun j hjl => ?_⟩, by omega, ?_, (by exact sgOk_of (by rfl))⟩
    · have : chrOk (s.getD k 0) = true := by grind [chrOk]
      grind
    · iterate 2 ((all_goals (conv=>whnf));(repeat' (first|exact trivial|rfl|(refine nilEq ?_;first|rfl|(simp only [*];done)|(simp [*];done)|grind)|apply And.intro|((first|refine intEq ?_|refine boolEq ?_|refine strEq ?_|refine psEq ?_|refine nilEq ?_|refine arrEq ?_);(try simp only [Int.toNat_natCast,etas,elDef]);first | done | omega | grind | (simp only [*]; done) | (simp [*]; done)))));(all_goals ((try simp only [Int.toNat_natCast,etas,elDef]);first | done | omega | grind | (simp only [*]; done) | (simp [*]; done)))
  · have : s.all chrOk = true := (all_iff s _).2 (by grind)
    exact leafB hK (by grind [txtM])
theorem s101 : (CtrOK Try.prog 101 (.pure F101) ∧ Callable Try.prog 101) := by
  refine pure_ok (E := E101) (mkE_nil tab_ok) mix (O := O101) (F := F101) Try.func101 rfl (by rfl) (by kernel_rfl) (fun args o v h => ?_) (fun args o v h => ?_) (fun args o v h hbd hp K hK => ?_)
  · unfold F101 at h; split at h <;> cases h; first | trivial | (simp [v101, Scalar, Scalar2, Scalar1, stC, ndC, itC, chC, nwC])
  · unfold F101 at h; split at h <;> cases h; exact Nat.le_of_ble_eq_true rfl
  · unfold F101 at h; split at h
    case h_2 => cases h
    cases h
    exact a101 _ (by exact hbd) trivial K hK
noncomputable def v102 (l : List Bs) : AV := .bool (areNamesM l)
noncomputable def o102 (l : List Bs) : Prop := True
noncomputable def F102 : List AV → QR
  | [.ps .str l] => some (none, v102 l)
  | _ => none
noncomputable def E102 : Ctx := mkE tab [(101, .pure F101)]
noncomputable def O102 : Nat → List DI := ordL []
theorem a102 (l : List Bs) (hb : BdAs [.ps .str l]) (ho : o102 l) (K : AV → List AV → Prop) (hK : K (v102 l) []) : abody E102 O102 .ps Try.f102 (Try.f102.body.getD .skip) [.ps .str l] K := by
  simp only [BdAs, BdA, BdL, BdC, MX, ndC, shC, itC, stC, opC, chC, nwC, flC, rqC, rsC, enc, List.cons_append, List.nil_append, and_true, true_and] at hb
  unfold v102 at hK
  conv => whnf
  repeat' first|(refine Cnd.mk (fun h=>?_) (fun h=>?_)<;>(try simp [etas,elDef,-List.getD_eq_getElem?_getD] at h)<;>conv=>whnf)|(refine Obl.mk (by first|omega|rfl|exact inK_byte _|(simp only [inK,Int.toNat_natCast,etas,elDef]<;>first|omega|grind)|grind [inK]) ?_<;>conv=>whnf)|(refine OblG.mk (by ((conv=>whnf);(repeat (first|(refine Bx.mk ?_)|(intro h;(try simp [etas,elDef,-List.getD_eq_getElem?_getD] at h);conv=>whnf)));(first|omega|rfl|exact inK_byte _|(simp only [inK,Int.toNat_natCast,etas,elDef]<;>first|omega|grind)|grind [inK]))) ?_<;>conv=>whnf)|(refine Gd.mk (fun h=>?_)<;>(try simp [etas,elDef,-List.getD_eq_getElem?_getD] at h)<;>conv=>whnf)|(refine And.intro ?_ ?_<;>conv=>whnf)|exact True.intro|(intro;conv=>whnf)
  · exact leafB hK (by grind [areNamesM])
  refine aloop_intro Nat (fun k => k ≤ l.length ∧ ∀ j, j < k → nameOk l j = true) (fun k => l.length - k) (fun k => [(10, .int .i64 k)]) (fun _ => []) [] 0 [] [] ⟨by simp, by simp⟩ ?_ (by exact sgOk_of (by rfl)) ?_
  · iterate 2 ((all_goals (conv=>whnf));(repeat' (first|exact trivial|rfl|(refine nilEq ?_;first|rfl|(simp only [*];done)|(simp [*];done)|grind)|apply And.intro|((first|refine intEq ?_|refine boolEq ?_|refine strEq ?_|refine psEq ?_|refine nilEq ?_|refine arrEq ?_);(try simp only [Int.toNat_natCast,etas,elDef]);first | done | omega | grind | (simp only [*]; done) | (simp [*]; done)))));(all_goals ((try simp only [Int.toNat_natCast,etas,elDef]);first | done | omega | grind | (simp only [*]; done) | (simp [*]; done)))
  rintro k ⟨hk, hj⟩
  conv => whnf
  repeat' first|(refine Cnd.mk (fun h=>?_) (fun h=>?_)<;>(try simp [etas,elDef,-List.getD_eq_getElem?_getD] at h)<;>conv=>whnf)|(refine Obl.mk (by first|omega|rfl|exact inK_byte _|(simp only [inK,Int.toNat_natCast,etas,elDef]<;>first|omega|grind)|grind [inK]) ?_<;>conv=>whnf)|(refine OblG.mk (by ((conv=>whnf);(repeat (first|(refine Bx.mk ?_)|(intro h;(try simp [etas,elDef,-List.getD_eq_getElem?_getD] at h);conv=>whnf)));(first|omega|rfl|exact inK_byte _|(simp only [inK,Int.toNat_natCast,etas,elDef]<;>first|omega|grind)|grind [inK]))) ?_<;>conv=>whnf)|(refine Gd.mk (fun h=>?_)<;>(try simp [etas,elDef,-List.getD_eq_getElem?_getD] at h)<;>conv=>whnf)|(refine And.intro ?_ ?_<;>conv=>whnf)|exact True.intro|(intro;conv=>whnf)
  · have : nameOk l k = false := by grind [nameOk]
    exact leafB hK (by grind [areNamesM, namesM_no])
  · refine ⟨k + 1, [], [], ⟨by omega, fun j hjl => ?_⟩, by omega, ?_, (by exact sgOk_of (by rfl))⟩
    · have : nameOk l k = true := by grind [nameOk]
      grind
    · iterate 2 ((all_goals (conv=>whnf));(repeat' (first|exact trivial|rfl|(refine nilEq ?_;first|rfl|(simp only [*];done)|(simp [*];done)|grind)|apply And.intro|((first|refine intEq ?_|refine boolEq ?_|refine strEq ?_|refine psEq ?_|refine nilEq ?_|refine arrEq ?_);(try simp only [Int.toNat_natCast,etas,elDef]);first | done | omega | grind | (simp only [*]; done) | (simp [*]; done)))));(all_goals ((try simp only [Int.toNat_natCast,etas,elDef]);first | done | omega | grind | (simp only [*]; done) | (simp [*]; done)))
  · have : namesM l = true := (namesM_iff l).2 (by grind)
    exact leafB hK (by grind [areNamesM])
theorem s102 : (CtrOK Try.prog 102 (.pure F102) ∧ Callable Try.prog 102) := by
  refine pure_ok (E := E102) (mkE_cons s101 (mkE_nil tab_ok)) mix (O := O102) (F := F102) Try.func102 rfl (by rfl) (by kernel_rfl) (fun args o v h => ?_) (fun args o v h => ?_) (fun args o v h hbd hp K hK => ?_)
  · unfold F102 at h; split at h <;> cases h; first | trivial | (simp [v102, Scalar, Scalar2, Scalar1, stC, ndC, itC, chC, nwC])
  · unfold F102 at h; split at h <;> cases h; exact Nat.le_of_ble_eq_true rfl
  · unfold F102 at h; split at h
    case h_2 => cases h
    cases h
    exact a102 _ (by exact hbd) trivial K hK
noncomputable def v93 (l : List Bs) : AV := .bool (namesM l)
noncomputable def o93 (l : List Bs) : Prop := True
noncomputable def F93 : List AV → QR
  | [.ps .str l] => some (none, v93 l)
  | _ => none
noncomputable def E93 : Ctx := mkE tab [(91, .pure F91)]
noncomputable def O93 : Nat → List DI := ordL [(4, [.q 0, .q 1, .q 2, .q 3, .q 4, .q 5, .q 6, .q 7, .q 8, .q 9, .q 10, .q 11, .q 12, .q 13, .q 14, .q 15, .q 16, .q 17, .q 18, .q 19, .q 20, .q 21])]
theorem a93 (l : List Bs) (hb : BdAs [.ps .str l]) (ho : o93 l) (K : AV → List AV → Prop) (hK : K (v93 l) []) : abody E93 O93 .ps Try.f93 (Try.f93.body.getD .skip) [.ps .str l] K := by
  simp only [BdAs, BdA, BdL, BdC, MX, ndC, shC, itC, stC, opC, chC, nwC, flC, rqC, rsC, enc, List.cons_append, List.nil_append, and_true, true_and] at hb
  unfold v93 at hK
  conv => whnf
  refine aloop_intro Nat (fun k => k ≤ l.length ∧ ∀ j, j < k → nameOk l j = true) (fun k => l.length - k) (fun k => [(3, .int .i64 k)]) (fun _ => []) [] 0 [] [] ⟨by simp, by simp⟩ ?_ (by exact sgOk_of (by rfl)) ?_
  · iterate 2 ((all_goals (conv=>whnf));(repeat' (first|exact trivial|rfl|(refine nilEq ?_;first|rfl|(simp only [*];done)|(simp [*];done)|grind)|apply And.intro|((first|refine intEq ?_|refine boolEq ?_|refine strEq ?_|refine psEq ?_|refine nilEq ?_|refine arrEq ?_);(try simp only [Int.toNat_natCast,etas,elDef]);first | done | omega | grind | (simp only [*]; done) | (simp [*]; done)))));(all_goals ((try simp only [Int.toNat_natCast,etas,elDef]);first | done | omega | grind | (simp only [*]; done) | (simp [*]; done)))
  rintro k ⟨hk, hj⟩
  conv => whnf
  repeat' first|(refine Cnd.mk (fun h=>?_) (fun h=>?_)<;>(try simp [etas,elDef,-List.getD_eq_getElem?_getD] at h)<;>conv=>whnf)|(refine Obl.mk (by first|omega|rfl|exact inK_byte _|(simp only [inK,Int.toNat_natCast,etas,elDef]<;>first|omega|grind)|grind [inK]) ?_<;>conv=>whnf)|(refine OblG.mk (by ((conv=>whnf);(repeat (first|(refine Bx.mk ?_)|(intro h;(try simp [etas,elDef,-List.getD_eq_getElem?_getD] at h);conv=>whnf)));(first|omega|rfl|exact inK_byte _|(simp only [inK,Int.toNat_natCast,etas,elDef]<;>first|omega|grind)|grind [inK]))) ?_<;>conv=>whnf)|(refine Gd.mk (fun h=>?_)<;>(try simp [etas,elDef,-List.getD_eq_getElem?_getD] at h)<;>conv=>whnf)|(refine And.intro ?_ ?_<;>conv=>whnf)|exact True.intro|(intro;conv=>whnf)
  · have : nameOk l k = false := by grind [nameOk]
    exact leafB hK (by grind [namesM_no])
  · refine ⟨k + 1, [], [], ⟨by omega, fun j hjl => ?_⟩, by omega, ?_, (by exact sgOk_of (by rfl))⟩
    · have : nameOk l k = true := by grind [nameOk]
      grind
    · iterate 2 ((all_goals (conv=>whnf));(repeat' (first|exact trivial|rfl|(refine nilEq ?_;first|rfl|(simp only [*];done)|(simp [*];done)|grind)|apply And.intro|((first|refine intEq ?_|refine boolEq ?_|refine strEq ?_|refine psEq ?_|refine nilEq ?_|refine arrEq ?_);(try simp only [Int.toNat_natCast,etas,elDef]);first | done | omega | grind | (simp only [*]; done) | (simp [*]; done)))));(all_goals ((try simp only [Int.toNat_natCast,etas,elDef]);first | done | omega | grind | (simp only [*]; done) | (simp [*]; done)))
  · have : namesM l = true := (namesM_iff l).2 (by grind)
    exact leafB hK (by grind)
theorem s93 : (CtrOK Try.prog 93 (.pure F93) ∧ Callable Try.prog 93) := by
  refine pure_ok (E := E93) (mkE_cons s91 (mkE_nil tab_ok)) mix (O := O93) (F := F93) Try.func93 rfl (by rfl) (by kernel_rfl) (fun args o v h => ?_) (fun args o v h => ?_) (fun args o v h hbd hp K hK => ?_)
  · unfold F93 at h; split at h <;> cases h; first | trivial | (simp [v93, Scalar, Scalar2, Scalar1, stC, ndC, itC, chC, nwC])
  · unfold F93 at h; split at h <;> cases h; exact Nat.le_of_ble_eq_true rfl
  · unfold F93 at h; split at h
    case h_2 => cases h
    cases h
    exact a93 _ (by exact hbd) trivial K hK
noncomputable def v94 (n : Nd) : AV := .bool (partsM n)
noncomputable def o94 (n : Nd) : Prop := True
noncomputable def F94 : List AV → QR
  | [.st [.int .i64 n_0, .int .i64 n_1, .str n_2, .ps .str n_3, .ps .node n_4]] => some (none, v94 ⟨n_0, n_1, n_2, n_3, n_4⟩)
  | _ => none
noncomputable def E94 : Ctx := mkE tab [(101, .pure F101), (102, .pure F102)]
noncomputable def O94 : Nat → List DI := ordL []
theorem a94 (n : Nd) (hb : BdAs [.st (ndC n)]) (ho : o94 n) (K : AV → List AV → Prop) (hK : K (v94 n) []) : abody E94 O94 .ps Try.f94 (Try.f94.body.getD .skip) [.st (ndC n)] K := by
  simp only [BdAs, BdA, BdL, BdC, MX, ndC, shC, itC, stC, opC, chC, nwC, flC, rqC, rsC, enc, List.cons_append, List.nil_append, and_true, true_and] at hb
  unfold v94 at hK
  conv => whnf
  repeat' first|(refine Cnd.mk (fun h=>?_) (fun h=>?_)<;>(try simp [etas,elDef,-List.getD_eq_getElem?_getD] at h)<;>conv=>whnf)|(refine Obl.mk (by first|omega|rfl|exact inK_byte _|(simp only [inK,Int.toNat_natCast,etas,elDef]<;>first|omega|grind)|grind [inK]) ?_<;>conv=>whnf)|(refine OblG.mk (by ((conv=>whnf);(repeat (first|(refine Bx.mk ?_)|(intro h;(try simp [etas,elDef,-List.getD_eq_getElem?_getD] at h);conv=>whnf)));(first|omega|rfl|exact inK_byte _|(simp only [inK,Int.toNat_natCast,etas,elDef]<;>first|omega|grind)|grind [inK]))) ?_<;>conv=>whnf)|(refine Gd.mk (fun h=>?_)<;>(try simp [etas,elDef,-List.getD_eq_getElem?_getD] at h)<;>conv=>whnf)|(refine And.intro ?_ ?_<;>conv=>whnf)|exact True.intro|(intro;conv=>whnf)
  all_goals exact leafB hK (by grind [partsM])
theorem s94 : (CtrOK Try.prog 94 (.pure F94) ∧ Callable Try.prog 94) := by
  refine pure_ok (E := E94) (mkE_cons s101 (mkE_cons s102 (mkE_nil tab_ok))) mix (O := O94) (F := F94) Try.func94 rfl (by rfl) (by kernel_rfl) (fun args o v h => ?_) (fun args o v h => ?_) (fun args o v h hbd hp K hK => ?_)
  · unfold F94 at h; split at h <;> cases h; first | trivial | (simp [v94, Scalar, Scalar2, Scalar1, stC, ndC, itC, chC, nwC])
  · unfold F94 at h; split at h <;> cases h; exact Nat.le_of_ble_eq_true rfl
  · unfold F94 at h; split at h
    case h_2 => cases h
    cases h
    exact a94 ⟨_, _, _, _, _⟩ (by exact hbd) trivial K hK
noncomputable def v78 (n : Nd) (d : Int) : AV := .bool (shapeM d.toNat n)
noncomputable def o78 (n : Nd) (d : Int) : Prop := 0 ≤ d ∧ d ≤ 5
noncomputable def m78 (n : Nd) (d : Int) : Nat := 2 * d.toNat
noncomputable def F78 : List AV → QR
  | [.st [.int .i64 n_0, .int .i64 n_1, .str n_2, .ps .str n_3, .ps .node n_4], .int .i64 d] => some (some (o78 ⟨n_0, n_1, n_2, n_3, n_4⟩ d), v78 ⟨n_0, n_1, n_2, n_3, n_4⟩ d)
  | _ => none
noncomputable def Fk78 (k : Nat) : List AV → QR
  | [.st [.int .i64 n_0, .int .i64 n_1, .str n_2, .ps .str n_3, .ps .node n_4], .int .i64 d] => some (some (m78 ⟨n_0, n_1, n_2, n_3, n_4⟩ d < k ∧ o78 ⟨n_0, n_1, n_2, n_3, n_4⟩ d), v78 ⟨n_0, n_1, n_2, n_3, n_4⟩ d)
  | _ => none
noncomputable def v92 (n : Nd) (d : Int) : AV := .bool (n.kids.all (shapeM (d.toNat - 1)))
noncomputable def o92 (n : Nd) (d : Int) : Prop := 1 ≤ d ∧ d ≤ 5
noncomputable def m92 (n : Nd) (d : Int) : Nat := 2 * d.toNat - 1
noncomputable def Fk92 (k : Nat) : List AV → QR
  | [.st [.int .i64 n_0, .int .i64 n_1, .str n_2, .ps .str n_3, .ps .node n_4], .int .i64 d] => some (some (m92 ⟨n_0, n_1, n_2, n_3, n_4⟩ d < k ∧ o92 ⟨n_0, n_1, n_2, n_3, n_4⟩ d), v92 ⟨n_0, n_1, n_2, n_3, n_4⟩ d)
  | _ => none
noncomputable def E78 (k : Nat) : Ctx := mkE tab [(46, .pure F46), (91, .pure F91), (92, .pure (Fk92 k)), (93, .pure F93)]
noncomputable def O78 : Nat → List DI := ordL []
theorem a78 (k : Nat) (n : Nd) (d : Int) (hm : m78 n d < k + 1) (hb : BdAs [.st (ndC n), .int .i64 d]) (ho : o78 n d) (K : AV → List AV → Prop) (hK : K (v78 n d) []) : abody (E78 k) O78 .ps Try.f78 (Try.f78.body.getD .skip) [.st (ndC n), .int .i64 d] K := by
  simp only [BdAs, BdA, BdL, BdC, MX, ndC, shC, itC, stC, opC, chC, nwC, flC, rqC, rsC, enc, List.cons_append, List.nil_append, and_true, true_and] at hb
  unfold o78 at ho
  unfold v78 at hK
  unfold m78 at hm
  have h0 : d = 0 → shapeM d.toNat n = false := fun e => by subst e; rfl
  have h1 : 0 < d → shapeM d.toNat n = (partsM n && n.kids.all (shapeM (d.toNat - 1))) := shapeM_pos n
  conv => whnf
  repeat' first|(refine Cnd.mk (fun h=>?_) (fun h=>?_)<;>(try simp [etas,elDef,-List.getD_eq_getElem?_getD] at h)<;>conv=>whnf)|(refine Obl.mk (by first|omega|rfl|exact inK_byte _|(simp only [inK,Int.toNat_natCast,etas,elDef,m78,m92,o92,m92]<;>first|omega|grind)|grind [inK,m78,m92,o92,m92]) ?_<;>conv=>whnf)|(refine OblG.mk (by ((conv=>whnf);(repeat (first|(refine Bx.mk ?_)|(intro h;(try simp [etas,elDef,-List.getD_eq_getElem?_getD] at h);conv=>whnf)));(first|omega|rfl|exact inK_byte _|(simp only [inK,Int.toNat_natCast,etas,elDef,m78,m92,o92,m92]<;>first|omega|grind)|grind [inK,m78,m92,o92,m92]))) ?_<;>conv=>whnf)|(refine Gd.mk (fun h=>?_)<;>(try simp [etas,elDef,-List.getD_eq_getElem?_getD] at h)<;>conv=>whnf)|(refine And.intro ?_ ?_<;>conv=>whnf)|exact True.intro|(intro;conv=>whnf)
  all_goals exact leafB hK (by grind (splits := 20) [partsM, areNamesM])
noncomputable def E92 (k : Nat) : Ctx := mkE tab [(78, .pure (Fk78 k))]
noncomputable def O92 : Nat → List DI := ordL []
theorem a92 (k : Nat) (n : Nd) (d : Int) (hm : m92 n d < k + 1) (hb : BdAs [.st (ndC n), .int .i64 d]) (ho : o92 n d) (K : AV → List AV → Prop) (hK : K (v92 n d) []) : abody (E92 k) O92 .ps Try.f92 (Try.f92.body.getD .skip) [.st (ndC n), .int .i64 d] K := by
  simp only [BdAs, BdA, BdL, BdC, MX, ndC, shC, itC, stC, opC, chC, nwC, flC, rqC, rsC, enc, List.cons_append, List.nil_append, and_true, true_and] at hb
  unfold o92 at ho
  unfold v92 at hK
  unfold m92 at hm
  have hd : (d - 1).toNat = d.toNat - 1 := by omega
  conv => whnf
  refine aloop_intro Nat (fun k => k ≤ n.kids.length ∧ ∀ j, j < k → shapeM (d.toNat - 1) (n.kids.getD j default) = true) (fun k => n.kids.length - k) (fun k => [(5, .int .i64 k)]) (fun _ => []) [2] 0 [] [] ⟨by simp, by simp⟩ ?_ (by exact sgOk_of (by rfl)) ?_
  · iterate 2 ((all_goals (conv=>whnf));(repeat' (first|exact trivial|rfl|(refine nilEq ?_;first|rfl|(simp only [*];done)|(simp [*];done)|grind)|apply And.intro|((first|refine intEq ?_|refine boolEq ?_|refine strEq ?_|refine psEq ?_|refine nilEq ?_|refine arrEq ?_);(try simp only [Int.toNat_natCast,etas,elDef]);first | done | omega | grind | (simp only [*]; done) | (simp [*]; done)))));(all_goals ((try simp only [Int.toNat_natCast,etas,elDef]);first | done | omega | grind | (simp only [*]; done) | (simp [*]; done)))
  rintro i ⟨hk, hj⟩
  conv => whnf
  repeat' first|(refine Cnd.mk (fun h=>?_) (fun h=>?_)<;>(try simp [etas,elDef,-List.getD_eq_getElem?_getD] at h)<;>conv=>whnf)|(refine Obl.mk (by first|omega|rfl|exact inK_byte _|(simp only [inK,Int.toNat_natCast,etas,elDef,m78,m92,o78,m78]<;>first|omega|grind)|grind [inK,m78,m92,o78,m78]) ?_<;>conv=>whnf)|(refine OblG.mk (by ((conv=>whnf);(repeat (first|(refine Bx.mk ?_)|(intro h;(try simp [etas,elDef,-List.getD_eq_getElem?_getD] at h);conv=>whnf)));(first|omega|rfl|exact inK_byte _|(simp only [inK,Int.toNat_natCast,etas,elDef,m78,m92,o78,m78]<;>first|omega|grind)|grind [inK,m78,m92,o78,m78]))) ?_<;>conv=>whnf)|(refine Gd.mk (fun h=>?_)<;>(try simp [etas,elDef,-List.getD_eq_getElem?_getD] at h)<;>conv=>whnf)|(refine And.intro ?_ ?_<;>conv=>whnf)|exact True.intro|(intro;conv=>whnf)
  · exact leafB hK (allN_no (j := i) (by omega) (by grind))
  · refine ⟨i + 1, [], [], ⟨by omega, fun j hjl => ?_⟩, by omega, ?_, (by exact sgOk_of (by rfl))⟩
    · have : shapeM (d.toNat - 1) (n.kids.getD i default) = true := by grind
      grind
    · iterate 2 ((all_goals (conv=>whnf));(repeat' (first|exact trivial|rfl|(refine nilEq ?_;first|rfl|(simp only [*];done)|(simp [*];done)|grind)|apply And.intro|((first|refine intEq ?_|refine boolEq ?_|refine strEq ?_|refine psEq ?_|refine nilEq ?_|refine arrEq ?_);(try simp only [Int.toNat_natCast,etas,elDef]);first | done | omega | grind | (simp only [*]; done) | (simp [*]; done)))));(all_goals ((try simp only [Int.toNat_natCast,etas,elDef]);first | done | omega | grind | (simp only [*]; done) | (simp [*]; done)))
  · exact leafB hK ((allN_iff _ _).2 (by grind))
theorem r78_92 : ∀ k, (CtrOK Try.prog 78 (.pure (Fk78 k)) ∧ Callable Try.prog 78) ∧ (CtrOK Try.prog 92 (.pure (Fk92 k)) ∧ Callable Try.prog 92) := by
  intro k
  induction k with
  | zero =>
    exact ⟨⟨⟨fun args o v h => by unfold Fk78 at h; split at h <;> cases h; first | trivial | (simp [v78, Scalar, Scalar2, Scalar1, stC, ndC, itC, chC, nwC]), fun args K h => by
        unfold pureC Fk78 at h; split at h
        · rename_i h1; split at h1 <;> cases h1; exact absurd (h.1 _ rfl).1 (Nat.not_lt_zero _)
        · exact h.elim⟩, callable Try.func78 rfl (by rfl)⟩, ⟨⟨fun args o v h => by unfold Fk92 at h; split at h <;> cases h; first | trivial | (simp [v92, Scalar, Scalar2, Scalar1, stC, ndC, itC, chC, nwC]), fun args K h => by
        unfold pureC Fk92 at h; split at h
        · rename_i h1; split at h1 <;> cases h1; exact absurd (h.1 _ rfl).1 (Nat.not_lt_zero _)
        · exact h.elim⟩, callable Try.func92 rfl (by rfl)⟩⟩
  | succ k ih =>
    refine ⟨?_, ?_⟩
    · refine pure_ok (E := E78 k) (mkE_cons s46 (mkE_cons s91 (mkE_cons ih.2 (mkE_cons s93 (mkE_nil tab_ok))))) mix (O := O78) (F := (Fk78 (k + 1))) Try.func78 rfl (by rfl) (by kernel_rfl) (fun args o v h => ?_) (fun args o v h => ?_) (fun args o v h hbd hp K hK => ?_)
      · unfold Fk78 at h; split at h <;> cases h; first | trivial | (simp [v78, Scalar, Scalar2, Scalar1, stC, ndC, itC, chC, nwC])
      · unfold Fk78 at h; split at h <;> cases h; exact Nat.le_of_ble_eq_true rfl
      · unfold Fk78 at h; split at h
        case h_2 => cases h
        cases h
        exact a78 k ⟨_, _, _, _, _⟩ _ (hp _ rfl).1 (by exact hbd) (hp _ rfl).2 K hK
    · refine pure_ok (E := E92 k) (mkE_cons ih.1 (mkE_nil tab_ok)) mix (O := O92) (F := (Fk92 (k + 1))) Try.func92 rfl (by rfl) (by kernel_rfl) (fun args o v h => ?_) (fun args o v h => ?_) (fun args o v h hbd hp K hK => ?_)
      · unfold Fk92 at h; split at h <;> cases h; first | trivial | (simp [v92, Scalar, Scalar2, Scalar1, stC, ndC, itC, chC, nwC])
      · unfold Fk92 at h; split at h <;> cases h; exact Nat.le_of_ble_eq_true rfl
      · unfold Fk92 at h; split at h
        case h_2 => cases h
        cases h
        exact a92 k ⟨_, _, _, _, _⟩ _ (hp _ rfl).1 (by exact hbd) (hp _ rfl).2 K hK
theorem s78 : (CtrOK Try.prog 78 (.pure F78) ∧ Callable Try.prog 78) := by
  refine ⟨⟨fun args o v h => ?_, fun args K h => ?_⟩, (r78_92 0).1.2⟩
  · unfold F78 at h; split at h <;> cases h; first | trivial | (simp [v78, Scalar, Scalar2, Scalar1, stC, ndC, itC, chC, nwC])
  · unfold pureC F78 at h; split at h
    · rename_i h1; split at h1 <;> cases h1
      exact (r78_92 (m78 ⟨_, _, _, _, _⟩ _ + 1)).1.1.2 _ K ⟨fun p hp => by cases hp; exact ⟨Nat.lt_succ_self _, (h.1 _ rfl)⟩, h.2⟩
    · exact h.elim
end Go.Rs

