import Derived.Test.YtfaaemggaliojaaDoorCK
import Derived.Test.YtfaaemggaliojaaDoorCI
import Derived.Test.YtfaaemggaliojaaDoorMB
import Derived.Test.YtfaaemggaliojaaDoorMC
set_option linter.all false
set_option linter.unusedSimpArgs false
set_option linter.unusedVariables false
namespace Go.Rs
open Go.Proofs
set_option maxRecDepth 100000
noncomputable def v106 (a : Int) : AV := .bool false
noncomputable def o106 (a : Int) : Prop := True
noncomputable def F106 : List AV → QR
  | [.int .i64 a] => some (none, v106 a)
  | _ => none
noncomputable def E106 : Ctx := mkE tab []
noncomputable def O106 : Nat → List DI := ordL []
theorem a106 (a : Int) (hb : BdAs [.int .i64 a]) (ho : o106 a) (K : AV → List AV → Prop) (hK : K (v106 a) []) : abody E106 O106 .ps Tryd.f106 (Tryd.f106.body.getD .skip) [.int .i64 a] K := by
  simp only [BdAs, BdA, BdL, BdC, MX, ndC, shC, itC, stC, opC, chC, nwC, flC, rqC, rsC, enc, List.cons_append, List.nil_append, and_true, true_and] at hb
  unfold v106 at hK
  conv => whnf
  repeat' first|((first|refine Cnd.mk (fun h=>?_) (fun h=>?_)|refine Gd.mk (fun h=>?_))<;>(try simp [etas,elDef,-List.getD_eq_getElem?_getD] at h)<;>conv=>whnf)|((first|refine Obl.mk (by first|omega|rfl|exact inK_byte _|(simp only [inK,Int.toNat_natCast,etas,elDef]<;>first|omega|grind)|grind [inK]) ?_|refine OblG.mk (by ((conv=>whnf);(repeat (first|refine Bx.mk ?_|(intro h;(try simp [etas,elDef,-List.getD_eq_getElem?_getD] at h);conv=>whnf)));(first|omega|rfl|exact inK_byte _|(simp only [inK,Int.toNat_natCast,etas,elDef]<;>first|omega|grind)|grind [inK]))) ?_|refine And.intro ?_ ?_)<;>conv=>whnf)|exact True.intro|(intro;conv=>whnf)
  all_goals exact leafB hK (by simp)
theorem s106 : (CtrOK Tryd.prog 106 (.pure F106) ∧ Callable Tryd.prog 106) := by
  refine pure_ok (E := E106) (mkE_nil tab_ok) mix (O := O106) (F := F106) Tryd.func106 rfl (by rfl) (by kernel_rfl) (fun args o v h => ?_) (fun args o v h => ?_) (fun args o v h hbd hp K hK => ?_)
  · unfold F106 at h; split at h <;> cases h; first | trivial | (simp [v106, Scalar, Scalar2, Scalar1, stC, ndC, itC, chC, nwC])
  · unfold F106 at h; split at h <;> cases h; exact Nat.le_of_ble_eq_true rfl
  · unfold F106 at h; split at h
    case h_2 => cases h
    cases h
    exact a106 _ (by exact hbd) trivial K hK
noncomputable def v115 (a : Bs) : AV := .bool false
noncomputable def o115 (a : Bs) : Prop := True
noncomputable def F115 : List AV → QR
  | [.str a] => some (none, v115 a)
  | _ => none
noncomputable def E115 : Ctx := mkE tab []
noncomputable def O115 : Nat → List DI := ordL []
theorem a115 (a : Bs) (hb : BdAs [.str a]) (ho : o115 a) (K : AV → List AV → Prop) (hK : K (v115 a) []) : abody E115 O115 .ps Tryd.f115 (Tryd.f115.body.getD .skip) [.str a] K := by
  simp only [BdAs, BdA, BdL, BdC, MX, ndC, shC, itC, stC, opC, chC, nwC, flC, rqC, rsC, enc, List.cons_append, List.nil_append, and_true, true_and] at hb
  unfold v115 at hK
  conv => whnf
  repeat' first|((first|refine Cnd.mk (fun h=>?_) (fun h=>?_)|refine Gd.mk (fun h=>?_))<;>(try simp [etas,elDef,-List.getD_eq_getElem?_getD] at h)<;>conv=>whnf)|((first|refine Obl.mk (by first|omega|rfl|exact inK_byte _|(simp only [inK,Int.toNat_natCast,etas,elDef]<;>first|omega|grind)|grind [inK]) ?_|refine OblG.mk (by ((conv=>whnf);(repeat (first|refine Bx.mk ?_|(intro h;(try simp [etas,elDef,-List.getD_eq_getElem?_getD] at h);conv=>whnf)));(first|omega|rfl|exact inK_byte _|(simp only [inK,Int.toNat_natCast,etas,elDef]<;>first|omega|grind)|grind [inK]))) ?_|refine And.intro ?_ ?_)<;>conv=>whnf)|exact True.intro|(intro;conv=>whnf)
  all_goals exact leafB hK (by simp)
theorem s115 : (CtrOK Tryd.prog 115 (.pure F115) ∧ Callable Tryd.prog 115) := by
  refine pure_ok (E := E115) (mkE_nil tab_ok) mix (O := O115) (F := F115) Tryd.func115 rfl (by rfl) (by kernel_rfl) (fun args o v h => ?_) (fun args o v h => ?_) (fun args o v h hbd hp K hK => ?_)
  · unfold F115 at h; split at h <;> cases h; first | trivial | (simp [v115, Scalar, Scalar2, Scalar1, stC, ndC, itC, chC, nwC])
  · unfold F115 at h; split at h <;> cases h; exact Nat.le_of_ble_eq_true rfl
  · unfold F115 at h; split at h
    case h_2 => cases h
    cases h
    exact a115 _ (by exact hbd) trivial K hK
noncomputable def v111 (a : Bs) : AV := .bool false
noncomputable def o111 (a : Bs) : Prop := True
noncomputable def F111 : List AV → QR
  | [.str a] => some (none, v111 a)
  | _ => none
noncomputable def E111 : Ctx := mkE tab []
noncomputable def O111 : Nat → List DI := ordL []
theorem a111 (a : Bs) (hb : BdAs [.str a]) (ho : o111 a) (K : AV → List AV → Prop) (hK : K (v111 a) []) : abody E111 O111 .ps Tryd.f111 (Tryd.f111.body.getD .skip) [.str a] K := by
  simp only [BdAs, BdA, BdL, BdC, MX, ndC, shC, itC, stC, opC, chC, nwC, flC, rqC, rsC, enc, List.cons_append, List.nil_append, and_true, true_and] at hb
  unfold v111 at hK
  conv => whnf
  repeat' first|((first|refine Cnd.mk (fun h=>?_) (fun h=>?_)|refine Gd.mk (fun h=>?_))<;>(try simp [etas,elDef,-List.getD_eq_getElem?_getD] at h)<;>conv=>whnf)|((first|refine Obl.mk (by first|omega|rfl|exact inK_byte _|(simp only [inK,Int.toNat_natCast,etas,elDef]<;>first|omega|grind)|grind [inK]) ?_|refine OblG.mk (by ((conv=>whnf);(repeat (first|refine Bx.mk ?_|(intro h;(try simp [etas,elDef,-List.getD_eq_getElem?_getD] at h);conv=>whnf)));(first|omega|rfl|exact inK_byte _|(simp only [inK,Int.toNat_natCast,etas,elDef]<;>first|omega|grind)|grind [inK]))) ?_|refine And.intro ?_ ?_)<;>conv=>whnf)|exact True.intro|(intro;conv=>whnf)
  all_goals exact leafB hK (by simp)
theorem s111 : (CtrOK Tryd.prog 111 (.pure F111) ∧ Callable Tryd.prog 111) := by
  refine pure_ok (E := E111) (mkE_nil tab_ok) mix (O := O111) (F := F111) Tryd.func111 rfl (by rfl) (by kernel_rfl) (fun args o v h => ?_) (fun args o v h => ?_) (fun args o v h hbd hp K hK => ?_)
  · unfold F111 at h; split at h <;> cases h; first | trivial | (simp [v111, Scalar, Scalar2, Scalar1, stC, ndC, itC, chC, nwC])
  · unfold F111 at h; split at h <;> cases h; exact Nat.le_of_ble_eq_true rfl
  · unfold F111 at h; split at h
    case h_2 => cases h
    cases h
    exact a111 _ (by exact hbd) trivial K hK
noncomputable def v110 (a : Bs) (b : Bs) : AV := .bool (ltS a b)
noncomputable def o110 (a : Bs) (b : Bs) : Prop := True
noncomputable def F110 : List AV → QR
  | [.str a, .str b] => some (none, v110 a b)
  | _ => none
noncomputable def E110 : Ctx := mkE tab [(115, .pure F115)]
noncomputable def O110 : Nat → List DI := ordL []
theorem a110 (a : Bs) (b : Bs) (hb : BdAs [.str a, .str b]) (ho : o110 a b) (K : AV → List AV → Prop) (hK : K (v110 a b) []) : abody E110 O110 .ps Tryd.f110 (Tryd.f110.body.getD .skip) [.str a, .str b] K := by
  simp only [BdAs, BdA, BdL, BdC, MX, ndC, shC, itC, stC, opC, chC, nwC, flC, rqC, rsC, enc, List.cons_append, List.nil_append, and_true, true_and] at hb
  unfold v110 at hK
  conv => whnf
  repeat' first|((first|refine Cnd.mk (fun h=>?_) (fun h=>?_)|refine Gd.mk (fun h=>?_))<;>(try simp [etas,elDef,-List.getD_eq_getElem?_getD] at h)<;>conv=>whnf)|((first|refine Obl.mk (by first|omega|rfl|exact inK_byte _|(simp only [inK,Int.toNat_natCast,etas,elDef]<;>first|omega|grind)|grind [inK]) ?_|refine OblG.mk (by ((conv=>whnf);(repeat (first|refine Bx.mk ?_|(intro h;(try simp [etas,elDef,-List.getD_eq_getElem?_getD] at h);conv=>whnf)));(first|omega|rfl|exact inK_byte _|(simp only [inK,Int.toNat_natCast,etas,elDef]<;>first|omega|grind)|grind [inK]))) ?_|refine And.intro ?_ ?_)<;>conv=>whnf)|exact True.intro|(intro;conv=>whnf)
  all_goals exact leafB hK (by simp)
theorem s110 : (CtrOK Tryd.prog 110 (.pure F110) ∧ Callable Tryd.prog 110) := by
  refine pure_ok (E := E110) (mkE_cons s115 (mkE_nil tab_ok)) mix (O := O110) (F := F110) Tryd.func110 rfl (by rfl) (by kernel_rfl) (fun args o v h => ?_) (fun args o v h => ?_) (fun args o v h hbd hp K hK => ?_)
  · unfold F110 at h; split at h <;> cases h; first | trivial | (simp [v110, Scalar, Scalar2, Scalar1, stC, ndC, itC, chC, nwC])
  · unfold F110 at h; split at h <;> cases h; exact Nat.le_of_ble_eq_true rfl
  · unfold F110 at h; split at h
    case h_2 => cases h
    cases h
    exact a110 _ _ (by exact hbd) trivial K hK
noncomputable def v98 (a : Int) (b : Int) : AV := .int .i64 (ordI a b)
noncomputable def o98 (a : Int) (b : Int) : Prop := True
noncomputable def F98 : List AV → QR
  | [.int .i64 a, .int .i64 b] => some (none, v98 a b)
  | _ => none
noncomputable def E98 : Ctx := mkE tab [(106, .pure F106)]
noncomputable def O98 : Nat → List DI := ordL []
theorem a98 (a : Int) (b : Int) (hb : BdAs [.int .i64 a, .int .i64 b]) (ho : o98 a b) (K : AV → List AV → Prop) (hK : K (v98 a b) []) : abody E98 O98 .ps Tryd.f98 (Tryd.f98.body.getD .skip) [.int .i64 a, .int .i64 b] K := by
  simp only [BdAs, BdA, BdL, BdC, MX, ndC, shC, itC, stC, opC, chC, nwC, flC, rqC, rsC, enc, List.cons_append, List.nil_append, and_true, true_and] at hb
  unfold v98 at hK
  conv => whnf
  repeat' first|((first|refine Cnd.mk (fun h=>?_) (fun h=>?_)|refine Gd.mk (fun h=>?_))<;>(try simp [etas,elDef,-List.getD_eq_getElem?_getD] at h)<;>conv=>whnf)|((first|refine Obl.mk (by first|omega|rfl|exact inK_byte _|(simp only [inK,Int.toNat_natCast,etas,elDef]<;>first|omega|grind)|grind [inK]) ?_|refine OblG.mk (by ((conv=>whnf);(repeat (first|refine Bx.mk ?_|(intro h;(try simp [etas,elDef,-List.getD_eq_getElem?_getD] at h);conv=>whnf)));(first|omega|rfl|exact inK_byte _|(simp only [inK,Int.toNat_natCast,etas,elDef]<;>first|omega|grind)|grind [inK]))) ?_|refine And.intro ?_ ?_)<;>conv=>whnf)|exact True.intro|(intro;conv=>whnf)
  all_goals exact leafI hK (by unfold ordI; split <;> (try split) <;> omega)
theorem s98 : (CtrOK Tryd.prog 98 (.pure F98) ∧ Callable Tryd.prog 98) := by
  refine pure_ok (E := E98) (mkE_cons s106 (mkE_nil tab_ok)) mix (O := O98) (F := F98) Tryd.func98 rfl (by rfl) (by kernel_rfl) (fun args o v h => ?_) (fun args o v h => ?_) (fun args o v h hbd hp K hK => ?_)
  · unfold F98 at h; split at h <;> cases h; first | trivial | (simp [v98, Scalar, Scalar2, Scalar1, stC, ndC, itC, chC, nwC])
  · unfold F98 at h; split at h <;> cases h; exact Nat.le_of_ble_eq_true rfl
  · unfold F98 at h; split at h
    case h_2 => cases h
    cases h
    exact a98 _ _ (by exact hbd) trivial K hK
noncomputable def v105 (l : List Bs) (b : Bs) : AV := .tup [.int .i64 (lbI (nmI l) b), .bool (foundI (nmI l) b)]
noncomputable def o105 (l : List Bs) (b : Bs) : Prop := sortedI (nmI l)
noncomputable def F105 : List AV → QR
  | [.ps .str l, .str b] => some (some (o105 l b), v105 l b)
  | _ => none
noncomputable def E105 : Ctx := mkE tab [(110, .pure F110), (111, .pure F111)]
noncomputable def O105 : Nat → List DI := ordL []
theorem a105 (l : List Bs) (b : Bs) (hb : BdAs [.ps .str l, .str b]) (ho : o105 l b) (K : AV → List AV → Prop) (hK : K (v105 l b) []) : abody E105 O105 .ps Tryd.f105 (Tryd.f105.body.getD .skip) [.ps .str l, .str b] K := by
  simp only [BdAs, BdA, BdL, BdC, MX, ndC, shC, itC, stC, opC, chC, nwC, flC, rqC, rsC, enc, List.cons_append, List.nil_append, and_true, true_and] at hb
  unfold o105 at ho
  unfold v105 at hK
  have hle := lbI_le (nmI l) b
  rw [nmI_len] at hle
  conv => whnf
  repeat' first|((first|refine Cnd.mk (fun h=>?_) (fun h=>?_)|refine Gd.mk (fun h=>?_))<;>(try simp [etas,elDef,-List.getD_eq_getElem?_getD] at h)<;>conv=>whnf)|((first|refine Obl.mk (by first|omega|rfl|exact inK_byte _|(simp only [inK,Int.toNat_natCast,etas,elDef]<;>first|omega|grind)|grind [inK]) ?_|refine OblG.mk (by ((conv=>whnf);(repeat (first|refine Bx.mk ?_|(intro h;(try simp [etas,elDef,-List.getD_eq_getElem?_getD] at h);conv=>whnf)));(first|omega|rfl|exact inK_byte _|(simp only [inK,Int.toNat_natCast,etas,elDef]<;>first|omega|grind)|grind [inK]))) ?_|refine And.intro ?_ ?_)<;>conv=>whnf)|exact True.intro|(intro;conv=>whnf)
  refine aloop_intro (Nat × Nat) (fun p => p.1 ≤ lbI (nmI l) b ∧ lbI (nmI l) b ≤ p.2 ∧ p.2 ≤ l.length) (fun p => p.2 - p.1) (fun p => [(7, .int .i64 p.1), (8, .int .i64 p.2)]) (fun _ => []) [] (0, l.length) [] [] ?_ ?_ (by exact sgOk_of (by rfl)) ?_
  · simp; exact hle
  · iterate 2 ((all_goals (conv=>whnf));(repeat' (first|exact trivial|rfl|(refine nilEq ?_;first|rfl|(simp only [*];done)|(simp [*];done)|grind)|apply And.intro|((first|apply intEq|apply boolEq|apply strEq|apply psEq|apply nilEq|apply arrEq);(try simp only [Int.toNat_natCast,etas,elDef]);first | done | omega | grind | (simp only [*]; done) | (simp [*]; done)))));(all_goals ((try simp only [Int.toNat_natCast,etas,elDef]);first | done | omega | grind | (simp only [*]; done) | (simp [*]; done)))
  rintro ⟨i, j⟩ ⟨h1, h2, h3⟩
  dsimp only at h1 h2 h3
  conv => whnf
  repeat' first|((first|refine Cnd.mk (fun h=>?_) (fun h=>?_)|refine Gd.mk (fun h=>?_))<;>(try simp [etas,elDef,-List.getD_eq_getElem?_getD] at h)<;>conv=>whnf)|((first|refine Obl.mk (by first|omega|rfl|exact inK_byte _|(simp only [inK,Int.toNat_natCast,etas,elDef]<;>first|omega|grind)|grind [inK]) ?_|refine OblG.mk (by ((conv=>whnf);(repeat (first|refine Bx.mk ?_|(intro h;(try simp [etas,elDef,-List.getD_eq_getElem?_getD] at h);conv=>whnf)));(first|omega|rfl|exact inK_byte _|(simp only [inK,Int.toNat_natCast,etas,elDef]<;>first|omega|grind)|grind [inK]))) ?_|refine And.intro ?_ ?_)<;>conv=>whnf)|exact True.intro|(intro;conv=>whnf)
  · have e : ((i + j : Int) / 2).toNat = (i + j) / 2 := by omega
    have hh := lbI_gt (b := b) (h := (i + j) / 2) ho (by rw [nmI_len]; omega) (by rw [nmI_get]; rw [e] at h; exact h)
    exact ⟨((i + j) / 2 + 1, j), [], [], ⟨by simp only; omega, by simp only; omega, by simp only; omega⟩, by simp only; omega, by iterate 2 ((all_goals (conv=>whnf));(repeat' (first|exact trivial|rfl|(refine nilEq ?_;first|rfl|(simp only [*];done)|(simp [*];done)|grind)|apply And.intro|((first|apply intEq|apply boolEq|apply strEq|apply psEq|apply nilEq|apply arrEq);(try simp only [Int.toNat_natCast,etas,elDef]);(simp only; omega)))));(all_goals ((try simp only [Int.toNat_natCast,etas,elDef]);(simp only; omega))), (by exact sgOk_of (by rfl))⟩
  · have e : ((i + j : Int) / 2).toNat = (i + j) / 2 := by omega
    have hh := lbI_ge (l := nmI l) (b := b) (h := (i + j) / 2) (by rw [nmI_get]; rw [e] at h; exact h)
    exact ⟨(i, (i + j) / 2), [], [], ⟨by simp only; omega, by simp only; omega, by simp only; omega⟩, by simp only; omega, by iterate 2 ((all_goals (conv=>whnf));(repeat' (first|exact trivial|rfl|(refine nilEq ?_;first|rfl|(simp only [*];done)|(simp [*];done)|grind)|apply And.intro|((first|apply intEq|apply boolEq|apply strEq|apply psEq|apply nilEq|apply arrEq);(try simp only [Int.toNat_natCast,etas,elDef]);(simp only; omega)))));(all_goals ((try simp only [Int.toNat_natCast,etas,elDef]);(simp only; omega))), (by exact sgOk_of (by rfl))⟩
  · have e : i = lbI (nmI l) b := by omega
    subst e
    refine leafV hK ?_
    simp only [foundI, Int.toNat_natCast, elDef, nmI_len, nmI_get]
    simp
theorem s105 : (CtrOK Tryd.prog 105 (.pure F105) ∧ Callable Tryd.prog 105) := by
  refine pure_ok (E := E105) (mkE_cons s110 (mkE_cons s111 (mkE_nil tab_ok))) mix (O := O105) (F := F105) Tryd.func105 rfl (by rfl) (by kernel_rfl) (fun args o v h => ?_) (fun args o v h => ?_) (fun args o v h hbd hp K hK => ?_)
  · unfold F105 at h; split at h <;> cases h; first | trivial | (simp [v105, Scalar, Scalar2, Scalar1, stC, ndC, itC, chC, nwC])
  · unfold F105 at h; split at h <;> cases h; exact Nat.le_of_ble_eq_true rfl
  · unfold F105 at h; split at h
    case h_2 => cases h
    cases h
    exact a105 _ _ (by exact hbd) (hp _ rfl) K hK
noncomputable def v116 (n : Int) : AV := .str (decM n.toNat)
noncomputable def o116 (n : Int) : Prop := 0 ≤ n ∧ n < 10
noncomputable def F116 : List AV → QR
  | [.int .i64 n] => some (some (o116 n), v116 n)
  | _ => none
noncomputable def E116 : Ctx := mkE tab []
noncomputable def O116 : Nat → List DI := ordL []
theorem a116 (n : Int) (hb : BdAs [.int .i64 n]) (ho : o116 n) (K : AV → List AV → Prop) (hK : K (v116 n) []) : abody E116 O116 .ps Tryd.f116 (Tryd.f116.body.getD .skip) [.int .i64 n] K := by
  simp only [BdAs, BdA, BdL, BdC, MX, ndC, shC, itC, stC, opC, chC, nwC, flC, rqC, rsC, enc, List.cons_append, List.nil_append, and_true, true_and] at hb
  unfold o116 at ho
  unfold v116 at hK
  conv => whnf
  repeat' first|((first|refine Cnd.mk (fun h=>?_) (fun h=>?_)|refine Gd.mk (fun h=>?_))<;>(try simp [etas,elDef,-List.getD_eq_getElem?_getD] at h)<;>conv=>whnf)|((first|refine Obl.mk (by first|omega|rfl|exact inK_byte _|(simp only [inK,Int.toNat_natCast,etas,elDef]<;>first|omega|grind)|grind [inK]) ?_|refine OblG.mk (by ((conv=>whnf);(repeat (first|refine Bx.mk ?_|(intro h;(try simp [etas,elDef,-List.getD_eq_getElem?_getD] at h);conv=>whnf)));(first|omega|rfl|exact inK_byte _|(simp only [inK,Int.toNat_natCast,etas,elDef]<;>first|omega|grind)|grind [inK]))) ?_|refine And.intro ?_ ?_)<;>conv=>whnf)|exact True.intro|(intro;conv=>whnf)
  · refine Obl.mk (by simp; omega) ?_
    conv => whnf
    refine leafS hK ?_
    rw [decM_lt (by omega)]
    obtain ⟨k, rfl⟩ := Int.eq_ofNat_of_zero_le ho.1
    have hk : k < 10 := by omega
    clear hK ho hb h
    rw [show ((k : Int) + 1).toNat = k + 1 by omega, Int.toNat_natCast]
    revert k
    decide
  · exfalso; omega
theorem s116 : (CtrOK Tryd.prog 116 (.pure F116) ∧ Callable Tryd.prog 116) := by
  refine pure_ok (E := E116) (mkE_nil tab_ok) mix (O := O116) (F := F116) Tryd.func116 rfl (by rfl) (by kernel_rfl) (fun args o v h => ?_) (fun args o v h => ?_) (fun args o v h hbd hp K hK => ?_)
  · unfold F116 at h; split at h <;> cases h; first | trivial | (simp [v116, Scalar, Scalar2, Scalar1, stC, ndC, itC, chC, nwC])
  · unfold F116 at h; split at h <;> cases h; exact Nat.le_of_ble_eq_true rfl
  · unfold F116 at h; split at h
    case h_2 => cases h
    cases h
    exact a116 _ (by exact hbd) (hp _ rfl) K hK
noncomputable def v114 (n : Int) : AV := .str (decM n.toNat)
noncomputable def o114 (n : Int) : Prop := 0 ≤ n ∧ n < 10
noncomputable def F114 : List AV → QR
  | [.int .i64 n, .int .i64 10] => some (some (o114 n), v114 n)
  | _ => none
noncomputable def E114 : Ctx := mkE tab [(116, .pure F116)]
noncomputable def O114 : Nat → List DI := ordL []
theorem a114 (n : Int) (hb : BdAs [.int .i64 n, .int .i64 10]) (ho : o114 n) (K : AV → List AV → Prop) (hK : K (v114 n) []) : abody E114 O114 .ps Tryd.f114 (Tryd.f114.body.getD .skip) [.int .i64 n, .int .i64 10] K := by
  simp only [BdAs, BdA, BdL, BdC, MX, ndC, shC, itC, stC, opC, chC, nwC, flC, rqC, rsC, enc, List.cons_append, List.nil_append, and_true, true_and] at hb
  unfold o114 at ho
  unfold v114 at hK
  conv => whnf
  repeat' first|((first|refine Cnd.mk (fun h=>?_) (fun h=>?_)|refine Gd.mk (fun h=>?_))<;>(try simp [etas,elDef,-List.getD_eq_getElem?_getD] at h)<;>conv=>whnf)|((first|refine Obl.mk (by first|omega|rfl|exact inK_byte _|(simp only [inK,Int.toNat_natCast,etas,elDef,o116]<;>first|omega|grind)|grind [inK,o116]) ?_|refine OblG.mk (by ((conv=>whnf);(repeat (first|refine Bx.mk ?_|(intro h;(try simp [etas,elDef,-List.getD_eq_getElem?_getD] at h);conv=>whnf)));(first|omega|rfl|exact inK_byte _|(simp only [inK,Int.toNat_natCast,etas,elDef,o116]<;>first|omega|grind)|grind [inK,o116]))) ?_|refine And.intro ?_ ?_)<;>conv=>whnf)|exact True.intro|(intro;conv=>whnf)
  all_goals first | exact hK | (exfalso; omega)
theorem s114 : (CtrOK Tryd.prog 114 (.pure F114) ∧ Callable Tryd.prog 114) := by
  refine pure_ok (E := E114) (mkE_cons s116 (mkE_nil tab_ok)) mix (O := O114) (F := F114) Tryd.func114 rfl (by rfl) (by kernel_rfl) (fun args o v h => ?_) (fun args o v h => ?_) (fun args o v h hbd hp K hK => ?_)
  · unfold F114 at h; split at h <;> cases h; first | trivial | (simp [v114, Scalar, Scalar2, Scalar1, stC, ndC, itC, chC, nwC])
  · unfold F114 at h; split at h <;> cases h; exact Nat.le_of_ble_eq_true rfl
  · unfold F114 at h; split at h
    case h_2 => cases h
    cases h
    exact a114 _ (by exact hbd) (hp _ rfl) K hK
noncomputable def v109 (n : Int) : AV := .str (decM n.toNat)
noncomputable def o109 (n : Int) : Prop := 0 ≤ n ∧ n < 10
noncomputable def F109 : List AV → QR
  | [.int .i64 n] => some (some (o109 n), v109 n)
  | _ => none
noncomputable def E109 : Ctx := mkE tab [(114, .pure F114)]
noncomputable def O109 : Nat → List DI := ordL []
theorem a109 (n : Int) (hb : BdAs [.int .i64 n]) (ho : o109 n) (K : AV → List AV → Prop) (hK : K (v109 n) []) : abody E109 O109 .ps Tryd.f109 (Tryd.f109.body.getD .skip) [.int .i64 n] K := by
  simp only [BdAs, BdA, BdL, BdC, MX, ndC, shC, itC, stC, opC, chC, nwC, flC, rqC, rsC, enc, List.cons_append, List.nil_append, and_true, true_and] at hb
  unfold o109 at ho
  unfold v109 at hK
  conv => whnf
  repeat' first|((first|refine Cnd.mk (fun h=>?_) (fun h=>?_)|refine Gd.mk (fun h=>?_))<;>(try simp [etas,elDef,-List.getD_eq_getElem?_getD] at h)<;>conv=>whnf)|((first|refine Obl.mk (by first|omega|rfl|exact inK_byte _|(simp only [inK,Int.toNat_natCast,etas,elDef,o114]<;>first|omega|grind)|grind [inK,o114]) ?_|refine OblG.mk (by ((conv=>whnf);(repeat (first|refine Bx.mk ?_|(intro h;(try simp [etas,elDef,-List.getD_eq_getElem?_getD] at h);conv=>whnf)));(first|omega|rfl|exact inK_byte _|(simp only [inK,Int.toNat_natCast,etas,elDef,o114]<;>first|omega|grind)|grind [inK,o114]))) ?_|refine And.intro ?_ ?_)<;>conv=>whnf)|exact True.intro|(intro;conv=>whnf)
  all_goals exact hK
theorem s109 : (CtrOK Tryd.prog 109 (.pure F109) ∧ Callable Tryd.prog 109) := by
  refine pure_ok (E := E109) (mkE_cons s114 (mkE_nil tab_ok)) mix (O := O109) (F := F109) Tryd.func109 rfl (by rfl) (by kernel_rfl) (fun args o v h => ?_) (fun args o v h => ?_) (fun args o v h hbd hp K hK => ?_)
  · unfold F109 at h; split at h <;> cases h; first | trivial | (simp [v109, Scalar, Scalar2, Scalar1, stC, ndC, itC, chC, nwC])
  · unfold F109 at h; split at h <;> cases h; exact Nat.le_of_ble_eq_true rfl
  · unfold F109 at h; split at h
    case h_2 => cases h
    cases h
    exact a109 _ (by exact hbd) (hp _ rfl) K hK
noncomputable def v102 (n : Int) : AV := .str (decM n.toNat)
noncomputable def o102 (n : Int) : Prop := 0 ≤ n ∧ n < 10
noncomputable def F102 : List AV → QR
  | [.int .i64 n] => some (some (o102 n), v102 n)
  | _ => none
noncomputable def E102 : Ctx := mkE tab [(109, .pure F109)]
noncomputable def O102 : Nat → List DI := ordL []
theorem a102 (n : Int) (hb : BdAs [.int .i64 n]) (ho : o102 n) (K : AV → List AV → Prop) (hK : K (v102 n) []) : abody E102 O102 .ps Tryd.f102 (Tryd.f102.body.getD .skip) [.int .i64 n] K := by
  simp only [BdAs, BdA, BdL, BdC, MX, ndC, shC, itC, stC, opC, chC, nwC, flC, rqC, rsC, enc, List.cons_append, List.nil_append, and_true, true_and] at hb
  unfold o102 at ho
  unfold v102 at hK
  conv => whnf
  repeat' first|((first|refine Cnd.mk (fun h=>?_) (fun h=>?_)|refine Gd.mk (fun h=>?_))<;>(try simp [etas,elDef,-List.getD_eq_getElem?_getD] at h)<;>conv=>whnf)|((first|refine Obl.mk (by first|omega|rfl|exact inK_byte _|(simp only [inK,Int.toNat_natCast,etas,elDef,o109]<;>first|omega|grind)|grind [inK,o109]) ?_|refine OblG.mk (by ((conv=>whnf);(repeat (first|refine Bx.mk ?_|(intro h;(try simp [etas,elDef,-List.getD_eq_getElem?_getD] at h);conv=>whnf)));(first|omega|rfl|exact inK_byte _|(simp only [inK,Int.toNat_natCast,etas,elDef,o109]<;>first|omega|grind)|grind [inK,o109]))) ?_|refine And.intro ?_ ?_)<;>conv=>whnf)|exact True.intro|(intro;conv=>whnf)
  all_goals exact hK
theorem s102 : (CtrOK Tryd.prog 102 (.pure F102) ∧ Callable Tryd.prog 102) := by
  refine pure_ok (E := E102) (mkE_cons s109 (mkE_nil tab_ok)) mix (O := O102) (F := F102) Tryd.func102 rfl (by rfl) (by kernel_rfl) (fun args o v h => ?_) (fun args o v h => ?_) (fun args o v h hbd hp K hK => ?_)
  · unfold F102 at h; split at h <;> cases h; first | trivial | (simp [v102, Scalar, Scalar2, Scalar1, stC, ndC, itC, chC, nwC])
  · unfold F102 at h; split at h <;> cases h; exact Nat.le_of_ble_eq_true rfl
  · unfold F102 at h; split at h
    case h_2 => cases h
    cases h
    exact a102 _ (by exact hbd) (hp _ rfl) K hK
noncomputable def v97 (n : Nd) (b : Bs) : AV := .tup [.int .i64 (kidM n b).1, .bool (kidM n b).2]
noncomputable def o97 (n : Nd) (b : Bs) : Prop := okN n
noncomputable def F97 : List AV → QR
  | [.st [.int .i64 n_0, .int .i64 n_1, .str n_2, .ps .str n_3, .ps .node n_4], .str b] => some (some (o97 ⟨n_0, n_1, n_2, n_3, n_4⟩ b), v97 ⟨n_0, n_1, n_2, n_3, n_4⟩ b)
  | _ => none
noncomputable def E97 : Ctx := mkE tab [(102, .pure F102), (105, .pure F105)]
noncomputable def O97 : Nat → List DI := ordL []
theorem a97 (n : Nd) (b : Bs) (hb : BdAs [.st (ndC n), .str b]) (ho : o97 n b) (K : AV → List AV → Prop) (hK : K (v97 n b) []) : abody E97 O97 .ps Tryd.f97 (Tryd.f97.body.getD .skip) [.st (ndC n), .str b] K := by
  simp only [BdAs, BdA, BdL, BdC, MX, ndC, shC, itC, stC, opC, chC, nwC, flC, rqC, rsC, enc, List.cons_append, List.nil_append, and_true, true_and] at hb
  unfold o97 at ho
  unfold v97 at hK
  have h6 := okN_kids ho
  have h5 := fun h => okN_sorted ho h
  conv => whnf
  repeat' first|((first|refine Cnd.mk (fun h=>?_) (fun h=>?_)|refine Gd.mk (fun h=>?_))<;>(try simp [etas,elDef,-List.getD_eq_getElem?_getD] at h)<;>conv=>whnf)|((first|refine Obl.mk (by first|omega|rfl|exact inK_byte _|(simp only [inK,Int.toNat_natCast,etas,elDef,o102,o105]<;>first|omega|grind)|grind [inK,o102,o105]) ?_|refine OblG.mk (by ((conv=>whnf);(repeat (first|refine Bx.mk ?_|(intro h;(try simp [etas,elDef,-List.getD_eq_getElem?_getD] at h);conv=>whnf)));(first|omega|rfl|exact inK_byte _|(simp only [inK,Int.toNat_natCast,etas,elDef,o102,o105]<;>first|omega|grind)|grind [inK,o102,o105]))) ?_|refine And.intro ?_ ?_)<;>conv=>whnf)|exact True.intro|(intro;conv=>whnf)
  · exact leafV hK (by simp only [kidM, if_pos h])
  · refine aloop_intro Nat (fun k => k ≤ n.kids.length ∧ ∀ j, j < k → decM j ≠ b) (fun k => n.kids.length - k) (fun k => [(22, .int .i64 k)]) (fun k => []) [] 0 [] [] ?_ ?_ (by exact sgOk_of (by rfl)) ?_
    · first | (simp; done) | (simp; assumption)
    · iterate 2 ((all_goals (conv=>whnf));(repeat' (first|exact trivial|rfl|(refine nilEq ?_;first|rfl|(simp only [*];done)|(simp [*];done)|grind)|apply And.intro|((first|apply intEq|apply boolEq|apply strEq|apply psEq|apply nilEq|apply arrEq);(try simp only [Int.toNat_natCast,etas,elDef]);first | done | omega | grind | (simp only [*]; done) | (simp [*]; done)))));(all_goals ((try simp only [Int.toNat_natCast,etas,elDef]);first | done | omega | grind | (simp only [*]; done) | (simp [*]; done)))
    rintro i ⟨hi, hj⟩
    conv => whnf
    repeat' first|((first|refine Cnd.mk (fun h=>?_) (fun h=>?_)|refine Gd.mk (fun h=>?_))<;>(try simp [etas,elDef,-List.getD_eq_getElem?_getD] at h)<;>conv=>whnf)|((first|refine Obl.mk (by first|omega|rfl|exact inK_byte _|(simp only [inK,Int.toNat_natCast,etas,elDef,o102,o105]<;>first|omega|grind)|grind [inK,o102,o105]) ?_|refine OblG.mk (by ((conv=>whnf);(repeat (first|refine Bx.mk ?_|(intro h;(try simp [etas,elDef,-List.getD_eq_getElem?_getD] at h);conv=>whnf)));(first|omega|rfl|exact inK_byte _|(simp only [inK,Int.toNat_natCast,etas,elDef,o102,o105]<;>first|omega|grind)|grind [inK,o102,o105]))) ?_|refine And.intro ?_ ?_)<;>conv=>whnf)|exact True.intro|(intro;conv=>whnf)
    · have hp : placeM n b = i := placeM_at (by omega) (hitM_iff.2 (.inr ⟨by assumption, by first | exact of_decide_eq_true h | exact h⟩)) fun j hl => hitM_no ⟨fun h4 => by omega, fun _ => hj j hl⟩
      exact leafV hK (by unfold kidM; rw [if_neg (by omega), if_neg (by omega), hp])
    · have hj' : ∀ j, j < i + 1 → decM j ≠ b := fun j hl => (Nat.lt_or_eq_of_le (Nat.le_of_lt_succ hl)).elim (hj j) (fun e => e ▸ (by first | exact of_decide_eq_false h | exact h))
      exact ⟨i + 1, [], [], ⟨by omega, by exact hj'⟩, by omega, by iterate 2 ((all_goals (conv=>whnf));(repeat' (first|exact trivial|rfl|(refine nilEq ?_;first|rfl|(simp only [*];done)|(simp [*];done)|grind)|apply And.intro|((first|apply intEq|apply boolEq|apply strEq|apply psEq|apply nilEq|apply arrEq);(try simp only [Int.toNat_natCast,etas,elDef]);first | done | omega | grind | (simp only [*]; done) | (simp [*]; done)))));(all_goals ((try simp only [Int.toNat_natCast,etas,elDef]);first | done | omega | grind | (simp only [*]; done) | (simp [*]; done))), (by exact sgOk_of (by rfl))⟩
    · have hp : placeM n b = -1 := placeM_none fun j hl => hitM_no ⟨fun h4 => by omega, fun _ => hj j (by omega)⟩
      exact leafV hK (by unfold kidM; rw [if_neg (by omega), if_pos (by omega)])
  · have hp : placeM n b = -1 := placeM_none fun j hl => hitM_no ⟨fun h4 => by omega, fun h3 => by omega⟩
    exact leafV hK (by unfold kidM; rw [if_neg (by omega), if_pos (by omega)])
theorem s97 : (CtrOK Tryd.prog 97 (.pure F97) ∧ Callable Tryd.prog 97) := by
  refine pure_ok (E := E97) (mkE_cons s102 (mkE_cons s105 (mkE_nil tab_ok))) mix (O := O97) (F := F97) Tryd.func97 rfl (by rfl) (by kernel_rfl) (fun args o v h => ?_) (fun args o v h => ?_) (fun args o v h hbd hp K hK => ?_)
  · unfold F97 at h; split at h <;> cases h; first | trivial | (simp [v97, Scalar, Scalar2, Scalar1, stC, ndC, itC, chC, nwC])
  · unfold F97 at h; split at h <;> cases h; exact Nat.le_of_ble_eq_true rfl
  · unfold F97 at h; split at h
    case h_2 => cases h
    cases h
    exact a97 ⟨_, _, _, _, _⟩ _ (by exact hbd) (hp _ rfl) K hK
noncomputable def v89 (l : List Bs) : AV := .bool (pathM l)
noncomputable def o89 (l : List Bs) : Prop := True
noncomputable def F89 : List AV → QR
  | [.ps .str l] => some (none, v89 l)
  | _ => none
noncomputable def E89 : Ctx := mkE tab [(96, .pure F96)]
noncomputable def O89 : Nat → List DI := ordL []
theorem a89 (l : List Bs) (hb : BdAs [.ps .str l]) (ho : o89 l) (K : AV → List AV → Prop) (hK : K (v89 l) []) : abody E89 O89 .ps Tryd.f89 (Tryd.f89.body.getD .skip) [.ps .str l] K := by
  simp only [BdAs, BdA, BdL, BdC, MX, ndC, shC, itC, stC, opC, chC, nwC, flC, rqC, rsC, enc, List.cons_append, List.nil_append, and_true, true_and] at hb
  unfold v89 at hK
  conv => whnf
  repeat' first|((first|refine Cnd.mk (fun h=>?_) (fun h=>?_)|refine Gd.mk (fun h=>?_))<;>(try simp [etas,elDef,-List.getD_eq_getElem?_getD] at h)<;>conv=>whnf)|((first|refine Obl.mk (by first|omega|rfl|exact inK_byte _|(simp only [inK,Int.toNat_natCast,etas,elDef]<;>first|omega|grind)|grind [inK]) ?_|refine OblG.mk (by ((conv=>whnf);(repeat (first|refine Bx.mk ?_|(intro h;(try simp [etas,elDef,-List.getD_eq_getElem?_getD] at h);conv=>whnf)));(first|omega|rfl|exact inK_byte _|(simp only [inK,Int.toNat_natCast,etas,elDef]<;>first|omega|grind)|grind [inK]))) ?_|refine And.intro ?_ ?_)<;>conv=>whnf)|exact True.intro|(intro;conv=>whnf)
  · exact leafB hK (by simp [pathM]; omega)
  refine aloop_intro Nat (fun k => k ≤ l.length ∧ ∀ j, j < k → txtM (l.getD j []) = true) (fun k => l.length - k) (fun k => [(10, .int .i64 k)]) (fun k => []) [] 0 [] [] ?_ ?_ (by exact sgOk_of (by rfl)) ?_
  · first | (simp; done) | (simp; assumption)
  · iterate 2 ((all_goals (conv=>whnf));(repeat' (first|exact trivial|rfl|(refine nilEq ?_;first|rfl|(simp only [*];done)|(simp [*];done)|grind)|apply And.intro|((first|apply intEq|apply boolEq|apply strEq|apply psEq|apply nilEq|apply arrEq);(try simp only [Int.toNat_natCast,etas,elDef]);first | done | omega | grind | (simp only [*]; done) | (simp [*]; done)))));(all_goals ((try simp only [Int.toNat_natCast,etas,elDef]);first | done | omega | grind | (simp only [*]; done) | (simp [*]; done)))
  rintro i ⟨hi, hj⟩
  conv => whnf
  repeat' first|((first|refine Cnd.mk (fun h=>?_) (fun h=>?_)|refine Gd.mk (fun h=>?_))<;>(try simp [etas,elDef,-List.getD_eq_getElem?_getD] at h)<;>conv=>whnf)|((first|refine Obl.mk (by first|omega|rfl|exact inK_byte _|(simp only [inK,Int.toNat_natCast,etas,elDef]<;>first|omega|grind)|grind [inK]) ?_|refine OblG.mk (by ((conv=>whnf);(repeat (first|refine Bx.mk ?_|(intro h;(try simp [etas,elDef,-List.getD_eq_getElem?_getD] at h);conv=>whnf)));(first|omega|rfl|exact inK_byte _|(simp only [inK,Int.toNat_natCast,etas,elDef]<;>first|omega|grind)|grind [inK]))) ?_|refine And.intro ?_ ?_)<;>conv=>whnf)|exact True.intro|(intro;conv=>whnf)
  · have : l.all txtM = false := allB_no (j := i) (by omega) (by grind)
    exact leafB hK (by simp only [pathM, this, Bool.and_false])
  · exact ⟨i + 1, [], [], ⟨by omega, by grind⟩, by omega, by iterate 2 ((all_goals (conv=>whnf));(repeat' (first|exact trivial|rfl|(refine nilEq ?_;first|rfl|(simp only [*];done)|(simp [*];done)|grind)|apply And.intro|((first|apply intEq|apply boolEq|apply strEq|apply psEq|apply nilEq|apply arrEq);(try simp only [Int.toNat_natCast,etas,elDef]);first | done | omega | grind | (simp only [*]; done) | (simp [*]; done)))));(all_goals ((try simp only [Int.toNat_natCast,etas,elDef]);first | done | omega | grind | (simp only [*]; done) | (simp [*]; done))), (by exact sgOk_of (by rfl))⟩
  · have : l.all txtM = true := (allB_iff _ _).2 (by grind)
    exact leafB hK (by simp only [pathM, this, Bool.and_true]; exact decide_eq_true (by omega))
theorem s89 : (CtrOK Tryd.prog 89 (.pure F89) ∧ Callable Tryd.prog 89) := by
  refine pure_ok (E := E89) (mkE_cons s96 (mkE_nil tab_ok)) mix (O := O89) (F := F89) Tryd.func89 rfl (by rfl) (by kernel_rfl) (fun args o v h => ?_) (fun args o v h => ?_) (fun args o v h hbd hp K hK => ?_)
  · unfold F89 at h; split at h <;> cases h; first | trivial | (simp [v89, Scalar, Scalar2, Scalar1, stC, ndC, itC, chC, nwC])
  · unfold F89 at h; split at h <;> cases h; exact Nat.le_of_ble_eq_true rfl
  · unfold F89 at h; split at h
    case h_2 => cases h
    cases h
    exact a89 _ (by exact hbd) trivial K hK
noncomputable def v70 (l : List Bs) : AV := .bool (pathM l)
noncomputable def o70 (l : List Bs) : Prop := True
noncomputable def F70 : List AV → QR
  | [.ps .str l] => some (none, v70 l)
  | _ => none
noncomputable def E70 : Ctx := mkE tab [(83, .pure F83)]
noncomputable def O70 : Nat → List DI := ordL []
theorem a70 (l : List Bs) (hb : BdAs [.ps .str l]) (ho : o70 l) (K : AV → List AV → Prop) (hK : K (v70 l) []) : abody E70 O70 .ps Tryd.f70 (Tryd.f70.body.getD .skip) [.ps .str l] K := by
  simp only [BdAs, BdA, BdL, BdC, MX, ndC, shC, itC, stC, opC, chC, nwC, flC, rqC, rsC, enc, List.cons_append, List.nil_append, and_true, true_and] at hb
  unfold v70 at hK
  conv => whnf
  refine aloop_intro Nat (fun k => k ≤ l.length ∧ ∀ j, j < k → txtM (l.getD j []) = true) (fun k => l.length - k) (fun k => [(3, .int .i64 k)]) (fun k => []) [] 0 [] [] ?_ ?_ (by exact sgOk_of (by rfl)) ?_
  · first | (simp; done) | (simp; assumption)
  · iterate 2 ((all_goals (conv=>whnf));(repeat' (first|exact trivial|rfl|(refine nilEq ?_;first|rfl|(simp only [*];done)|(simp [*];done)|grind)|apply And.intro|((first|apply intEq|apply boolEq|apply strEq|apply psEq|apply nilEq|apply arrEq);(try simp only [Int.toNat_natCast,etas,elDef]);first | done | omega | grind | (simp only [*]; done) | (simp [*]; done)))));(all_goals ((try simp only [Int.toNat_natCast,etas,elDef]);first | done | omega | grind | (simp only [*]; done) | (simp [*]; done)))
  rintro i ⟨hi, hj⟩
  conv => whnf
  repeat' first|((first|refine Cnd.mk (fun h=>?_) (fun h=>?_)|refine Gd.mk (fun h=>?_))<;>(try simp [etas,elDef,-List.getD_eq_getElem?_getD] at h)<;>conv=>whnf)|((first|refine Obl.mk (by first|omega|rfl|exact inK_byte _|(simp only [inK,Int.toNat_natCast,etas,elDef]<;>first|omega|grind)|grind [inK]) ?_|refine OblG.mk (by ((conv=>whnf);(repeat (first|refine Bx.mk ?_|(intro h;(try simp [etas,elDef,-List.getD_eq_getElem?_getD] at h);conv=>whnf)));(first|omega|rfl|exact inK_byte _|(simp only [inK,Int.toNat_natCast,etas,elDef]<;>first|omega|grind)|grind [inK]))) ?_|refine And.intro ?_ ?_)<;>conv=>whnf)|exact True.intro|(intro;conv=>whnf)
  · have : l.all txtM = false := allB_no (j := i) (by omega) (by grind)
    exact leafB hK (by simp only [pathM, this, Bool.and_false])
  · exact ⟨i + 1, [], [], ⟨by omega, by grind⟩, by omega, by iterate 2 ((all_goals (conv=>whnf));(repeat' (first|exact trivial|rfl|(refine nilEq ?_;first|rfl|(simp only [*];done)|(simp [*];done)|grind)|apply And.intro|((first|apply intEq|apply boolEq|apply strEq|apply psEq|apply nilEq|apply arrEq);(try simp only [Int.toNat_natCast,etas,elDef]);first | done | omega | grind | (simp only [*]; done) | (simp [*]; done)))));(all_goals ((try simp only [Int.toNat_natCast,etas,elDef]);first | done | omega | grind | (simp only [*]; done) | (simp [*]; done))), (by exact sgOk_of (by rfl))⟩
  · have : l.all txtM = true := (allB_iff _ _).2 (by grind)
    exact leafB hK (by simp only [pathM, this, Bool.and_true]; rw [Bool.eq_iff_iff]; simp; omega)
theorem s70 : (CtrOK Tryd.prog 70 (.pure F70) ∧ Callable Tryd.prog 70) := by
  refine pure_ok (E := E70) (mkE_cons s83 (mkE_nil tab_ok)) mix (O := O70) (F := F70) Tryd.func70 rfl (by rfl) (by kernel_rfl) (fun args o v h => ?_) (fun args o v h => ?_) (fun args o v h hbd hp K hK => ?_)
  · unfold F70 at h; split at h <;> cases h; first | trivial | (simp [v70, Scalar, Scalar2, Scalar1, stC, ndC, itC, chC, nwC])
  · unfold F70 at h; split at h <;> cases h; exact Nat.le_of_ble_eq_true rfl
  · unfold F70 at h; split at h
    case h_2 => cases h
    cases h
    exact a70 _ (by exact hbd) trivial K hK
noncomputable def v87 (a : Int) (b : Int) : AV := .int .i64 (ordI a b)
noncomputable def o87 (a : Int) (b : Int) : Prop := True
noncomputable def F87 : List AV → QR
  | [.int .i64 a, .int .i64 b] => some (none, v87 a b)
  | _ => none
noncomputable def E87 : Ctx := mkE tab [(95, .pure F95)]
noncomputable def O87 : Nat → List DI := ordL []
theorem a87 (a : Int) (b : Int) (hb : BdAs [.int .i64 a, .int .i64 b]) (ho : o87 a b) (K : AV → List AV → Prop) (hK : K (v87 a b) []) : abody E87 O87 .ps Tryd.f87 (Tryd.f87.body.getD .skip) [.int .i64 a, .int .i64 b] K := by
  simp only [BdAs, BdA, BdL, BdC, MX, ndC, shC, itC, stC, opC, chC, nwC, flC, rqC, rsC, enc, List.cons_append, List.nil_append, and_true, true_and] at hb
  unfold v87 at hK
  conv => whnf
  repeat' first|((first|refine Cnd.mk (fun h=>?_) (fun h=>?_)|refine Gd.mk (fun h=>?_))<;>(try simp [etas,elDef,-List.getD_eq_getElem?_getD] at h)<;>conv=>whnf)|((first|refine Obl.mk (by first|omega|rfl|exact inK_byte _|(simp only [inK,Int.toNat_natCast,etas,elDef]<;>first|omega|grind)|grind [inK]) ?_|refine OblG.mk (by ((conv=>whnf);(repeat (first|refine Bx.mk ?_|(intro h;(try simp [etas,elDef,-List.getD_eq_getElem?_getD] at h);conv=>whnf)));(first|omega|rfl|exact inK_byte _|(simp only [inK,Int.toNat_natCast,etas,elDef]<;>first|omega|grind)|grind [inK]))) ?_|refine And.intro ?_ ?_)<;>conv=>whnf)|exact True.intro|(intro;conv=>whnf)
  all_goals exact leafI hK (by unfold ordI; grind)
theorem s87 : (CtrOK Tryd.prog 87 (.pure F87) ∧ Callable Tryd.prog 87) := by
  refine pure_ok (E := E87) (mkE_cons s95 (mkE_nil tab_ok)) mix (O := O87) (F := F87) Tryd.func87 rfl (by rfl) (by kernel_rfl) (fun args o v h => ?_) (fun args o v h => ?_) (fun args o v h hbd hp K hK => ?_)
  · unfold F87 at h; split at h <;> cases h; first | trivial | (simp [v87, Scalar, Scalar2, Scalar1, stC, ndC, itC, chC, nwC])
  · unfold F87 at h; split at h <;> cases h; exact Nat.le_of_ble_eq_true rfl
  · unfold F87 at h; split at h
    case h_2 => cases h
    cases h
    exact a87 _ _ (by exact hbd) trivial K hK
noncomputable def v88 (a : Bs) (b : Bs) : AV := .int .i64 (cmpI a b)
noncomputable def o88 (a : Bs) (b : Bs) : Prop := True
noncomputable def F88 : List AV → QR
  | [.str a, .str b] => some (none, v88 a b)
  | _ => none
noncomputable def E88 : Ctx := mkE tab [(95, .pure F95)]
noncomputable def O88 : Nat → List DI := ordL []
theorem a88 (a : Bs) (b : Bs) (hb : BdAs [.str a, .str b]) (ho : o88 a b) (K : AV → List AV → Prop) (hK : K (v88 a b) []) : abody E88 O88 .ps Tryd.f88 (Tryd.f88.body.getD .skip) [.str a, .str b] K := by
  simp only [BdAs, BdA, BdL, BdC, MX, ndC, shC, itC, stC, opC, chC, nwC, flC, rqC, rsC, enc, List.cons_append, List.nil_append, and_true, true_and] at hb
  unfold v88 at hK
  have h1 := fun h : ltS a b = true => ltS_asymm h
  conv => whnf
  repeat' first|((first|refine Cnd.mk (fun h=>?_) (fun h=>?_)|refine Gd.mk (fun h=>?_))<;>(try simp [etas,elDef,-List.getD_eq_getElem?_getD] at h)<;>conv=>whnf)|((first|refine Obl.mk (by first|omega|rfl|exact inK_byte _|(simp only [inK,Int.toNat_natCast,etas,elDef]<;>first|omega|grind)|grind [inK]) ?_|refine OblG.mk (by ((conv=>whnf);(repeat (first|refine Bx.mk ?_|(intro h;(try simp [etas,elDef,-List.getD_eq_getElem?_getD] at h);conv=>whnf)));(first|omega|rfl|exact inK_byte _|(simp only [inK,Int.toNat_natCast,etas,elDef]<;>first|omega|grind)|grind [inK]))) ?_|refine And.intro ?_ ?_)<;>conv=>whnf)|exact True.intro|(intro;conv=>whnf)
  all_goals exact leafI hK (by unfold cmpI; grind)
theorem s88 : (CtrOK Tryd.prog 88 (.pure F88) ∧ Callable Tryd.prog 88) := by
  refine pure_ok (E := E88) (mkE_cons s95 (mkE_nil tab_ok)) mix (O := O88) (F := F88) Tryd.func88 rfl (by rfl) (by kernel_rfl) (fun args o v h => ?_) (fun args o v h => ?_) (fun args o v h hbd hp K hK => ?_)
  · unfold F88 at h; split at h <;> cases h; first | trivial | (simp [v88, Scalar, Scalar2, Scalar1, stC, ndC, itC, chC, nwC])
  · unfold F88 at h; split at h <;> cases h; exact Nat.le_of_ble_eq_true rfl
  · unfold F88 at h; split at h
    case h_2 => cases h
    cases h
    exact a88 _ _ (by exact hbd) trivial K hK
noncomputable def v91 (a : Nd) (b : Nd) : AV := .int .i64 (cmpN a b)
noncomputable def o91 (a : Nd) (b : Nd) : Prop := okN a ∧ okN b
noncomputable def m91 (a : Nd) (b : Nd) : Nat := SizeOf.sizeOf a
noncomputable def F91 : List AV → QR
  | [.st [.int .i64 a_0, .int .i64 a_1, .str a_2, .ps .str a_3, .ps .node a_4], .st [.int .i64 b_0, .int .i64 b_1, .str b_2, .ps .str b_3, .ps .node b_4]] => some (some (o91 ⟨a_0, a_1, a_2, a_3, a_4⟩ ⟨b_0, b_1, b_2, b_3, b_4⟩), v91 ⟨a_0, a_1, a_2, a_3, a_4⟩ ⟨b_0, b_1, b_2, b_3, b_4⟩)
  | _ => none
noncomputable def Fk91 (k : Nat) : List AV → QR
  | [.st [.int .i64 a_0, .int .i64 a_1, .str a_2, .ps .str a_3, .ps .node a_4], .st [.int .i64 b_0, .int .i64 b_1, .str b_2, .ps .str b_3, .ps .node b_4]] => some (some (m91 ⟨a_0, a_1, a_2, a_3, a_4⟩ ⟨b_0, b_1, b_2, b_3, b_4⟩ < k ∧ o91 ⟨a_0, a_1, a_2, a_3, a_4⟩ ⟨b_0, b_1, b_2, b_3, b_4⟩), v91 ⟨a_0, a_1, a_2, a_3, a_4⟩ ⟨b_0, b_1, b_2, b_3, b_4⟩)
  | _ => none
noncomputable def E91 (k : Nat) : Ctx := mkE tab [(91, .pure (Fk91 k)), (98, .pure F98), (99, .pure F99)]
noncomputable def O91 : Nat → List DI := ordL [(14, [.q 0, .q 1, .q 2, .q 3, .q 4, .q 5, .q 6, .q 7, .q 8, .q 9, .q 10, .q 11]), (17, [.q 0, .q 1, .q 2, .q 3, .q 4, .q 5, .q 6, .q 7, .q 8, .q 9, .q 10, .q 11])]
theorem a91 (k : Nat) (a : Nd) (b : Nd) (hm : m91 a b < k + 1) (hb : BdAs [.st (ndC a), .st (ndC b)]) (ho : o91 a b) (K : AV → List AV → Prop) (hK : K (v91 a b) []) : abody (E91 k) O91 .ps Tryd.f91 (Tryd.f91.body.getD .skip) [.st (ndC a), .st (ndC b)] K := by
  simp only [BdAs, BdA, BdL, BdC, MX, ndC, shC, itC, stC, opC, chC, nwC, flC, rqC, rsC, enc, List.cons_append, List.nil_append, and_true, true_and] at hb
  unfold o91 at ho
  unfold v91 at hK
  unfold m91 at hm
  rw [cmpN_eq] at hK
  obtain ⟨ha, hb2⟩ := ho
  have hna := (okN_names ha).2.1
  have hnb := (okN_names hb2).2.1
  have hkid : ∀ j, j < a.kids.length → j < b.kids.length → SizeOf.sizeOf (a.kids.getD j default) < k ∧ okN (a.kids.getD j default) ∧ okN (b.kids.getD j default) := fun j hj hj2 => ⟨by have := kid_size hj; omega, okN_kid ha hj, okN_kid hb2 hj2⟩
  conv => whnf
  repeat' first|((first|refine Cnd.mk (fun h=>?_) (fun h=>?_)|refine Gd.mk (fun h=>?_))<;>(try simp [etas,elDef,-List.getD_eq_getElem?_getD] at h)<;>conv=>whnf)|((first|refine Obl.mk (by first|omega|rfl|exact inK_byte _|(simp only [inK,Int.toNat_natCast,etas,elDef,m91,o91,m91]<;>first|omega|grind)|grind [inK,m91,o91,m91]) ?_|refine OblG.mk (by ((conv=>whnf);(repeat (first|refine Bx.mk ?_|(intro h;(try simp [etas,elDef,-List.getD_eq_getElem?_getD] at h);conv=>whnf)));(first|omega|rfl|exact inK_byte _|(simp only [inK,Int.toNat_natCast,etas,elDef,m91,o91,m91]<;>first|omega|grind)|grind [inK,m91,o91,m91]))) ?_|refine And.intro ?_ ?_)<;>conv=>whnf)|exact True.intro|(intro;conv=>whnf)
  · exact leafI hK (by rw [if_neg (fun e => h (ordI_zero.2 e))])
  · exact leafI hK (by rw [if_pos (ordI_zero.1 (by assumption)), if_neg (fun e => h (ordI_zero.2 e))])
  · exact leafI hK (by rw [if_pos (ordI_zero.1 (by assumption)), if_pos (ordI_zero.1 (by assumption)), if_neg (fun e => h (cmpI_zero.2 e))])
  have e1 : a.kind = b.kind := ordI_zero.1 (by assumption)
  have e2 : a.num = b.num := ordI_zero.1 (by assumption)
  have e3 : a.text = b.text := cmpI_zero.1 (by assumption)
  rw [if_pos e1, if_pos e2, if_pos e3, ← cmpK_zero] at hK
  refine aloop_intro Nat (fun i => i ≤ a.kids.length ∧ i ≤ b.kids.length ∧ cmpK a b 0 = cmpK a b i) (fun i => a.kids.length - i) (fun i => [(8, .int .i64 i)]) (fun _ => []) [2, 3] 0 [] [] ⟨by omega, by omega, rfl⟩ ?_ (by exact sgOk_of (by rfl)) ?_
  · iterate 2 ((all_goals (conv=>whnf));(repeat' (first|exact trivial|rfl|(refine nilEq ?_;first|rfl|(simp only [*];done)|(simp [*];done)|grind)|apply And.intro|((first|apply intEq|apply boolEq|apply strEq|apply psEq|apply nilEq|apply arrEq);(try simp only [Int.toNat_natCast,etas,elDef]);first | done | omega | grind | (simp only [*]; done) | (simp [*]; done)))));(all_goals ((try simp only [Int.toNat_natCast,etas,elDef]);first | done | omega | grind | (simp only [*]; done) | (simp [*]; done)))
  rintro i ⟨hi1, hi2, hj⟩
  have hst := fun h1 h2 => cmpK_step (a := a) (b := b) (i := i) h1 h2
  have hen := fun h => cmpK_end (a := a) (b := b) (i := i) hi1 hi2 h
  have hz := @cmpI_zero
  conv => whnf
  repeat' first|((first|refine Cnd.mk (fun h=>?_) (fun h=>?_)|refine Gd.mk (fun h=>?_))<;>(try simp [etas,elDef,-List.getD_eq_getElem?_getD] at h)<;>conv=>whnf)|((first|refine Obl.mk (by first|omega|rfl|exact inK_byte _|(simp only [inK,Int.toNat_natCast,etas,elDef,m91,o91,m91]<;>first|omega|grind)|grind [inK,m91,o91,m91]) ?_|refine OblG.mk (by ((conv=>whnf);(repeat (first|refine Bx.mk ?_|(intro h;(try simp [etas,elDef,-List.getD_eq_getElem?_getD] at h);conv=>whnf)));(first|omega|rfl|exact inK_byte _|(simp only [inK,Int.toNat_natCast,etas,elDef,m91,o91,m91]<;>first|omega|grind)|grind [inK,m91,o91,m91]))) ?_|refine And.intro ?_ ?_)<;>conv=>whnf)|exact True.intro|(intro;conv=>whnf)
  all_goals first
    | exact leafI hK (by rw [hj, hen (by omega)])
    | exact leafI hK (by rw [hj, hst (by omega) (by omega)]; simp only [Int.toNat_natCast, elDef, nd_eta]; grind)
    | (have e : cmpK a b i = cmpK a b (i + 1) := by rw [hst (by omega) (by omega)]; grind
       exact ⟨i + 1, [], [], ⟨by omega, by omega, hj.trans e⟩, by omega, by iterate 2 ((all_goals (conv=>whnf));(repeat' (first|exact trivial|rfl|(refine nilEq ?_;first|rfl|(simp only [*];done)|(simp [*];done)|grind)|apply And.intro|((first|apply intEq|apply boolEq|apply strEq|apply psEq|apply nilEq|apply arrEq);(try simp only [Int.toNat_natCast,etas,elDef]);first | done | omega | grind | (simp only [*]; done) | (simp [*]; done)))));(all_goals ((try simp only [Int.toNat_natCast,etas,elDef]);first | done | omega | grind | (simp only [*]; done) | (simp [*]; done))), (by exact sgOk_of (by rfl))⟩)
theorem r91 : ∀ k, (CtrOK Tryd.prog 91 (.pure (Fk91 k)) ∧ Callable Tryd.prog 91) := by
  intro k
  induction k with
  | zero =>
    exact ⟨⟨fun args o v h => by unfold Fk91 at h; split at h <;> cases h; first | trivial | (simp [v91, Scalar, Scalar2, Scalar1, stC, ndC, itC, chC, nwC]), fun args K h => by
        unfold pureC Fk91 at h; split at h
        · rename_i h1; split at h1 <;> cases h1; exact absurd (h.1 _ rfl).1 (Nat.not_lt_zero _)
        · exact h.elim⟩, callable Tryd.func91 rfl (by rfl)⟩
  | succ k ih =>
    refine pure_ok (E := E91 k) (mkE_cons ih (mkE_cons s98 (mkE_cons s99 (mkE_nil tab_ok)))) mix (O := O91) (F := (Fk91 (k + 1))) Tryd.func91 rfl (by rfl) (by kernel_rfl) (fun args o v h => ?_) (fun args o v h => ?_) (fun args o v h hbd hp K hK => ?_)
    · unfold Fk91 at h; split at h <;> cases h; first | trivial | (simp [v91, Scalar, Scalar2, Scalar1, stC, ndC, itC, chC, nwC])
    · unfold Fk91 at h; split at h <;> cases h; exact Nat.le_of_ble_eq_true rfl
    · unfold Fk91 at h; split at h
      case h_2 => cases h
      cases h
      exact a91 k ⟨_, _, _, _, _⟩ ⟨_, _, _, _, _⟩ (hp _ rfl).1 (by exact hbd) (hp _ rfl).2 K hK
theorem s91 : (CtrOK Tryd.prog 91 (.pure F91) ∧ Callable Tryd.prog 91) := by
  refine ⟨⟨fun args o v h => ?_, fun args K h => ?_⟩, (r91 0).2⟩
  · unfold F91 at h; split at h <;> cases h; first | trivial | (simp [v91, Scalar, Scalar2, Scalar1, stC, ndC, itC, chC, nwC])
  · unfold pureC F91 at h; split at h
    · rename_i h1; split at h1 <;> cases h1
      exact (r91 (m91 ⟨_, _, _, _, _⟩ ⟨_, _, _, _, _⟩ + 1)).1.2 _ K ⟨fun p hp => by cases hp; exact ⟨Nat.lt_succ_self _, (h.1 _ rfl)⟩, h.2⟩
    · exact h.elim
noncomputable def v73 (a : Nd) (b : Nd) : AV := .int .i64 (cmpN a b)
noncomputable def o73 (a : Nd) (b : Nd) : Prop := okN a ∧ okN b
noncomputable def m73 (a : Nd) (b : Nd) : Nat := SizeOf.sizeOf a
noncomputable def F73 : List AV → QR
  | [.st [.int .i64 a_0, .int .i64 a_1, .str a_2, .ps .str a_3, .ps .node a_4], .st [.int .i64 b_0, .int .i64 b_1, .str b_2, .ps .str b_3, .ps .node b_4]] => some (some (o73 ⟨a_0, a_1, a_2, a_3, a_4⟩ ⟨b_0, b_1, b_2, b_3, b_4⟩), v73 ⟨a_0, a_1, a_2, a_3, a_4⟩ ⟨b_0, b_1, b_2, b_3, b_4⟩)
  | _ => none
noncomputable def Fk73 (k : Nat) : List AV → QR
  | [.st [.int .i64 a_0, .int .i64 a_1, .str a_2, .ps .str a_3, .ps .node a_4], .st [.int .i64 b_0, .int .i64 b_1, .str b_2, .ps .str b_3, .ps .node b_4]] => some (some (m73 ⟨a_0, a_1, a_2, a_3, a_4⟩ ⟨b_0, b_1, b_2, b_3, b_4⟩ < k ∧ o73 ⟨a_0, a_1, a_2, a_3, a_4⟩ ⟨b_0, b_1, b_2, b_3, b_4⟩), v73 ⟨a_0, a_1, a_2, a_3, a_4⟩ ⟨b_0, b_1, b_2, b_3, b_4⟩)
  | _ => none
noncomputable def E73 (k : Nat) : Ctx := mkE tab [(73, .pure (Fk73 k)), (87, .pure F87), (88, .pure F88)]
noncomputable def O73 : Nat → List DI := ordL [(10, [.q 0, .q 1, .q 2, .q 3, .q 4, .q 5, .q 6, .q 7, .q 8, .q 9, .q 10, .q 11, .q 12, .q 13, .q 14, .q 15]), (11, [.q 0, .q 1, .q 2, .q 3, .q 4, .q 5, .q 6, .q 7, .q 8, .q 9, .q 10, .q 11]), (12, [.q 0, .q 1, .q 2, .q 3, .q 4, .q 5, .q 6, .q 7, .q 8, .q 9, .q 10, .q 11])]
theorem a73 (k : Nat) (a : Nd) (b : Nd) (hm : m73 a b < k + 1) (hb : BdAs [.st (ndC a), .st (ndC b)]) (ho : o73 a b) (K : AV → List AV → Prop) (hK : K (v73 a b) []) : abody (E73 k) O73 .ps Tryd.f73 (Tryd.f73.body.getD .skip) [.st (ndC a), .st (ndC b)] K := by
  simp only [BdAs, BdA, BdL, BdC, MX, ndC, shC, itC, stC, opC, chC, nwC, flC, rqC, rsC, enc, List.cons_append, List.nil_append, and_true, true_and] at hb
  unfold o73 at ho
  unfold v73 at hK
  unfold m73 at hm
  rw [cmpN_eq] at hK
  obtain ⟨ha, hb2⟩ := ho
  have hna := (okN_names ha).2.1
  have hnb := (okN_names hb2).2.1
  have hkid : ∀ j, j < a.kids.length → j < b.kids.length → SizeOf.sizeOf (a.kids.getD j default) < k ∧ okN (a.kids.getD j default) ∧ okN (b.kids.getD j default) := fun j hj hj2 => ⟨by have := kid_size hj; omega, okN_kid ha hj, okN_kid hb2 hj2⟩
  conv => whnf
  repeat' first|((first|refine Cnd.mk (fun h=>?_) (fun h=>?_)|refine Gd.mk (fun h=>?_))<;>(try simp [etas,elDef,-List.getD_eq_getElem?_getD] at h)<;>conv=>whnf)|((first|refine Obl.mk (by first|omega|rfl|exact inK_byte _|(simp only [inK,Int.toNat_natCast,etas,elDef,m73,o73,m73]<;>first|omega|grind)|grind [inK,m73,o73,m73]) ?_|refine OblG.mk (by ((conv=>whnf);(repeat (first|refine Bx.mk ?_|(intro h;(try simp [etas,elDef,-List.getD_eq_getElem?_getD] at h);conv=>whnf)));(first|omega|rfl|exact inK_byte _|(simp only [inK,Int.toNat_natCast,etas,elDef,m73,o73,m73]<;>first|omega|grind)|grind [inK,m73,o73,m73]))) ?_|refine And.intro ?_ ?_)<;>conv=>whnf)|exact True.intro|(intro;conv=>whnf)
  · exact leafI hK (by rw [if_neg (fun e => h (e))])
  · exact leafI hK (by rw [if_pos (by assumption), if_neg (fun e => h (e))])
  · exact leafI hK (by rw [if_pos (by assumption), if_pos (by assumption), if_neg (fun e => h (e))])
  have e1 : a.kind = b.kind := by assumption
  have e2 : a.num = b.num := by assumption
  have e3 : a.text = b.text := by assumption
  rw [if_pos e1, if_pos e2, if_pos e3, ← cmpK_zero] at hK
  refine aloop_intro Nat (fun i => i ≤ a.kids.length ∧ i ≤ b.kids.length ∧ cmpK a b 0 = cmpK a b i) (fun i => a.kids.length - i) (fun i => [(5, .int .i64 i)]) (fun _ => []) [2, 3] 0 [] [] ⟨by omega, by omega, rfl⟩ ?_ (by exact sgOk_of (by rfl)) ?_
  · iterate 2 ((all_goals (conv=>whnf));(repeat' (first|exact trivial|rfl|(refine nilEq ?_;first|rfl|(simp only [*];done)|(simp [*];done)|grind)|apply And.intro|((first|apply intEq|apply boolEq|apply strEq|apply psEq|apply nilEq|apply arrEq);(try simp only [Int.toNat_natCast,etas,elDef]);first | done | omega | grind | (simp only [*]; done) | (simp [*]; done)))));(all_goals ((try simp only [Int.toNat_natCast,etas,elDef]);first | done | omega | grind | (simp only [*]; done) | (simp [*]; done)))
  rintro i ⟨hi1, hi2, hj⟩
  have hst := fun h1 h2 => cmpK_step (a := a) (b := b) (i := i) h1 h2
  have hen := fun h => cmpK_end (a := a) (b := b) (i := i) hi1 hi2 h
  have hz := @cmpI_zero
  conv => whnf
  repeat' first|((first|refine Cnd.mk (fun h=>?_) (fun h=>?_)|refine Gd.mk (fun h=>?_))<;>(try simp [etas,elDef,-List.getD_eq_getElem?_getD] at h)<;>conv=>whnf)|((first|refine Obl.mk (by first|omega|rfl|exact inK_byte _|(simp only [inK,Int.toNat_natCast,etas,elDef,m73,o73,m73]<;>first|omega|grind)|grind [inK,m73,o73,m73]) ?_|refine OblG.mk (by ((conv=>whnf);(repeat (first|refine Bx.mk ?_|(intro h;(try simp [etas,elDef,-List.getD_eq_getElem?_getD] at h);conv=>whnf)));(first|omega|rfl|exact inK_byte _|(simp only [inK,Int.toNat_natCast,etas,elDef,m73,o73,m73]<;>first|omega|grind)|grind [inK,m73,o73,m73]))) ?_|refine And.intro ?_ ?_)<;>conv=>whnf)|exact True.intro|(intro;conv=>whnf)
  all_goals first
    | exact leafI hK (by rw [hj, hen (by omega)])
    | exact leafI hK (by rw [hj, hst (by omega) (by omega)]; simp only [Int.toNat_natCast, elDef, nd_eta]; grind)
    | (have e : cmpK a b i = cmpK a b (i + 1) := by rw [hst (by omega) (by omega)]; grind
       exact ⟨i + 1, [], [], ⟨by omega, by omega, hj.trans e⟩, by omega, by iterate 2 ((all_goals (conv=>whnf));(repeat' (first|exact trivial|rfl|(refine nilEq ?_;first|rfl|(simp only [*];done)|(simp [*];done)|grind)|apply And.intro|((first|apply intEq|apply boolEq|apply strEq|apply psEq|apply nilEq|apply arrEq);(try simp only [Int.toNat_natCast,etas,elDef]);first | done | omega | grind | (simp only [*]; done) | (simp [*]; done)))));(all_goals ((try simp only [Int.toNat_natCast,etas,elDef]);first | done | omega | grind | (simp only [*]; done) | (simp [*]; done))), (by exact sgOk_of (by rfl))⟩)
theorem r73 : ∀ k, (CtrOK Tryd.prog 73 (.pure (Fk73 k)) ∧ Callable Tryd.prog 73) := by
  intro k
  induction k with
  | zero =>
    exact ⟨⟨fun args o v h => by unfold Fk73 at h; split at h <;> cases h; first | trivial | (simp [v73, Scalar, Scalar2, Scalar1, stC, ndC, itC, chC, nwC]), fun args K h => by
        unfold pureC Fk73 at h; split at h
        · rename_i h1; split at h1 <;> cases h1; exact absurd (h.1 _ rfl).1 (Nat.not_lt_zero _)
        · exact h.elim⟩, callable Tryd.func73 rfl (by rfl)⟩
  | succ k ih =>
    refine pure_ok (E := E73 k) (mkE_cons ih (mkE_cons s87 (mkE_cons s88 (mkE_nil tab_ok)))) mix (O := O73) (F := (Fk73 (k + 1))) Tryd.func73 rfl (by rfl) (by kernel_rfl) (fun args o v h => ?_) (fun args o v h => ?_) (fun args o v h hbd hp K hK => ?_)
    · unfold Fk73 at h; split at h <;> cases h; first | trivial | (simp [v73, Scalar, Scalar2, Scalar1, stC, ndC, itC, chC, nwC])
    · unfold Fk73 at h; split at h <;> cases h; exact Nat.le_of_ble_eq_true rfl
    · unfold Fk73 at h; split at h
      case h_2 => cases h
      cases h
      exact a73 k ⟨_, _, _, _, _⟩ ⟨_, _, _, _, _⟩ (hp _ rfl).1 (by exact hbd) (hp _ rfl).2 K hK
theorem s73 : (CtrOK Tryd.prog 73 (.pure F73) ∧ Callable Tryd.prog 73) := by
  refine ⟨⟨fun args o v h => ?_, fun args K h => ?_⟩, (r73 0).2⟩
  · unfold F73 at h; split at h <;> cases h; first | trivial | (simp [v73, Scalar, Scalar2, Scalar1, stC, ndC, itC, chC, nwC])
  · unfold pureC F73 at h; split at h
    · rename_i h1; split at h1 <;> cases h1
      exact (r73 (m73 ⟨_, _, _, _, _⟩ ⟨_, _, _, _, _⟩ + 1)).1.2 _ K ⟨fun p hp => by cases hp; exact ⟨Nat.lt_succ_self _, (h.1 _ rfl)⟩, h.2⟩
    · exact h.elim
end Go.Rs

