import Derived.Test.YtoailaifflbomaaCK
import Derived.Test.YtoailaifflbomaaMB
import Derived.Test.YtoailaifflbomaaMC
set_option linter.all false
section
set_option linter.unusedSimpArgs false
set_option linter.unusedVariables false
namespace Go.Rs
open Go.Proofs
set_option maxRecDepth 100000
end Go.Rs
end
section
set_option linter.unusedSimpArgs false
set_option linter.unusedVariables false
namespace Go.Rs
open Go.Proofs
set_option maxRecDepth 100000
noncomputable def v154 (a : Int) : AV := .bool false
noncomputable def o154 (a : Int) : Prop := True
noncomputable def F154 : List AV → QR
  | [.int .i64 a] => some (none, v154 a)
  | _ => none
noncomputable def E154 : Ctx := mkE tab []
noncomputable def O154 : Nat → List DI := ordL []
theorem a154 (a : Int) (hb : BdAs [.int .i64 a]) (ho : o154 a) (K : AV → List AV → Prop) (hK : K (v154 a) []) : abody E154 O154 .ps Try.f154 (Try.f154.body.getD .skip) [.int .i64 a] K := by
  simp only [BdAs, BdA, BdL, BdC, MX, ndC, shC, itC, stC, opC, chC, nwC, flC, rqC, rsC, enc, List.cons_append, List.nil_append, and_true, true_and] at hb
  unfold v154 at hK
  conv => whnf
  repeat' first|((first|refine Cnd.mk (fun h=>?_) (fun h=>?_)|refine Gd.mk (fun h=>?_))<;>(try simp [etas,elDef,-List.getD_eq_getElem?_getD] at h)<;>conv=>whnf)|((first|refine Obl.mk (by first|omega|rfl|exact inK_byte _|(simp only [inK,Int.toNat_natCast,etas,elDef]<;>first|omega|grind)|grind [inK]) ?_|refine OblG.mk (by ((conv=>whnf);(repeat (first|refine Bx.mk ?_|(intro h;(try simp [etas,elDef,-List.getD_eq_getElem?_getD] at h);conv=>whnf)));(first|omega|rfl|exact inK_byte _|(simp only [inK,Int.toNat_natCast,etas,elDef]<;>first|omega|grind)|grind [inK]))) ?_|refine And.intro ?_ ?_)<;>conv=>whnf)|exact True.intro|(intro;conv=>whnf)
  all_goals exact leafB hK (by simp)
theorem s154 : (CtrOK Try.prog 154 (.pure F154) ∧ Callable Try.prog 154) := by
  refine pure_ok (E := E154) (mkE_nil tab_ok) mix (O := O154) (F := F154) Try.func154 rfl (by rfl) (by kernel_rfl) (fun args o v h => ?_) (fun args o v h => ?_) (fun args o v h hbd hp K hK => ?_)
  · unfold F154 at h; split at h <;> cases h; first | trivial | (simp [v154, Scalar, Scalar2, Scalar1, stC, ndC, itC, chC, nwC])
  · unfold F154 at h; split at h <;> cases h; exact Nat.le_of_ble_eq_true rfl
  · unfold F154 at h; split at h
    case h_2 => cases h
    cases h
    exact a154 _ (by exact hbd) trivial K hK
noncomputable def v160 (a : Bs) : AV := .bool false
noncomputable def o160 (a : Bs) : Prop := True
noncomputable def F160 : List AV → QR
  | [.str a] => some (none, v160 a)
  | _ => none
noncomputable def E160 : Ctx := mkE tab []
noncomputable def O160 : Nat → List DI := ordL []
theorem a160 (a : Bs) (hb : BdAs [.str a]) (ho : o160 a) (K : AV → List AV → Prop) (hK : K (v160 a) []) : abody E160 O160 .ps Try.f160 (Try.f160.body.getD .skip) [.str a] K := by
  simp only [BdAs, BdA, BdL, BdC, MX, ndC, shC, itC, stC, opC, chC, nwC, flC, rqC, rsC, enc, List.cons_append, List.nil_append, and_true, true_and] at hb
  unfold v160 at hK
  conv => whnf
  repeat' first|((first|refine Cnd.mk (fun h=>?_) (fun h=>?_)|refine Gd.mk (fun h=>?_))<;>(try simp [etas,elDef,-List.getD_eq_getElem?_getD] at h)<;>conv=>whnf)|((first|refine Obl.mk (by first|omega|rfl|exact inK_byte _|(simp only [inK,Int.toNat_natCast,etas,elDef]<;>first|omega|grind)|grind [inK]) ?_|refine OblG.mk (by ((conv=>whnf);(repeat (first|refine Bx.mk ?_|(intro h;(try simp [etas,elDef,-List.getD_eq_getElem?_getD] at h);conv=>whnf)));(first|omega|rfl|exact inK_byte _|(simp only [inK,Int.toNat_natCast,etas,elDef]<;>first|omega|grind)|grind [inK]))) ?_|refine And.intro ?_ ?_)<;>conv=>whnf)|exact True.intro|(intro;conv=>whnf)
  all_goals exact leafB hK (by simp)
theorem s160 : (CtrOK Try.prog 160 (.pure F160) ∧ Callable Try.prog 160) := by
  refine pure_ok (E := E160) (mkE_nil tab_ok) mix (O := O160) (F := F160) Try.func160 rfl (by rfl) (by kernel_rfl) (fun args o v h => ?_) (fun args o v h => ?_) (fun args o v h hbd hp K hK => ?_)
  · unfold F160 at h; split at h <;> cases h; first | trivial | (simp [v160, Scalar, Scalar2, Scalar1, stC, ndC, itC, chC, nwC])
  · unfold F160 at h; split at h <;> cases h; exact Nat.le_of_ble_eq_true rfl
  · unfold F160 at h; split at h
    case h_2 => cases h
    cases h
    exact a160 _ (by exact hbd) trivial K hK
noncomputable def v146 (a : Bs) : AV := .bool false
noncomputable def o146 (a : Bs) : Prop := True
noncomputable def F146 : List AV → QR
  | [.str a] => some (none, v146 a)
  | _ => none
noncomputable def E146 : Ctx := mkE tab []
noncomputable def O146 : Nat → List DI := ordL []
theorem a146 (a : Bs) (hb : BdAs [.str a]) (ho : o146 a) (K : AV → List AV → Prop) (hK : K (v146 a) []) : abody E146 O146 .ps Try.f146 (Try.f146.body.getD .skip) [.str a] K := by
  simp only [BdAs, BdA, BdL, BdC, MX, ndC, shC, itC, stC, opC, chC, nwC, flC, rqC, rsC, enc, List.cons_append, List.nil_append, and_true, true_and] at hb
  unfold v146 at hK
  conv => whnf
  repeat' first|((first|refine Cnd.mk (fun h=>?_) (fun h=>?_)|refine Gd.mk (fun h=>?_))<;>(try simp [etas,elDef,-List.getD_eq_getElem?_getD] at h)<;>conv=>whnf)|((first|refine Obl.mk (by first|omega|rfl|exact inK_byte _|(simp only [inK,Int.toNat_natCast,etas,elDef]<;>first|omega|grind)|grind [inK]) ?_|refine OblG.mk (by ((conv=>whnf);(repeat (first|refine Bx.mk ?_|(intro h;(try simp [etas,elDef,-List.getD_eq_getElem?_getD] at h);conv=>whnf)));(first|omega|rfl|exact inK_byte _|(simp only [inK,Int.toNat_natCast,etas,elDef]<;>first|omega|grind)|grind [inK]))) ?_|refine And.intro ?_ ?_)<;>conv=>whnf)|exact True.intro|(intro;conv=>whnf)
  all_goals exact leafB hK (by simp)
theorem s146 : (CtrOK Try.prog 146 (.pure F146) ∧ Callable Try.prog 146) := by
  refine pure_ok (E := E146) (mkE_nil tab_ok) mix (O := O146) (F := F146) Try.func146 rfl (by rfl) (by kernel_rfl) (fun args o v h => ?_) (fun args o v h => ?_) (fun args o v h hbd hp K hK => ?_)
  · unfold F146 at h; split at h <;> cases h; first | trivial | (simp [v146, Scalar, Scalar2, Scalar1, stC, ndC, itC, chC, nwC])
  · unfold F146 at h; split at h <;> cases h; exact Nat.le_of_ble_eq_true rfl
  · unfold F146 at h; split at h
    case h_2 => cases h
    cases h
    exact a146 _ (by exact hbd) trivial K hK
noncomputable def v141 (a : Bs) (b : Bs) : AV := .bool (ltS a b)
noncomputable def o141 (a : Bs) (b : Bs) : Prop := True
noncomputable def F141 : List AV → QR
  | [.str a, .str b] => some (none, v141 a b)
  | _ => none
noncomputable def E141 : Ctx := mkE tab [(160, .pure F160)]
noncomputable def O141 : Nat → List DI := ordL []
theorem a141 (a : Bs) (b : Bs) (hb : BdAs [.str a, .str b]) (ho : o141 a b) (K : AV → List AV → Prop) (hK : K (v141 a b) []) : abody E141 O141 .ps Try.f141 (Try.f141.body.getD .skip) [.str a, .str b] K := by
  simp only [BdAs, BdA, BdL, BdC, MX, ndC, shC, itC, stC, opC, chC, nwC, flC, rqC, rsC, enc, List.cons_append, List.nil_append, and_true, true_and] at hb
  unfold v141 at hK
  conv => whnf
  repeat' first|((first|refine Cnd.mk (fun h=>?_) (fun h=>?_)|refine Gd.mk (fun h=>?_))<;>(try simp [etas,elDef,-List.getD_eq_getElem?_getD] at h)<;>conv=>whnf)|((first|refine Obl.mk (by first|omega|rfl|exact inK_byte _|(simp only [inK,Int.toNat_natCast,etas,elDef]<;>first|omega|grind)|grind [inK]) ?_|refine OblG.mk (by ((conv=>whnf);(repeat (first|refine Bx.mk ?_|(intro h;(try simp [etas,elDef,-List.getD_eq_getElem?_getD] at h);conv=>whnf)));(first|omega|rfl|exact inK_byte _|(simp only [inK,Int.toNat_natCast,etas,elDef]<;>first|omega|grind)|grind [inK]))) ?_|refine And.intro ?_ ?_)<;>conv=>whnf)|exact True.intro|(intro;conv=>whnf)
  all_goals exact leafB hK (by simp)
theorem s141 : (CtrOK Try.prog 141 (.pure F141) ∧ Callable Try.prog 141) := by
  refine pure_ok (E := E141) (mkE_cons s160 (mkE_nil tab_ok)) mix (O := O141) (F := F141) Try.func141 rfl (by rfl) (by kernel_rfl) (fun args o v h => ?_) (fun args o v h => ?_) (fun args o v h hbd hp K hK => ?_)
  · unfold F141 at h; split at h <;> cases h; first | trivial | (simp [v141, Scalar, Scalar2, Scalar1, stC, ndC, itC, chC, nwC])
  · unfold F141 at h; split at h <;> cases h; exact Nat.le_of_ble_eq_true rfl
  · unfold F141 at h; split at h
    case h_2 => cases h
    cases h
    exact a141 _ _ (by exact hbd) trivial K hK
noncomputable def v134 (a : Int) (b : Int) : AV := .int .i64 (ordI a b)
noncomputable def o134 (a : Int) (b : Int) : Prop := True
noncomputable def F134 : List AV → QR
  | [.int .i64 a, .int .i64 b] => some (none, v134 a b)
  | _ => none
noncomputable def E134 : Ctx := mkE tab [(154, .pure F154)]
noncomputable def O134 : Nat → List DI := ordL []
theorem a134 (a : Int) (b : Int) (hb : BdAs [.int .i64 a, .int .i64 b]) (ho : o134 a b) (K : AV → List AV → Prop) (hK : K (v134 a b) []) : abody E134 O134 .ps Try.f134 (Try.f134.body.getD .skip) [.int .i64 a, .int .i64 b] K := by
  simp only [BdAs, BdA, BdL, BdC, MX, ndC, shC, itC, stC, opC, chC, nwC, flC, rqC, rsC, enc, List.cons_append, List.nil_append, and_true, true_and] at hb
  unfold v134 at hK
  conv => whnf
  repeat' first|((first|refine Cnd.mk (fun h=>?_) (fun h=>?_)|refine Gd.mk (fun h=>?_))<;>(try simp [etas,elDef,-List.getD_eq_getElem?_getD] at h)<;>conv=>whnf)|((first|refine Obl.mk (by first|omega|rfl|exact inK_byte _|(simp only [inK,Int.toNat_natCast,etas,elDef]<;>first|omega|grind)|grind [inK]) ?_|refine OblG.mk (by ((conv=>whnf);(repeat (first|refine Bx.mk ?_|(intro h;(try simp [etas,elDef,-List.getD_eq_getElem?_getD] at h);conv=>whnf)));(first|omega|rfl|exact inK_byte _|(simp only [inK,Int.toNat_natCast,etas,elDef]<;>first|omega|grind)|grind [inK]))) ?_|refine And.intro ?_ ?_)<;>conv=>whnf)|exact True.intro|(intro;conv=>whnf)
  all_goals exact leafI hK (by unfold ordI; split <;> (try split) <;> omega)
theorem s134 : (CtrOK Try.prog 134 (.pure F134) ∧ Callable Try.prog 134) := by
  refine pure_ok (E := E134) (mkE_cons s154 (mkE_nil tab_ok)) mix (O := O134) (F := F134) Try.func134 rfl (by rfl) (by kernel_rfl) (fun args o v h => ?_) (fun args o v h => ?_) (fun args o v h hbd hp K hK => ?_)
  · unfold F134 at h; split at h <;> cases h; first | trivial | (simp [v134, Scalar, Scalar2, Scalar1, stC, ndC, itC, chC, nwC])
  · unfold F134 at h; split at h <;> cases h; exact Nat.le_of_ble_eq_true rfl
  · unfold F134 at h; split at h
    case h_2 => cases h
    cases h
    exact a134 _ _ (by exact hbd) trivial K hK
noncomputable def v122 (l : List Bs) (b : Bs) : AV := .tup [.int .i64 (lbI (nmI l) b), .bool (foundI (nmI l) b)]
noncomputable def o122 (l : List Bs) (b : Bs) : Prop := sortedI (nmI l)
noncomputable def F122 : List AV → QR
  | [.ps .str l, .str b] => some (some (o122 l b), v122 l b)
  | _ => none
noncomputable def E122 : Ctx := mkE tab [(141, .pure F141), (146, .pure F146)]
noncomputable def O122 : Nat → List DI := ordL []
theorem a122 (l : List Bs) (b : Bs) (hb : BdAs [.ps .str l, .str b]) (ho : o122 l b) (K : AV → List AV → Prop) (hK : K (v122 l b) []) : abody E122 O122 .ps Try.f122 (Try.f122.body.getD .skip) [.ps .str l, .str b] K := by
  simp only [BdAs, BdA, BdL, BdC, MX, ndC, shC, itC, stC, opC, chC, nwC, flC, rqC, rsC, enc, List.cons_append, List.nil_append, and_true, true_and] at hb
  unfold o122 at ho
  unfold v122 at hK
  have hle := lbI_le (nmI l) b
  rw [nmI_len] at hle
  conv => whnf
  repeat' first|((first|refine Cnd.mk (fun h=>?_) (fun h=>?_)|refine Gd.mk (fun h=>?_))<;>(try simp [etas,elDef,-List.getD_eq_getElem?_getD] at h)<;>conv=>whnf)|((first|refine Obl.mk (by first|omega|rfl|exact inK_byte _|(simp only [inK,Int.toNat_natCast,etas,elDef]<;>first|omega|grind)|grind [inK]) ?_|refine OblG.mk (by ((conv=>whnf);(repeat (first|refine Bx.mk ?_|(intro h;(try simp [etas,elDef,-List.getD_eq_getElem?_getD] at h);conv=>whnf)));(first|omega|rfl|exact inK_byte _|(simp only [inK,Int.toNat_natCast,etas,elDef]<;>first|omega|grind)|grind [inK]))) ?_|refine And.intro ?_ ?_)<;>conv=>whnf)|exact True.intro|(intro;conv=>whnf)
  refine aloop_intro (Nat × Nat) (fun p => p.1 ≤ lbI (nmI l) b ∧ lbI (nmI l) b ≤ p.2 ∧ p.2 ≤ l.length) (fun p => p.2 - p.1) (fun p => [(7, .int .i64 p.1), (8, .int .i64 p.2)]) (fun _ => []) [] (0, l.length) [] [] ?_ ?_ (by exact sgOk_of (by rfl)) ?_
  · simp; exact hle
  · iterate 2 ((all_goals (conv=>whnf));(repeat' (first|exact trivial|rfl|(refine nilEq ?_;first|rfl|(simp only [*];done)|(simp [*];done)|grind)|apply And.intro|((first|apply intEq|apply boolEq|apply strEq|apply psEq|apply nilEq|apply arrEq);(try simp only [Int.toNat_natCast,etas,elDef]);first | done | omega | grind | (simp only [*]; done) | (simp [*]; done)))));(all_goals ((try simp only [Int.toNat_natCast,etas,elDef]);first | done | omega | grind | (simp only [*]; done) | (simp [*]; done)))
  rintro ⟨i, j⟩ ⟨h1, h2, h3⟩
  dsimp only at h1 h2 h3
  conv => whnf
  repeat' first|((first|refine Cnd.mk (fun h=>?_) (fun h=>?_)|refine Gd.mk (fun h=>?_))<;>(try simp [etas,elDef,-List.getD_eq_getElem?_getD] at h)<;>conv=>whnf)|((first|refine Obl.mk (by first|omega|rfl|exact inK_byte _|(simp only [inK,Int.toNat_natCast,etas,elDef]<;>first|omega|grind)|grind [inK]) ?_|refine OblG.mk (by ((conv=>whnf);(repeat (first|refine Bx.mk ?_|(intro h;(try simp [etas,elDef,-List.getD_eq_getElem?_getD] at h);conv=>whnf)));(first|omega|rfl|exact inK_byte _|(simp only [inK,Int.toNat_natCast,etas,elDef]<;>first|omega|grind)|grind [inK]))) ?_|refine And.intro ?_ ?_)<;>conv=>whnf)|exact True.intro|(intro;conv=>whnf)
  · have e : ((i + j : Int) / 2).toNat = (i + j) / 2 := by omega
    have hh := lbI_gt (b := b) (h := (i + j) / 2) ho (by rw [nmI_len]; omega) (by rw [nmI_get]; rw [e] at h; exact h)
    exact ⟨((i + j) / 2 + 1, j), [], [], ⟨by simp only; omega, by simp only; omega, by simp only; omega⟩, by simp only; omega, by iterate 2 ((all_goals (conv=>whnf));(repeat' (first|exact trivial|rfl|(refine nilEq ?_;first|rfl|(simp only [*];done)|(simp [*];done)|grind)|apply And.intro|((first|apply intEq|apply boolEq|apply strEq|apply psEq|apply nilEq|apply arrEq);(try simp only [Int.toNat_natCast,etas,elDef]);(simp only; omega)))));(all_goals ((try simp only [Int.toNat_natCast,etas,elDef]);(simp only; omega))), (by exact sgOk_of (by rfl))⟩
  · have e : ((i + j : Int) / 2).toNat = (i + j) / 2 := by omega
    have hh := lbI_ge (l := nmI l) (b := b) (h := (i + j) / 2) (by rw [nmI_get]; rw [e] at h; exact h)
    exact ⟨(i, (i + j) / 2), [], [], ⟨by simp only; omega, by simp only; omega, by simp only; omega⟩, by simp only; omega, by iterate 2 ((all_goals (conv=>whnf));(repeat' (first|exact trivial|rfl|(refine nilEq ?_;first|rfl|(simp only [*];done)|(simp [*];done)|grind)|apply And.intro|((first|apply intEq|apply boolEq|apply strEq|apply psEq|apply nilEq|apply arrEq);(try simp only [Int.toNat_natCast,etas,elDef]);(simp only; omega)))));(all_goals ((try simp only [Int.toNat_natCast,etas,elDef]);(simp only; omega))), (by exact sgOk_of (by rfl))⟩
  · have e : i = lbI (nmI l) b := by omega
    subst e
    refine leafV hK ?_
    simp only [foundI, Int.toNat_natCast, elDef, nmI_len, nmI_get]
    simp
theorem s122 : (CtrOK Try.prog 122 (.pure F122) ∧ Callable Try.prog 122) := by
  refine pure_ok (E := E122) (mkE_cons s141 (mkE_cons s146 (mkE_nil tab_ok))) mix (O := O122) (F := F122) Try.func122 rfl (by rfl) (by kernel_rfl) (fun args o v h => ?_) (fun args o v h => ?_) (fun args o v h hbd hp K hK => ?_)
  · unfold F122 at h; split at h <;> cases h; first | trivial | (simp [v122, Scalar, Scalar2, Scalar1, stC, ndC, itC, chC, nwC])
  · unfold F122 at h; split at h <;> cases h; exact Nat.le_of_ble_eq_true rfl
  · unfold F122 at h; split at h
    case h_2 => cases h
    cases h
    exact a122 _ _ (by exact hbd) (hp _ rfl) K hK
noncomputable def v129 (a : Int) (b : Int) : AV := .int .i64 (ordI a b)
noncomputable def o129 (a : Int) (b : Int) : Prop := True
noncomputable def F129 : List AV → QR
  | [.int .i64 a, .int .i64 b] => some (none, v129 a b)
  | _ => none
noncomputable def E129 : Ctx := mkE tab [(153, .pure F153)]
noncomputable def O129 : Nat → List DI := ordL []
theorem a129 (a : Int) (b : Int) (hb : BdAs [.int .i64 a, .int .i64 b]) (ho : o129 a b) (K : AV → List AV → Prop) (hK : K (v129 a b) []) : abody E129 O129 .ps Try.f129 (Try.f129.body.getD .skip) [.int .i64 a, .int .i64 b] K := by
  simp only [BdAs, BdA, BdL, BdC, MX, ndC, shC, itC, stC, opC, chC, nwC, flC, rqC, rsC, enc, List.cons_append, List.nil_append, and_true, true_and] at hb
  unfold v129 at hK
  conv => whnf
  repeat' first|((first|refine Cnd.mk (fun h=>?_) (fun h=>?_)|refine Gd.mk (fun h=>?_))<;>(try simp [etas,elDef,-List.getD_eq_getElem?_getD] at h)<;>conv=>whnf)|((first|refine Obl.mk (by first|omega|rfl|exact inK_byte _|(simp only [inK,Int.toNat_natCast,etas,elDef]<;>first|omega|grind)|grind [inK]) ?_|refine OblG.mk (by ((conv=>whnf);(repeat (first|refine Bx.mk ?_|(intro h;(try simp [etas,elDef,-List.getD_eq_getElem?_getD] at h);conv=>whnf)));(first|omega|rfl|exact inK_byte _|(simp only [inK,Int.toNat_natCast,etas,elDef]<;>first|omega|grind)|grind [inK]))) ?_|refine And.intro ?_ ?_)<;>conv=>whnf)|exact True.intro|(intro;conv=>whnf)
  all_goals exact leafI hK (by unfold ordI; grind)
theorem s129 : (CtrOK Try.prog 129 (.pure F129) ∧ Callable Try.prog 129) := by
  refine pure_ok (E := E129) (mkE_cons s153 (mkE_nil tab_ok)) mix (O := O129) (F := F129) Try.func129 rfl (by rfl) (by kernel_rfl) (fun args o v h => ?_) (fun args o v h => ?_) (fun args o v h hbd hp K hK => ?_)
  · unfold F129 at h; split at h <;> cases h; first | trivial | (simp [v129, Scalar, Scalar2, Scalar1, stC, ndC, itC, chC, nwC])
  · unfold F129 at h; split at h <;> cases h; exact Nat.le_of_ble_eq_true rfl
  · unfold F129 at h; split at h
    case h_2 => cases h
    cases h
    exact a129 _ _ (by exact hbd) trivial K hK
noncomputable def v130 (a : Bs) (b : Bs) : AV := .int .i64 (cmpI a b)
noncomputable def o130 (a : Bs) (b : Bs) : Prop := True
noncomputable def F130 : List AV → QR
  | [.str a, .str b] => some (none, v130 a b)
  | _ => none
noncomputable def E130 : Ctx := mkE tab [(153, .pure F153)]
noncomputable def O130 : Nat → List DI := ordL []
theorem a130 (a : Bs) (b : Bs) (hb : BdAs [.str a, .str b]) (ho : o130 a b) (K : AV → List AV → Prop) (hK : K (v130 a b) []) : abody E130 O130 .ps Try.f130 (Try.f130.body.getD .skip) [.str a, .str b] K := by
  simp only [BdAs, BdA, BdL, BdC, MX, ndC, shC, itC, stC, opC, chC, nwC, flC, rqC, rsC, enc, List.cons_append, List.nil_append, and_true, true_and] at hb
  unfold v130 at hK
  have h1 := fun h : ltS a b = true => ltS_asymm h
  conv => whnf
  repeat' first|((first|refine Cnd.mk (fun h=>?_) (fun h=>?_)|refine Gd.mk (fun h=>?_))<;>(try simp [etas,elDef,-List.getD_eq_getElem?_getD] at h)<;>conv=>whnf)|((first|refine Obl.mk (by first|omega|rfl|exact inK_byte _|(simp only [inK,Int.toNat_natCast,etas,elDef]<;>first|omega|grind)|grind [inK]) ?_|refine OblG.mk (by ((conv=>whnf);(repeat (first|refine Bx.mk ?_|(intro h;(try simp [etas,elDef,-List.getD_eq_getElem?_getD] at h);conv=>whnf)));(first|omega|rfl|exact inK_byte _|(simp only [inK,Int.toNat_natCast,etas,elDef]<;>first|omega|grind)|grind [inK]))) ?_|refine And.intro ?_ ?_)<;>conv=>whnf)|exact True.intro|(intro;conv=>whnf)
  all_goals exact leafI hK (by unfold cmpI; grind)
theorem s130 : (CtrOK Try.prog 130 (.pure F130) ∧ Callable Try.prog 130) := by
  refine pure_ok (E := E130) (mkE_cons s153 (mkE_nil tab_ok)) mix (O := O130) (F := F130) Try.func130 rfl (by rfl) (by kernel_rfl) (fun args o v h => ?_) (fun args o v h => ?_) (fun args o v h hbd hp K hK => ?_)
  · unfold F130 at h; split at h <;> cases h; first | trivial | (simp [v130, Scalar, Scalar2, Scalar1, stC, ndC, itC, chC, nwC])
  · unfold F130 at h; split at h <;> cases h; exact Nat.le_of_ble_eq_true rfl
  · unfold F130 at h; split at h
    case h_2 => cases h
    cases h
    exact a130 _ _ (by exact hbd) trivial K hK
noncomputable def v117 (a : Nd) (b : Nd) : AV := .int .i64 (cmpN a b)
noncomputable def o117 (a : Nd) (b : Nd) : Prop := okN a ∧ okN b
noncomputable def m117 (a : Nd) (b : Nd) : Nat := SizeOf.sizeOf a
noncomputable def F117 : List AV → QR
  | [.st [.int .i64 a_0, .int .i64 a_1, .str a_2, .ps .str a_3, .ps .node a_4], .st [.int .i64 b_0, .int .i64 b_1, .str b_2, .ps .str b_3, .ps .node b_4]] => some (some (o117 ⟨a_0, a_1, a_2, a_3, a_4⟩ ⟨b_0, b_1, b_2, b_3, b_4⟩), v117 ⟨a_0, a_1, a_2, a_3, a_4⟩ ⟨b_0, b_1, b_2, b_3, b_4⟩)
  | _ => none
noncomputable def Fk117 (k : Nat) : List AV → QR
  | [.st [.int .i64 a_0, .int .i64 a_1, .str a_2, .ps .str a_3, .ps .node a_4], .st [.int .i64 b_0, .int .i64 b_1, .str b_2, .ps .str b_3, .ps .node b_4]] => some (some (m117 ⟨a_0, a_1, a_2, a_3, a_4⟩ ⟨b_0, b_1, b_2, b_3, b_4⟩ < k ∧ o117 ⟨a_0, a_1, a_2, a_3, a_4⟩ ⟨b_0, b_1, b_2, b_3, b_4⟩), v117 ⟨a_0, a_1, a_2, a_3, a_4⟩ ⟨b_0, b_1, b_2, b_3, b_4⟩)
  | _ => none
noncomputable def E117 (k : Nat) : Ctx := mkE tab [(107, .pure F107), (117, .pure (Fk117 k)), (134, .pure F134)]
noncomputable def O117 : Nat → List DI := ordL [(14, [.q 0, .q 1, .q 2, .q 3, .q 4, .q 5, .q 6, .q 7, .q 8, .q 9, .q 10, .q 11]), (17, [.q 0, .q 1, .q 2, .q 3, .q 4, .q 5, .q 6, .q 7, .q 8, .q 9, .q 10, .q 11])]
theorem a117 (k : Nat) (a : Nd) (b : Nd) (hm : m117 a b < k + 1) (hb : BdAs [.st (ndC a), .st (ndC b)]) (ho : o117 a b) (K : AV → List AV → Prop) (hK : K (v117 a b) []) : abody (E117 k) O117 .ps Try.f117 (Try.f117.body.getD .skip) [.st (ndC a), .st (ndC b)] K := by
  simp only [BdAs, BdA, BdL, BdC, MX, ndC, shC, itC, stC, opC, chC, nwC, flC, rqC, rsC, enc, List.cons_append, List.nil_append, and_true, true_and] at hb
  unfold o117 at ho
  unfold v117 at hK
  unfold m117 at hm
  rw [cmpN_eq] at hK
  obtain ⟨ha, hb2⟩ := ho
  have hna := (okN_names ha).2.1
  have hnb := (okN_names hb2).2.1
  have hkid : ∀ j, j < a.kids.length → j < b.kids.length → SizeOf.sizeOf (a.kids.getD j default) < k ∧ okN (a.kids.getD j default) ∧ okN (b.kids.getD j default) := fun j hj hj2 => ⟨by have := kid_size hj; omega, okN_kid ha hj, okN_kid hb2 hj2⟩
  conv => whnf
  repeat' first|((first|refine Cnd.mk (fun h=>?_) (fun h=>?_)|refine Gd.mk (fun h=>?_))<;>(try simp [etas,elDef,-List.getD_eq_getElem?_getD] at h)<;>conv=>whnf)|((first|refine Obl.mk (by first|omega|rfl|exact inK_byte _|(simp only [inK,Int.toNat_natCast,etas,elDef,m117,o117,m117]<;>first|omega|grind)|grind [inK,m117,o117,m117]) ?_|refine OblG.mk (by ((conv=>whnf);(repeat (first|refine Bx.mk ?_|(intro h;(try simp [etas,elDef,-List.getD_eq_getElem?_getD] at h);conv=>whnf)));(first|omega|rfl|exact inK_byte _|(simp only [inK,Int.toNat_natCast,etas,elDef,m117,o117,m117]<;>first|omega|grind)|grind [inK,m117,o117,m117]))) ?_|refine And.intro ?_ ?_)<;>conv=>whnf)|exact True.intro|(intro;conv=>whnf)
  · exact leafI hK (by rw [if_neg (fun e => h (ordI_zero.2 e))])
  · exact leafI hK (by rw [if_pos (ordI_zero.1 (by assumption)), if_neg (fun e => h (ordI_zero.2 e))])
  · exact leafI hK (by rw [if_pos (ordI_zero.1 (by assumption)), if_pos (ordI_zero.1 (by assumption)), if_neg (fun e => h (cmpI_zero.2 e))])
  have e1 : a.kind = b.kind := ordI_zero.1 (by assumption)
  have e2 : a.num = b.num := ordI_zero.1 (by assumption)
  have e3 : a.text = b.text := cmpI_zero.1 (by assumption)
  rw [if_pos e1, if_pos e2, if_pos e3, ← cmpK_zero] at hK
  refine aloop_intro Nat (fun i => i ≤ a.kids.length ∧ i ≤ b.kids.length ∧ cmpK a b 0 = cmpK a b i) (fun i => a.kids.length - i) (fun i => [(8, .int .i64 i)]) (fun _ => []) [2, 3] 0 [] [] ⟨by omega, by omega, rfl⟩ ?_ (by exact sgOk_of (by rfl)) ?_
  · iterate 2 ((all_goals (conv=>whnf));(repeat' (first|exact trivial|rfl|(refine nilEq ?_;first|rfl|(simp only [*];done)|(simp [*];done)|grind)|apply And.intro|((first|apply intEq|apply boolEq|apply strEq|apply psEq|apply nilEq|apply arrEq);(try simp only [Int.toNat_natCast,etas,elDef]);first | done | omega | grind | (simp only [*]; done) | (simp [*]; done)))));(all_goals ((try simp only [Int.toNat_natCast,etas,elDef]);first | done | omega | grind | (simp only [*]; done) | (simp [*]; done)))
  rintro i ⟨hi1, hi2, hj⟩
  have hst := fun h1 h2 => cmpK_step (a := a) (b := b) (i := i) h1 h2
  have hen := fun h => cmpK_end (a := a) (b := b) (i := i) hi1 hi2 h
  have hz := @cmpI_zero
  conv => whnf
  repeat' first|((first|refine Cnd.mk (fun h=>?_) (fun h=>?_)|refine Gd.mk (fun h=>?_))<;>(try simp [etas,elDef,-List.getD_eq_getElem?_getD] at h)<;>conv=>whnf)|((first|refine Obl.mk (by first|omega|rfl|exact inK_byte _|(simp only [inK,Int.toNat_natCast,etas,elDef,m117,o117,m117]<;>first|omega|grind)|grind [inK,m117,o117,m117]) ?_|refine OblG.mk (by ((conv=>whnf);(repeat (first|refine Bx.mk ?_|(intro h;(try simp [etas,elDef,-List.getD_eq_getElem?_getD] at h);conv=>whnf)));(first|omega|rfl|exact inK_byte _|(simp only [inK,Int.toNat_natCast,etas,elDef,m117,o117,m117]<;>first|omega|grind)|grind [inK,m117,o117,m117]))) ?_|refine And.intro ?_ ?_)<;>conv=>whnf)|exact True.intro|(intro;conv=>whnf)
  all_goals first
    | exact leafI hK (by rw [hj, hen (by omega)])
    | exact leafI hK (by rw [hj, hst (by omega) (by omega)]; simp only [Int.toNat_natCast, elDef, nd_eta]; grind)
    | (have e : cmpK a b i = cmpK a b (i + 1) := by rw [hst (by omega) (by omega)]; grind
       exact ⟨i + 1, [], [], ⟨by omega, by omega, hj.trans e⟩, by omega, by iterate 2 ((all_goals (conv=>whnf));(repeat' (first|exact trivial|rfl|(refine nilEq ?_;first|rfl|(simp only [*];done)|(simp [*];done)|grind)|apply And.intro|((first|apply intEq|apply boolEq|apply strEq|apply psEq|apply nilEq|apply arrEq);(try simp only [Int.toNat_natCast,etas,elDef]);first | done | omega | grind | (simp only [*]; done) | (simp [*]; done)))));(all_goals ((try simp only [Int.toNat_natCast,etas,elDef]);first | done | omega | grind | (simp only [*]; done) | (simp [*]; done))), (by exact sgOk_of (by rfl))⟩)
theorem r117 : ∀ k, (CtrOK Try.prog 117 (.pure (Fk117 k)) ∧ Callable Try.prog 117) := by
  intro k
  induction k with
  | zero =>
    exact ⟨⟨fun args o v h => by unfold Fk117 at h; split at h <;> cases h; first | trivial | (simp [v117, Scalar, Scalar2, Scalar1, stC, ndC, itC, chC, nwC]), fun args K h => by
        unfold pureC Fk117 at h; split at h
        · rename_i h1; split at h1 <;> cases h1; exact absurd (h.1 _ rfl).1 (Nat.not_lt_zero _)
        · exact h.elim⟩, callable Try.func117 rfl (by rfl)⟩
  | succ k ih =>
    refine pure_ok (E := E117 k) (mkE_cons s107 (mkE_cons ih (mkE_cons s134 (mkE_nil tab_ok)))) mix (O := O117) (F := (Fk117 (k + 1))) Try.func117 rfl (by rfl) (by kernel_rfl) (fun args o v h => ?_) (fun args o v h => ?_) (fun args o v h hbd hp K hK => ?_)
    · unfold Fk117 at h; split at h <;> cases h; first | trivial | (simp [v117, Scalar, Scalar2, Scalar1, stC, ndC, itC, chC, nwC])
    · unfold Fk117 at h; split at h <;> cases h; exact Nat.le_of_ble_eq_true rfl
    · unfold Fk117 at h; split at h
      case h_2 => cases h
      cases h
      exact a117 k ⟨_, _, _, _, _⟩ ⟨_, _, _, _, _⟩ (hp _ rfl).1 (by exact hbd) (hp _ rfl).2 K hK
theorem s117 : (CtrOK Try.prog 117 (.pure F117) ∧ Callable Try.prog 117) := by
  refine ⟨⟨fun args o v h => ?_, fun args K h => ?_⟩, (r117 0).2⟩
  · unfold F117 at h; split at h <;> cases h; first | trivial | (simp [v117, Scalar, Scalar2, Scalar1, stC, ndC, itC, chC, nwC])
  · unfold pureC F117 at h; split at h
    · rename_i h1; split at h1 <;> cases h1
      exact (r117 (m117 ⟨_, _, _, _, _⟩ ⟨_, _, _, _, _⟩ + 1)).1.2 _ K ⟨fun p hp => by cases hp; exact ⟨Nat.lt_succ_self _, (h.1 _ rfl)⟩, h.2⟩
    · exact h.elim
noncomputable def v112 (a : Nd) (b : Nd) : AV := .int .i64 (cmpN a b)
noncomputable def o112 (a : Nd) (b : Nd) : Prop := okN a ∧ okN b
noncomputable def m112 (a : Nd) (b : Nd) : Nat := SizeOf.sizeOf a
noncomputable def F112 : List AV → QR
  | [.st [.int .i64 a_0, .int .i64 a_1, .str a_2, .ps .str a_3, .ps .node a_4], .st [.int .i64 b_0, .int .i64 b_1, .str b_2, .ps .str b_3, .ps .node b_4]] => some (some (o112 ⟨a_0, a_1, a_2, a_3, a_4⟩ ⟨b_0, b_1, b_2, b_3, b_4⟩), v112 ⟨a_0, a_1, a_2, a_3, a_4⟩ ⟨b_0, b_1, b_2, b_3, b_4⟩)
  | _ => none
noncomputable def Fk112 (k : Nat) : List AV → QR
  | [.st [.int .i64 a_0, .int .i64 a_1, .str a_2, .ps .str a_3, .ps .node a_4], .st [.int .i64 b_0, .int .i64 b_1, .str b_2, .ps .str b_3, .ps .node b_4]] => some (some (m112 ⟨a_0, a_1, a_2, a_3, a_4⟩ ⟨b_0, b_1, b_2, b_3, b_4⟩ < k ∧ o112 ⟨a_0, a_1, a_2, a_3, a_4⟩ ⟨b_0, b_1, b_2, b_3, b_4⟩), v112 ⟨a_0, a_1, a_2, a_3, a_4⟩ ⟨b_0, b_1, b_2, b_3, b_4⟩)
  | _ => none
noncomputable def E112 (k : Nat) : Ctx := mkE tab [(112, .pure (Fk112 k)), (129, .pure F129), (130, .pure F130)]
noncomputable def O112 : Nat → List DI := ordL [(10, [.q 0, .q 1, .q 2, .q 3, .q 4, .q 5, .q 6, .q 7, .q 8, .q 9, .q 10, .q 11, .q 12, .q 13, .q 14, .q 15]), (11, [.q 0, .q 1, .q 2, .q 3, .q 4, .q 5, .q 6, .q 7, .q 8, .q 9, .q 10, .q 11]), (12, [.q 0, .q 1, .q 2, .q 3, .q 4, .q 5, .q 6, .q 7, .q 8, .q 9, .q 10, .q 11])]
theorem a112 (k : Nat) (a : Nd) (b : Nd) (hm : m112 a b < k + 1) (hb : BdAs [.st (ndC a), .st (ndC b)]) (ho : o112 a b) (K : AV → List AV → Prop) (hK : K (v112 a b) []) : abody (E112 k) O112 .ps Try.f112 (Try.f112.body.getD .skip) [.st (ndC a), .st (ndC b)] K := by
  simp only [BdAs, BdA, BdL, BdC, MX, ndC, shC, itC, stC, opC, chC, nwC, flC, rqC, rsC, enc, List.cons_append, List.nil_append, and_true, true_and] at hb
  unfold o112 at ho
  unfold v112 at hK
  unfold m112 at hm
  rw [cmpN_eq] at hK
  obtain ⟨ha, hb2⟩ := ho
  have hna := (okN_names ha).2.1
  have hnb := (okN_names hb2).2.1
  have hkid : ∀ j, j < a.kids.length → j < b.kids.length → SizeOf.sizeOf (a.kids.getD j default) < k ∧ okN (a.kids.getD j default) ∧ okN (b.kids.getD j default) := fun j hj hj2 => ⟨by have := kid_size hj; omega, okN_kid ha hj, okN_kid hb2 hj2⟩
  conv => whnf
  repeat' first|((first|refine Cnd.mk (fun h=>?_) (fun h=>?_)|refine Gd.mk (fun h=>?_))<;>(try simp [etas,elDef,-List.getD_eq_getElem?_getD] at h)<;>conv=>whnf)|((first|refine Obl.mk (by first|omega|rfl|exact inK_byte _|(simp only [inK,Int.toNat_natCast,etas,elDef,m112,o112,m112]<;>first|omega|grind)|grind [inK,m112,o112,m112]) ?_|refine OblG.mk (by ((conv=>whnf);(repeat (first|refine Bx.mk ?_|(intro h;(try simp [etas,elDef,-List.getD_eq_getElem?_getD] at h);conv=>whnf)));(first|omega|rfl|exact inK_byte _|(simp only [inK,Int.toNat_natCast,etas,elDef,m112,o112,m112]<;>first|omega|grind)|grind [inK,m112,o112,m112]))) ?_|refine And.intro ?_ ?_)<;>conv=>whnf)|exact True.intro|(intro;conv=>whnf)
  · exact leafI hK (by rw [if_neg (fun e => h (e))])
  · exact leafI hK (by rw [if_pos (by assumption), if_neg (fun e => h (e))])
  · exact leafI hK (by rw [if_pos (by assumption), if_pos (by assumption), if_neg (fun e => h (e))])
  have e1 : a.kind = b.kind := by assumption
  have e2 : a.num = b.num := by assumption
  have e3 : a.text = b.text := by assumption
  rw [if_pos e1, if_pos e2, if_pos e3, ← cmpK_zero] at hK
  refine aloop_intro Nat (fun i => i ≤ a.kids.length ∧ i ≤ b.kids.length ∧ cmpK a b 0 = cmpK a b i) (fun i => a.kids.length - i) (fun i => [(5, .int .i64 i)]) (fun _ => []) [2, 3] 0 [] [] ⟨by omega, by omega, rfl⟩ ?_ (by exact sgOk_of (by rfl)) ?_
  · iterate 2 ((all_goals (conv=>whnf));(repeat' (first|exact trivial|rfl|(refine nilEq ?_;first|rfl|(simp only [*];done)|(simp [*];done)|grind)|apply And.intro|((first|apply intEq|apply boolEq|apply strEq|apply psEq|apply nilEq|apply arrEq);(try simp only [Int.toNat_natCast,etas,elDef]);first | done | omega | grind | (simp only [*]; done) | (simp [*]; done)))));(all_goals ((try simp only [Int.toNat_natCast,etas,elDef]);first | done | omega | grind | (simp only [*]; done) | (simp [*]; done)))
  rintro i ⟨hi1, hi2, hj⟩
  have hst := fun h1 h2 => cmpK_step (a := a) (b := b) (i := i) h1 h2
  have hen := fun h => cmpK_end (a := a) (b := b) (i := i) hi1 hi2 h
  have hz := @cmpI_zero
  conv => whnf
  repeat' first|((first|refine Cnd.mk (fun h=>?_) (fun h=>?_)|refine Gd.mk (fun h=>?_))<;>(try simp [etas,elDef,-List.getD_eq_getElem?_getD] at h)<;>conv=>whnf)|((first|refine Obl.mk (by first|omega|rfl|exact inK_byte _|(simp only [inK,Int.toNat_natCast,etas,elDef,m112,o112,m112]<;>first|omega|grind)|grind [inK,m112,o112,m112]) ?_|refine OblG.mk (by ((conv=>whnf);(repeat (first|refine Bx.mk ?_|(intro h;(try simp [etas,elDef,-List.getD_eq_getElem?_getD] at h);conv=>whnf)));(first|omega|rfl|exact inK_byte _|(simp only [inK,Int.toNat_natCast,etas,elDef,m112,o112,m112]<;>first|omega|grind)|grind [inK,m112,o112,m112]))) ?_|refine And.intro ?_ ?_)<;>conv=>whnf)|exact True.intro|(intro;conv=>whnf)
  all_goals first
    | exact leafI hK (by rw [hj, hen (by omega)])
    | exact leafI hK (by rw [hj, hst (by omega) (by omega)]; simp only [Int.toNat_natCast, elDef, nd_eta]; grind)
    | (have e : cmpK a b i = cmpK a b (i + 1) := by rw [hst (by omega) (by omega)]; grind
       exact ⟨i + 1, [], [], ⟨by omega, by omega, hj.trans e⟩, by omega, by iterate 2 ((all_goals (conv=>whnf));(repeat' (first|exact trivial|rfl|(refine nilEq ?_;first|rfl|(simp only [*];done)|(simp [*];done)|grind)|apply And.intro|((first|apply intEq|apply boolEq|apply strEq|apply psEq|apply nilEq|apply arrEq);(try simp only [Int.toNat_natCast,etas,elDef]);first | done | omega | grind | (simp only [*]; done) | (simp [*]; done)))));(all_goals ((try simp only [Int.toNat_natCast,etas,elDef]);first | done | omega | grind | (simp only [*]; done) | (simp [*]; done))), (by exact sgOk_of (by rfl))⟩)
theorem r112 : ∀ k, (CtrOK Try.prog 112 (.pure (Fk112 k)) ∧ Callable Try.prog 112) := by
  intro k
  induction k with
  | zero =>
    exact ⟨⟨fun args o v h => by unfold Fk112 at h; split at h <;> cases h; first | trivial | (simp [v112, Scalar, Scalar2, Scalar1, stC, ndC, itC, chC, nwC]), fun args K h => by
        unfold pureC Fk112 at h; split at h
        · rename_i h1; split at h1 <;> cases h1; exact absurd (h.1 _ rfl).1 (Nat.not_lt_zero _)
        · exact h.elim⟩, callable Try.func112 rfl (by rfl)⟩
  | succ k ih =>
    refine pure_ok (E := E112 k) (mkE_cons ih (mkE_cons s129 (mkE_cons s130 (mkE_nil tab_ok)))) mix (O := O112) (F := (Fk112 (k + 1))) Try.func112 rfl (by rfl) (by kernel_rfl) (fun args o v h => ?_) (fun args o v h => ?_) (fun args o v h hbd hp K hK => ?_)
    · unfold Fk112 at h; split at h <;> cases h; first | trivial | (simp [v112, Scalar, Scalar2, Scalar1, stC, ndC, itC, chC, nwC])
    · unfold Fk112 at h; split at h <;> cases h; exact Nat.le_of_ble_eq_true rfl
    · unfold Fk112 at h; split at h
      case h_2 => cases h
      cases h
      exact a112 k ⟨_, _, _, _, _⟩ ⟨_, _, _, _, _⟩ (hp _ rfl).1 (by exact hbd) (hp _ rfl).2 K hK
theorem s112 : (CtrOK Try.prog 112 (.pure F112) ∧ Callable Try.prog 112) := by
  refine ⟨⟨fun args o v h => ?_, fun args K h => ?_⟩, (r112 0).2⟩
  · unfold F112 at h; split at h <;> cases h; first | trivial | (simp [v112, Scalar, Scalar2, Scalar1, stC, ndC, itC, chC, nwC])
  · unfold pureC F112 at h; split at h
    · rename_i h1; split at h1 <;> cases h1
      exact (r112 (m112 ⟨_, _, _, _, _⟩ ⟨_, _, _, _, _⟩ + 1)).1.2 _ K ⟨fun p hp => by cases hp; exact ⟨Nat.lt_succ_self _, (h.1 _ rfl)⟩, h.2⟩
    · exact h.elim
end Go.Rs
end
