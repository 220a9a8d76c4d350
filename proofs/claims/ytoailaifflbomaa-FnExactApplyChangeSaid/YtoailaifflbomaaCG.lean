import Derived.Test.YtoailaifflbomaaCC
import Derived.Test.YtoailaifflbomaaMA
import Derived.Test.YtoailaifflbomaaMB
set_option linter.all false
section
set_option linter.unusedSimpArgs false
set_option linter.unusedVariables false
namespace Go.Rs
open Go.Proofs
set_option maxRecDepth 100000
noncomputable def v126 (a : Bs) (b : Bs) : AV := .int .i64 (Go.Lib.compareBytes a b)
noncomputable def F126 : List AV → QR
  | [.str a, .str b] => some (none, v126 a b)
  | _ => none
theorem kcmp (a b : ByteArray) (w : World) :
    Calls Try.prog 126 #[.string a, .string b] w fun e w' => e = .returned (.int .i64 (Go.Lib.compareBytes a.data.toList b.data.toList)) ∧ w' = w := by
  go_enter Try.func126, Try.ntmps126
  go_wp2
  rw [run_callFunc_extern Try.func151 (by kernel_rfl) (by kernel_rfl) (by kernel_rfl) (e := Extern.BytealgCompare.compare) (by kernel_rfl), Go.Lib.run_compareString]
  simp only [Result.andThen]
  rw [Oper.upon_value]
  go_wp2
  go_ret
  exact ⟨rfl, rfl⟩
theorem s126 : CtrOK Try.prog 126 (.pure F126) ∧ Callable Try.prog 126 := by
  refine ⟨⟨fun args o v h => ?_, ?_⟩, callable Try.func126 rfl (by rfl)⟩
  · unfold F126 at h; split at h <;> cases h; trivial
  · exact snd_cmp kcmp
noncomputable def v107 (a : Bs) (b : Bs) : AV := .int .i64 (cmpI a b)
noncomputable def o107 (a : Bs) (b : Bs) : Prop := True
noncomputable def F107 : List AV → QR
  | [.str a, .str b] => some (none, v107 a b)
  | _ => none
noncomputable def E107 : Ctx := mkE tab [(126, .pure F126)]
noncomputable def O107 : Nat → List DI := ordL []
theorem a107 (a : Bs) (b : Bs) (hb : BdAs [.str a, .str b]) (ho : o107 a b) (K : AV → List AV → Prop) (hK : K (v107 a b) []) : abody E107 O107 .ps Try.f107 (Try.f107.body.getD .skip) [.str a, .str b] K := by
  simp only [BdAs, BdA, BdL, BdC, MX, ndC, shC, itC, stC, opC, chC, nwC, flC, rqC, rsC, enc, List.cons_append, List.nil_append, and_true, true_and] at hb
  unfold v107 at hK
  rw [← cmp_ltS] at hK
  conv => whnf
  repeat' first|((first|refine Cnd.mk (fun h=>?_) (fun h=>?_)|refine Gd.mk (fun h=>?_))<;>(try simp [etas,elDef,-List.getD_eq_getElem?_getD] at h)<;>conv=>whnf)|((first|refine Obl.mk (by first|omega|rfl|exact inK_byte _|(simp only [inK,Int.toNat_natCast,etas,elDef]<;>first|omega|grind)|grind [inK]) ?_|refine OblG.mk (by ((conv=>whnf);(repeat (first|refine Bx.mk ?_|(intro h;(try simp [etas,elDef,-List.getD_eq_getElem?_getD] at h);conv=>whnf)));(first|omega|rfl|exact inK_byte _|(simp only [inK,Int.toNat_natCast,etas,elDef]<;>first|omega|grind)|grind [inK]))) ?_|refine And.intro ?_ ?_)<;>conv=>whnf)|exact True.intro|(intro;conv=>whnf)
  exact hK
theorem s107 : (CtrOK Try.prog 107 (.pure F107) ∧ Callable Try.prog 107) := by
  refine pure_ok (E := E107) (mkE_cons s126 (mkE_nil tab_ok)) mix (O := O107) (F := F107) Try.func107 rfl (by rfl) (by kernel_rfl) (fun args o v h => ?_) (fun args o v h => ?_) (fun args o v h hbd hp K hK => ?_)
  · unfold F107 at h; split at h <;> cases h; first | trivial | (simp [v107, Scalar, Scalar2, Scalar1, stC, ndC, itC, chC, nwC])
  · unfold F107 at h; split at h <;> cases h; exact Nat.le_of_ble_eq_true rfl
  · unfold F107 at h; split at h
    case h_2 => cases h
    cases h
    exact a107 _ _ (by exact hbd) trivial K hK
noncomputable def v106 (it : It) (b : Bs) : AV := .int .i64 (cmpI it.name b)
noncomputable def o106 (it : It) (b : Bs) : Prop := True
noncomputable def F106 : List AV → QR
  | [.st [.str it_0, .int .i64 it_1, .int .i64 it_2_0, .int .i64 it_2_1, .str it_2_2, .ps .str it_2_3, .ps .node it_2_4], .str b] => some (none, v106 ⟨it_0, it_1, ⟨it_2_0, it_2_1, it_2_2, it_2_3, it_2_4⟩⟩ b)
  | _ => none
noncomputable def E106 : Ctx := mkE tab [(107, .pure F107)]
noncomputable def O106 : Nat → List DI := ordL []
theorem a106 (it : It) (b : Bs) (hb : BdAs [.st (itC it), .str b]) (ho : o106 it b) (K : AV → List AV → Prop) (hK : K (v106 it b) []) : abody E106 O106 .ps Try.f106 (Try.f106.body.getD .skip) [.st (itC it), .str b] K := by
  simp only [BdAs, BdA, BdL, BdC, MX, ndC, shC, itC, stC, opC, chC, nwC, flC, rqC, rsC, enc, List.cons_append, List.nil_append, and_true, true_and] at hb
  unfold v106 at hK
  conv => whnf
  repeat' first|((first|refine Cnd.mk (fun h=>?_) (fun h=>?_)|refine Gd.mk (fun h=>?_))<;>(try simp [etas,elDef,-List.getD_eq_getElem?_getD] at h)<;>conv=>whnf)|((first|refine Obl.mk (by first|omega|rfl|exact inK_byte _|(simp only [inK,Int.toNat_natCast,etas,elDef]<;>first|omega|grind)|grind [inK]) ?_|refine OblG.mk (by ((conv=>whnf);(repeat (first|refine Bx.mk ?_|(intro h;(try simp [etas,elDef,-List.getD_eq_getElem?_getD] at h);conv=>whnf)));(first|omega|rfl|exact inK_byte _|(simp only [inK,Int.toNat_natCast,etas,elDef]<;>first|omega|grind)|grind [inK]))) ?_|refine And.intro ?_ ?_)<;>conv=>whnf)|exact True.intro|(intro;conv=>whnf)
  exact hK
theorem s106 : (CtrOK Try.prog 106 (.pure F106) ∧ Callable Try.prog 106) := by
  refine pure_ok (E := E106) (mkE_cons s107 (mkE_nil tab_ok)) mix (O := O106) (F := F106) Try.func106 rfl (by rfl) (by kernel_rfl) (fun args o v h => ?_) (fun args o v h => ?_) (fun args o v h hbd hp K hK => ?_)
  · unfold F106 at h; split at h <;> cases h; first | trivial | (simp [v106, Scalar, Scalar2, Scalar1, stC, ndC, itC, chC, nwC])
  · unfold F106 at h; split at h <;> cases h; exact Nat.le_of_ble_eq_true rfl
  · unfold F106 at h; split at h
    case h_2 => cases h
    cases h
    exact a106 ⟨_, _, ⟨_, _, _, _, _⟩⟩ _ (by exact hbd) trivial K hK
end Go.Rs
end
section
set_option linter.unusedSimpArgs false
set_option linter.unusedVariables false
namespace Go.Rs
open Go.Proofs
set_option maxRecDepth 100000
noncomputable def v105 (l : List It) (b : Bs) : AV := .tup [.int .i64 (lbI l b), .bool (foundI l b)]
noncomputable def o105 (l : List It) (b : Bs) : Prop := sortedI l
noncomputable def F105 : List AV → QR
  | [.ps .item l, .str b, .fn 106 []] => some (some (o105 l b), v105 l b)
  | _ => none
noncomputable def E105 : Ctx := mkE tab [(106, .pure F106)]
noncomputable def O105 : Nat → List DI := ordL []
theorem a105 (l : List It) (b : Bs) (hb : BdAs [.ps .item l, .str b, .fn 106 []]) (ho : o105 l b) (K : AV → List AV → Prop) (hK : K (v105 l b) []) : abody E105 O105 .ps Try.f105 (Try.f105.body.getD .skip) [.ps .item l, .str b, .fn 106 []] K := by
  simp only [BdAs, BdA, BdL, BdC, MX, ndC, shC, itC, stC, opC, chC, nwC, flC, rqC, rsC, enc, List.cons_append, List.nil_append, and_true, true_and] at hb
  unfold o105 at ho
  unfold v105 at hK
  have hle := lbI_le l b
  conv => whnf
  refine aloop_intro (Nat × Nat) (fun p => p.1 ≤ lbI l b ∧ lbI l b ≤ p.2 ∧ p.2 ≤ l.length) (fun p => p.2 - p.1) (fun p => [(9, .int .i64 p.1), (10, .int .i64 p.2)]) (fun _ => []) [] (0, l.length) [] [] ?_ ?_ (by exact sgOk_of (by rfl)) ?_
  · simp; exact hle
  · iterate 2 ((all_goals (conv=>whnf));(repeat' (first|exact trivial|rfl|(refine nilEq ?_;first|rfl|(simp only [*];done)|(simp [*];done)|grind)|apply And.intro|((first|apply intEq|apply boolEq|apply strEq|apply psEq|apply nilEq|apply arrEq);(try simp only [Int.toNat_natCast,etas,elDef]);first | done | omega | grind | (simp only [*]; done) | (simp [*]; done)))));(all_goals ((try simp only [Int.toNat_natCast,etas,elDef]);first | done | omega | grind | (simp only [*]; done) | (simp [*]; done)))
  rintro ⟨i, j⟩ ⟨h1, h2, h3⟩
  dsimp only at h1 h2 h3
  conv => whnf
  repeat' first|((first|refine Cnd.mk (fun h=>?_) (fun h=>?_)|refine Gd.mk (fun h=>?_))<;>(try simp [etas,elDef,-List.getD_eq_getElem?_getD] at h)<;>conv=>whnf)|((first|refine Obl.mk (by first|omega|rfl|exact inK_byte _|(simp only [inK,Int.toNat_natCast,etas,elDef]<;>first|omega|grind)|grind [inK]) ?_|refine OblG.mk (by ((conv=>whnf);(repeat (first|refine Bx.mk ?_|(intro h;(try simp [etas,elDef,-List.getD_eq_getElem?_getD] at h);conv=>whnf)));(first|omega|rfl|exact inK_byte _|(simp only [inK,Int.toNat_natCast,etas,elDef]<;>first|omega|grind)|grind [inK]))) ?_|refine And.intro ?_ ?_)<;>conv=>whnf)|exact True.intro|(intro;conv=>whnf)
  · have e : ((i + j : Int) / 2).toNat = (i + j) / 2 := by omega
    have h := of_decide_eq_true h
    rw [e, cmp_lt] at h
    have h4 := lbI_gt ho (by omega) h
    exact ⟨((i + j) / 2 + 1, j), [], [], ⟨by simp only; omega, by simp only; omega, by simp only; omega⟩, by simp only; omega, by iterate 2 ((all_goals (conv=>whnf));(repeat' (first|exact trivial|rfl|(refine nilEq ?_;first|rfl|(simp only [*];done)|(simp [*];done)|grind)|apply And.intro|((first|apply intEq|apply boolEq|apply strEq|apply psEq|apply nilEq|apply arrEq);(try simp only [Int.toNat_natCast,etas,elDef]);(simp only; omega)))));(all_goals ((try simp only [Int.toNat_natCast,etas,elDef]);(simp only; omega))), (by exact sgOk_of (by rfl))⟩
  · have e : ((i + j : Int) / 2).toNat = (i + j) / 2 := by omega
    have h := of_decide_eq_false h
    rw [e, cmp_lt, Bool.not_eq_true] at h
    have h4 := lbI_ge h
    exact ⟨(i, (i + j) / 2), [], [], ⟨by simp only; omega, by simp only; omega, by simp only; omega⟩, by simp only; omega, by iterate 2 ((all_goals (conv=>whnf));(repeat' (first|exact trivial|rfl|(refine nilEq ?_;first|rfl|(simp only [*];done)|(simp [*];done)|grind)|apply And.intro|((first|apply intEq|apply boolEq|apply strEq|apply psEq|apply nilEq|apply arrEq);(try simp only [Int.toNat_natCast,etas,elDef]);(simp only; omega)))));(all_goals ((try simp only [Int.toNat_natCast,etas,elDef]);(simp only; omega))), (by exact sgOk_of (by rfl))⟩
  · have e : i = lbI l b := by omega
    subst e
    refine leafV hK ?_
    simp only [foundI, Int.toNat_natCast, elDef, cmp_eq]
    simp
theorem s105 : (CtrOK Try.prog 105 (.pure F105) ∧ Callable Try.prog 105) := by
  refine pure_ok (E := E105) (mkE_cons s106 (mkE_nil tab_ok)) mix (O := O105) (F := F105) Try.func105 rfl (by rfl) (by kernel_rfl) (fun args o v h => ?_) (fun args o v h => ?_) (fun args o v h hbd hp K hK => ?_)
  · unfold F105 at h; split at h <;> cases h; first | trivial | (simp [v105, Scalar, Scalar2, Scalar1, stC, ndC, itC, chC, nwC])
  · unfold F105 at h; split at h <;> cases h; exact Nat.le_of_ble_eq_true rfl
  · unfold F105 at h; split at h
    case h_2 => cases h
    cases h
    exact a105 _ _ (by exact hbd) (hp _ rfl) K hK
noncomputable def v83 (l : List It) (b : Bs) : AV := .tup [.int .i64 (lbI l b), .bool (foundI l b)]
noncomputable def o83 (l : List It) (b : Bs) : Prop := sortedI l
noncomputable def F83 : List AV → QR
  | [.ps .item l, .str b] => some (some (o83 l b), v83 l b)
  | _ => none
noncomputable def E83 : Ctx := mkE tab [(105, .pure F105), (106, .pure F106)]
noncomputable def O83 : Nat → List DI := ordL []
theorem a83 (l : List It) (b : Bs) (hb : BdAs [.ps .item l, .str b]) (ho : o83 l b) (K : AV → List AV → Prop) (hK : K (v83 l b) []) : abody E83 O83 .ps Try.f83 (Try.f83.body.getD .skip) [.ps .item l, .str b] K := by
  simp only [BdAs, BdA, BdL, BdC, MX, ndC, shC, itC, stC, opC, chC, nwC, flC, rqC, rsC, enc, List.cons_append, List.nil_append, and_true, true_and] at hb
  unfold o83 at ho
  unfold v83 at hK
  conv => whnf
  repeat' first|((first|refine Cnd.mk (fun h=>?_) (fun h=>?_)|refine Gd.mk (fun h=>?_))<;>(try simp [etas,elDef,-List.getD_eq_getElem?_getD] at h)<;>conv=>whnf)|((first|refine Obl.mk (by first|omega|rfl|exact inK_byte _|(simp only [inK,Int.toNat_natCast,etas,elDef,o105]<;>first|omega|grind)|grind [inK,o105]) ?_|refine OblG.mk (by ((conv=>whnf);(repeat (first|refine Bx.mk ?_|(intro h;(try simp [etas,elDef,-List.getD_eq_getElem?_getD] at h);conv=>whnf)));(first|omega|rfl|exact inK_byte _|(simp only [inK,Int.toNat_natCast,etas,elDef,o105]<;>first|omega|grind)|grind [inK,o105]))) ?_|refine And.intro ?_ ?_)<;>conv=>whnf)|exact True.intro|(intro;conv=>whnf)
  exact hK
theorem s83 : (CtrOK Try.prog 83 (.pure F83) ∧ Callable Try.prog 83) := by
  refine pure_ok (E := E83) (mkE_cons s105 (mkE_cons s106 (mkE_nil tab_ok))) mix (O := O83) (F := F83) Try.func83 rfl (by rfl) (by kernel_rfl) (fun args o v h => ?_) (fun args o v h => ?_) (fun args o v h hbd hp K hK => ?_)
  · unfold F83 at h; split at h <;> cases h; first | trivial | (simp [v83, Scalar, Scalar2, Scalar1, stC, ndC, itC, chC, nwC])
  · unfold F83 at h; split at h <;> cases h; exact Nat.le_of_ble_eq_true rfl
  · unfold F83 at h; split at h
    case h_2 => cases h
    cases h
    exact a83 _ _ (by exact hbd) (hp _ rfl) K hK
noncomputable def c86 (n : Nd) (K : AV → List AV → Prop) : Prop :=
    Obl (smN n) (K (.st [.int .i64 n.kind, .int .i64 n.num, .str n.text, .own .str n.names, .own .node n.kids]) [])
noncomputable def m86 (n : Nd) : Nat := SizeOf.sizeOf n
noncomputable def C86 : List AV → (AV → List AV → Prop) → Prop
  | [.st [.int .i64 n_0, .int .i64 n_1, .str n_2, .ps .str n_3, .ps .node n_4]], K => c86 ⟨n_0, n_1, n_2, n_3, n_4⟩ K
  | _, _ => False
noncomputable def Ck86 (k : Nat) : List AV → (AV → List AV → Prop) → Prop
  | [.st [.int .i64 n_0, .int .i64 n_1, .str n_2, .ps .str n_3, .ps .node n_4]], K => Obl (m86 ⟨n_0, n_1, n_2, n_3, n_4⟩ < k) (c86 ⟨n_0, n_1, n_2, n_3, n_4⟩ K)
  | _, _ => False
noncomputable def E86 (k : Nat) : Ctx := mkE tab [(86, .gen .ow (Ck86 k))]
noncomputable def O86 : Nat → List DI := ordL [(10, [.q 0, .q 1, .q 2, .q 3, .l 4 [1], .q 5, .l 6 []])]
theorem a86 (k : Nat) (n : Nd) (hm : m86 n < k + 1) (hb : BdAs [.st (ndC n)]) (K : AV → List AV → Prop) (h : c86 n K) : abody (E86 k) O86 .ow Try.f86 (Try.f86.body.getD .skip) [.st (ndC n)] K := by
  simp only [BdAs, BdA, BdL, BdC, MX, ndC, shC, itC, stC, opC, chC, nwC, flC, rqC, rsC, enc, List.cons_append, List.nil_append, and_true, true_and] at hb
  unfold c86 at h
  unfold m86 at hm
  obtain ⟨hs, hK⟩ := h
  have hkid : ∀ j, j < n.kids.length → SizeOf.sizeOf (n.kids.getD j default) < k ∧ smN (n.kids.getD j default) := fun j hj => ⟨by have := kid_size hj; omega, hs.kid hj⟩
  have h3 := hs.kids
  have h2 := hs.names
  conv => whnf
  repeat' first|((first|refine Cnd.mk (fun h=>?_) (fun h=>?_)|refine Gd.mk (fun h=>?_))<;>(try simp [etas,elDef,-List.getD_eq_getElem?_getD] at h)<;>conv=>whnf)|((first|refine Obl.mk (by first|omega|rfl|exact inK_byte _|(simp only [inK,Int.toNat_natCast,etas,elDef,m86,m86]<;>first|omega|grind)|grind [inK,m86,m86]) ?_|refine OblG.mk (by ((conv=>whnf);(repeat (first|refine Bx.mk ?_|(intro h;(try simp [etas,elDef,-List.getD_eq_getElem?_getD] at h);conv=>whnf)));(first|omega|rfl|exact inK_byte _|(simp only [inK,Int.toNat_natCast,etas,elDef,m86,m86]<;>first|omega|grind)|grind [inK,m86,m86]))) ?_|refine And.intro ?_ ?_)<;>conv=>whnf)|exact True.intro|(intro;conv=>whnf)
  · refine aloop_intro Nat (fun k => k ≤ n.kids.length ∧ True) (fun k => n.kids.length - k) (fun k => [(39, .int .i64 k)]) (fun k => [(34, .arr .node (fillD default n.kids k))]) [1, 2, 3, 20] 0 [] [] ?_ ?_ (by exact sgOk_of (by rfl)) ?_
    · first | (simp; done) | (simp; assumption)
    · iterate 2 ((all_goals (conv=>whnf));(repeat' (first|exact trivial|rfl|(refine nilEq ?_;first|rfl|(simp only [*];done)|(simp [*];done)|grind)|apply And.intro|((first|apply intEq|apply boolEq|apply strEq|apply psEq|apply nilEq|apply arrEq);(try simp only [Int.toNat_natCast,etas,elDef]);first | done | omega | grind | (simp only [*]; done) | (simp [*]; done)))));(all_goals ((try simp only [Int.toNat_natCast,etas,elDef]);first | done | omega | grind | (simp only [*]; done) | (simp [*]; done)))
    rintro i ⟨hi, hj⟩
    conv => whnf
    have hl := fillD_len default n.kids hi
    have hset := fun h => fillD_set default n.kids (k := i) h
    repeat' first|((first|refine Cnd.mk (fun h=>?_) (fun h=>?_)|refine Gd.mk (fun h=>?_))<;>(try simp [etas,elDef,-List.getD_eq_getElem?_getD] at h)<;>conv=>whnf)|((first|refine Obl.mk (by first|omega|rfl|exact inK_byte _|(simp only [inK,Int.toNat_natCast,etas,elDef,m86,m86]<;>first|omega|grind)|grind [inK,m86,m86]) ?_|refine OblG.mk (by ((conv=>whnf);(repeat (first|refine Bx.mk ?_|(intro h;(try simp [etas,elDef,-List.getD_eq_getElem?_getD] at h);conv=>whnf)));(first|omega|rfl|exact inK_byte _|(simp only [inK,Int.toNat_natCast,etas,elDef,m86,m86]<;>first|omega|grind)|grind [inK,m86,m86]))) ?_|refine And.intro ?_ ?_)<;>conv=>whnf)|exact True.intro|(intro;conv=>whnf)
    · exact ⟨i + 1, [], [], ⟨by omega, by grind⟩, by omega, by iterate 2 ((all_goals (conv=>whnf));(repeat' (first|exact trivial|rfl|(refine nilEq ?_;first|rfl|(simp only [*];done)|(simp [*];done)|grind)|apply And.intro|((first|apply intEq|apply boolEq|apply strEq|apply psEq|apply nilEq|apply arrEq);(try simp only [Int.toNat_natCast,etas,elDef]);first | done | omega | grind | (simp only [*]; done) | (simp [*]; done)))));(all_goals ((try simp only [Int.toNat_natCast,etas,elDef]);first | done | omega | grind | (simp only [*]; done) | (simp [*]; done))), (by exact sgOk_of (by rfl))⟩
    · exact leafV hK (by simp_all [fillD_all default n.kids ‹n.kids.length ≤ i›])
  · exact leafV hK (by simp [h])
  · refine aloop_intro Nat (fun k => k ≤ n.kids.length ∧ True) (fun k => n.kids.length - k) (fun k => [(39, .int .i64 k)]) (fun k => [(34, .arr .node (fillD default n.kids k))]) [1, 2, 3] 0 [] [] ?_ ?_ (by exact sgOk_of (by rfl)) ?_
    · first | (simp; done) | (simp; assumption)
    · iterate 2 ((all_goals (conv=>whnf));(repeat' (first|exact trivial|rfl|(refine nilEq ?_;first|rfl|(simp only [*];done)|(simp [*];done)|grind)|apply And.intro|((first|apply intEq|apply boolEq|apply strEq|apply psEq|apply nilEq|apply arrEq);(try simp only [Int.toNat_natCast,etas,elDef]);first | done | omega | grind | (simp only [*]; done) | (simp [*]; done)))));(all_goals ((try simp only [Int.toNat_natCast,etas,elDef]);first | done | omega | grind | (simp only [*]; done) | (simp [*]; done)))
    rintro i ⟨hi, hj⟩
    conv => whnf
    have hl := fillD_len default n.kids hi
    have hset := fun h => fillD_set default n.kids (k := i) h
    repeat' first|((first|refine Cnd.mk (fun h=>?_) (fun h=>?_)|refine Gd.mk (fun h=>?_))<;>(try simp [etas,elDef,-List.getD_eq_getElem?_getD] at h)<;>conv=>whnf)|((first|refine Obl.mk (by first|omega|rfl|exact inK_byte _|(simp only [inK,Int.toNat_natCast,etas,elDef,m86,m86]<;>first|omega|grind)|grind [inK,m86,m86]) ?_|refine OblG.mk (by ((conv=>whnf);(repeat (first|refine Bx.mk ?_|(intro h;(try simp [etas,elDef,-List.getD_eq_getElem?_getD] at h);conv=>whnf)));(first|omega|rfl|exact inK_byte _|(simp only [inK,Int.toNat_natCast,etas,elDef,m86,m86]<;>first|omega|grind)|grind [inK,m86,m86]))) ?_|refine And.intro ?_ ?_)<;>conv=>whnf)|exact True.intro|(intro;conv=>whnf)
    · exact ⟨i + 1, [], [], ⟨by omega, by grind⟩, by omega, by iterate 2 ((all_goals (conv=>whnf));(repeat' (first|exact trivial|rfl|(refine nilEq ?_;first|rfl|(simp only [*];done)|(simp [*];done)|grind)|apply And.intro|((first|apply intEq|apply boolEq|apply strEq|apply psEq|apply nilEq|apply arrEq);(try simp only [Int.toNat_natCast,etas,elDef]);first | done | omega | grind | (simp only [*]; done) | (simp [*]; done)))));(all_goals ((try simp only [Int.toNat_natCast,etas,elDef]);first | done | omega | grind | (simp only [*]; done) | (simp [*]; done))), (by exact sgOk_of (by rfl))⟩
    · exact leafV hK (by simp_all [fillD_all default n.kids ‹n.kids.length ≤ i›])
  · exact leafV hK (by simp_all)
theorem r86 : ∀ k, (CtrOK Try.prog 86 (.gen .ow (Ck86 k)) ∧ Callable Try.prog 86) := by
  intro k
  induction k with
  | zero =>
    exact ⟨fun args K h => by
        unfold Ck86 at h; split at h
        · exact absurd h.o (Nat.not_lt_zero _)
        · exact h.elim, callable Try.func86 rfl (by rfl)⟩
  | succ k ih =>
    refine gen_ok (E := E86 k) (mkE_cons ih (mkE_nil tab_ok)) mix (O := O86) (C := (Ck86 (k + 1))) (own := .ow) Try.func86 rfl (by rfl) (by kernel_rfl) (fun args K h hbd => ?_)
    unfold Ck86 at h; split at h
    case h_2 => exact h.elim
    exact ⟨Nat.le_of_ble_eq_true rfl, a86 k ⟨_, _, _, _, _⟩ h.o (by exact hbd) _ h.k⟩
theorem s86 : (CtrOK Try.prog 86 (.gen .ow C86) ∧ Callable Try.prog 86) := by
  refine ⟨fun args K h => ?_, (r86 0).2⟩
  unfold C86 at h; split at h
  · exact (r86 (m86 ⟨_, _, _, _, _⟩ + 1)).1 _ K ⟨Nat.lt_succ_self _, h⟩
  · exact h.elim
noncomputable def c101 (x : It) (K : AV → List AV → Prop) : Prop :=
    Obl (smN x.node) (K (.st (itC x)) [])
noncomputable def C101 : List AV → (AV → List AV → Prop) → Prop
  | [.st [.str x_0, .int .i64 x_1, .int .i64 x_2_0, .int .i64 x_2_1, .str x_2_2, .ps .str x_2_3, .ps .node x_2_4]], K => c101 ⟨x_0, x_1, ⟨x_2_0, x_2_1, x_2_2, x_2_3, x_2_4⟩⟩ K
  | _, _ => False
noncomputable def E101 : Ctx := mkE tab [(86, .gen .ow C86)]
noncomputable def O101 : Nat → List DI := ordL [(1, [.q 0, .q 1, .q 2, .q 3, .q 4, .q 5, .l 6 [1, 3], .q 7, .l 8 []])]
theorem a101 (x : It) (hb : BdAs [.st (itC x)]) (K : AV → List AV → Prop) (h : c101 x K) : abody E101 O101 .ps Try.f101 (Try.f101.body.getD .skip) [.st (itC x)] K := by
  simp only [BdAs, BdA, BdL, BdC, MX, ndC, shC, itC, stC, opC, chC, nwC, flC, rqC, rsC, enc, List.cons_append, List.nil_append, and_true, true_and] at hb
  unfold c101 at h
  obtain ⟨hs, hK⟩ := h
  conv => whnf
  repeat' first|((first|refine Cnd.mk (fun h=>?_) (fun h=>?_)|refine Gd.mk (fun h=>?_))<;>(try simp [etas,elDef,-List.getD_eq_getElem?_getD] at h)<;>conv=>whnf)|((first|refine Obl.mk (by first|omega|rfl|exact inK_byte _|(simp only [inK,Int.toNat_natCast,etas,elDef,m86]<;>first|omega|grind)|grind [inK,m86]) ?_|refine OblG.mk (by ((conv=>whnf);(repeat (first|refine Bx.mk ?_|(intro h;(try simp [etas,elDef,-List.getD_eq_getElem?_getD] at h);conv=>whnf)));(first|omega|rfl|exact inK_byte _|(simp only [inK,Int.toNat_natCast,etas,elDef,m86]<;>first|omega|grind)|grind [inK,m86]))) ?_|refine And.intro ?_ ?_)<;>conv=>whnf)|exact True.intro|(intro;conv=>whnf)
  all_goals exact leafV hK rfl
theorem s101 : (CtrOK Try.prog 101 (.gen .ps C101) ∧ Callable Try.prog 101) := by
  refine gen_ok (E := E101) (mkE_cons s86 (mkE_nil tab_ok)) mix (O := O101) (C := C101) (own := .ps) Try.func101 rfl (by rfl) (by kernel_rfl) (fun args K h hbd => ?_)
  unfold C101 at h; split at h
  case h_2 => exact h.elim
  exact ⟨Nat.le_of_ble_eq_true rfl, a101 ⟨_, _, ⟨_, _, _, _, _⟩⟩ (by exact hbd) _ h⟩
noncomputable def c75 (s : Sto) (K : AV → List AV → Prop) : Prop :=
    Obl (smS s) (K (.st [.own .item s.items, .int .i64 s.clock]) [])
noncomputable def C75 : List AV → (AV → List AV → Prop) → Prop
  | [.st [.ps .item s_0, .int .i64 s_1]], K => c75 ⟨s_0, s_1⟩ K
  | _, _ => False
noncomputable def E75 : Ctx := mkE tab [(101, .gen .ps C101)]
noncomputable def O75 : Nat → List DI := ordL [(7, [.q 0, .q 1, .q 2, .q 3, .l 4 [1], .q 5, .l 6 []])]
theorem a75 (s : Sto) (hb : BdAs [.st (stC s)]) (K : AV → List AV → Prop) (h : c75 s K) : abody E75 O75 .ow Try.f75 (Try.f75.body.getD .skip) [.st (stC s)] K := by
  simp only [BdAs, BdA, BdL, BdC, MX, ndC, shC, itC, stC, opC, chC, nwC, flC, rqC, rsC, enc, List.cons_append, List.nil_append, and_true, true_and] at hb
  unfold c75 at h
  obtain ⟨hs, hK⟩ := h
  have hit : ∀ j, j < s.items.length → smN (s.items.getD j default).node := fun j hj => hs.item hj
  have h3 := hs.1
  conv => whnf
  repeat' first|((first|refine Cnd.mk (fun h=>?_) (fun h=>?_)|refine Gd.mk (fun h=>?_))<;>(try simp [etas,elDef,-List.getD_eq_getElem?_getD] at h)<;>conv=>whnf)|((first|refine Obl.mk (by first|omega|rfl|exact inK_byte _|(simp only [inK,Int.toNat_natCast,etas,elDef]<;>first|omega|grind)|grind [inK]) ?_|refine OblG.mk (by ((conv=>whnf);(repeat (first|refine Bx.mk ?_|(intro h;(try simp [etas,elDef,-List.getD_eq_getElem?_getD] at h);conv=>whnf)));(first|omega|rfl|exact inK_byte _|(simp only [inK,Int.toNat_natCast,etas,elDef]<;>first|omega|grind)|grind [inK]))) ?_|refine And.intro ?_ ?_)<;>conv=>whnf)|exact True.intro|(intro;conv=>whnf)
  · refine aloop_intro Nat (fun k => k ≤ s.items.length ∧ True) (fun k => s.items.length - k) (fun k => [(21, .int .i64 k)]) (fun k => [(16, .arr .item (fillD default s.items k))]) [1, 2, 3] 0 [] [] ?_ ?_ (by exact sgOk_of (by rfl)) ?_
    · first | (simp; done) | (simp; assumption)
    · iterate 2 ((all_goals (conv=>whnf));(repeat' (first|exact trivial|rfl|(refine nilEq ?_;first|rfl|(simp only [*];done)|(simp [*];done)|grind)|apply And.intro|((first|apply intEq|apply boolEq|apply strEq|apply psEq|apply nilEq|apply arrEq);(try simp only [Int.toNat_natCast,etas,elDef]);first | done | omega | grind | (simp only [*]; done) | (simp [*]; done)))));(all_goals ((try simp only [Int.toNat_natCast,etas,elDef]);first | done | omega | grind | (simp only [*]; done) | (simp [*]; done)))
    rintro i ⟨hi, hj⟩
    conv => whnf
    have hl := fillD_len default s.items hi
    have hset := fun h => fillD_set default s.items (k := i) h
    repeat' first|((first|refine Cnd.mk (fun h=>?_) (fun h=>?_)|refine Gd.mk (fun h=>?_))<;>(try simp [etas,elDef,-List.getD_eq_getElem?_getD] at h)<;>conv=>whnf)|((first|refine Obl.mk (by first|omega|rfl|exact inK_byte _|(simp only [inK,Int.toNat_natCast,etas,elDef]<;>first|omega|grind)|grind [inK]) ?_|refine OblG.mk (by ((conv=>whnf);(repeat (first|refine Bx.mk ?_|(intro h;(try simp [etas,elDef,-List.getD_eq_getElem?_getD] at h);conv=>whnf)));(first|omega|rfl|exact inK_byte _|(simp only [inK,Int.toNat_natCast,etas,elDef]<;>first|omega|grind)|grind [inK]))) ?_|refine And.intro ?_ ?_)<;>conv=>whnf)|exact True.intro|(intro;conv=>whnf)
    · exact ⟨i + 1, [], [], ⟨by omega, by grind⟩, by omega, by iterate 2 ((all_goals (conv=>whnf));(repeat' (first|exact trivial|rfl|(refine nilEq ?_;first|rfl|(simp only [*];done)|(simp [*];done)|grind)|apply And.intro|((first|apply intEq|apply boolEq|apply strEq|apply psEq|apply nilEq|apply arrEq);(try simp only [Int.toNat_natCast,etas,elDef]);first | done | omega | grind | (simp only [*]; done) | (simp [*]; done)))));(all_goals ((try simp only [Int.toNat_natCast,etas,elDef]);first | done | omega | grind | (simp only [*]; done) | (simp [*]; done))), (by exact sgOk_of (by rfl))⟩
    · exact leafV hK (by simp_all [fillD_all default s.items ‹s.items.length ≤ i›])
  · exact leafV hK (by simp_all)
theorem s75 : (CtrOK Try.prog 75 (.gen .ow C75) ∧ Callable Try.prog 75) := by
  refine gen_ok (E := E75) (mkE_cons s101 (mkE_nil tab_ok)) mix (O := O75) (C := C75) (own := .ow) Try.func75 rfl (by rfl) (by kernel_rfl) (fun args K h hbd => ?_)
  unfold C75 at h; split at h
  case h_2 => exact h.elim
  exact ⟨Nat.le_of_ble_eq_true rfl, a75 ⟨_, _⟩ (by exact hbd) _ h⟩
end Go.Rs
end
