import Derived.Test.YtoailaifflbomaaEX
import Derived.Test.YtoailaifflbomaaCT
import Derived.Test.YtoailaifflbomaaCK
import Derived.Test.YtoailaifflbomaaCR
import Derived.Test.YtoailaifflbomaaCD
import Derived.Test.YtoailaifflbomaaMI
set_option linter.all false
set_option linter.unusedSimpArgs false
set_option linter.unusedVariables false
namespace Go.Rs
open Go.Proofs Go.RowKit
set_option maxRecDepth 100000
set_option maxHeartbeats 4000000
noncomputable def c92 (o : Nd) (a : Nd) (b : Nd) (nm : Bs) (K : AV → List AV → Prop) : Prop :=
    Obl ((okN o ∧ okN a ∧ okN b) ∧ o.kind = 4 ∧ a.kind = 4 ∧ b.kind = 4) ((gM o a b nm = none → ∀ (n1 n2 : Int) (n3 : Bs) (n4 : List Bs) (n5 : List Nd) (t : Bool), K (.tup [.st [.int .i64 n1, .int .i64 n2, .str n3, .ps .str n4, .ps .node n5], .bool t, .bool false]) []) ∧ (gM o a b nm = some none → ∀ (n1 n2 : Int) (n3 : Bs) (n4 : List Bs) (n5 : List Nd), K (.tup [.st [.int .i64 n1, .int .i64 n2, .str n3, .ps .str n4, .ps .node n5], .bool false, .bool true]) []) ∧ (∀ (n1 n2 : Int) (n3 : Bs) (n4 : List Bs) (n5 : List Nd), gM o a b nm = some (some ⟨n1, n2, n3, n4, n5⟩) → K (.tup [.st [.int .i64 n1, .int .i64 n2, .str n3, .ps .str n4, .ps .node n5], .bool true, .bool true]) []))
noncomputable def m92 (o : Nd) (a : Nd) (b : Nd) (nm : Bs) : Nat := 2 * SizeOf.sizeOf a
noncomputable def Ck92 (k : Nat) : List AV → (AV → List AV → Prop) → Prop
  | [.st [.int .i64 o_0, .int .i64 o_1, .str o_2, .ps .str o_3, .ps .node o_4], .st [.int .i64 a_0, .int .i64 a_1, .str a_2, .ps .str a_3, .ps .node a_4], .st [.int .i64 b_0, .int .i64 b_1, .str b_2, .ps .str b_3, .ps .node b_4], .str nm], K => Obl (m92 ⟨o_0, o_1, o_2, o_3, o_4⟩ ⟨a_0, a_1, a_2, a_3, a_4⟩ ⟨b_0, b_1, b_2, b_3, b_4⟩ nm < k) (c92 ⟨o_0, o_1, o_2, o_3, o_4⟩ ⟨a_0, a_1, a_2, a_3, a_4⟩ ⟨b_0, b_1, b_2, b_3, b_4⟩ nm K)
  | _, _ => False
noncomputable def c65 (o : Nd) (a : Nd) (b : Nd) (K : AV → List AV → Prop) : Prop :=
    Obl (okN o ∧ okN a ∧ okN b) (K (optN (threeM o a b)) [])
noncomputable def m65 (o : Nd) (a : Nd) (b : Nd) : Nat := 2 * SizeOf.sizeOf a + 1
noncomputable def C65 : List AV → (AV → List AV → Prop) → Prop
  | [.st [.int .i64 o_0, .int .i64 o_1, .str o_2, .ps .str o_3, .ps .node o_4], .st [.int .i64 a_0, .int .i64 a_1, .str a_2, .ps .str a_3, .ps .node a_4], .st [.int .i64 b_0, .int .i64 b_1, .str b_2, .ps .str b_3, .ps .node b_4]], K => c65 ⟨o_0, o_1, o_2, o_3, o_4⟩ ⟨a_0, a_1, a_2, a_3, a_4⟩ ⟨b_0, b_1, b_2, b_3, b_4⟩ K
  | _, _ => False
noncomputable def Ck65 (k : Nat) : List AV → (AV → List AV → Prop) → Prop
  | [.st [.int .i64 o_0, .int .i64 o_1, .str o_2, .ps .str o_3, .ps .node o_4], .st [.int .i64 a_0, .int .i64 a_1, .str a_2, .ps .str a_3, .ps .node a_4], .st [.int .i64 b_0, .int .i64 b_1, .str b_2, .ps .str b_3, .ps .node b_4]], K => Obl (m65 ⟨o_0, o_1, o_2, o_3, o_4⟩ ⟨a_0, a_1, a_2, a_3, a_4⟩ ⟨b_0, b_1, b_2, b_3, b_4⟩ < k) (c65 ⟨o_0, o_1, o_2, o_3, o_4⟩ ⟨a_0, a_1, a_2, a_3, a_4⟩ ⟨b_0, b_1, b_2, b_3, b_4⟩ K)
  | _, _ => False
noncomputable def E92 (k : Nat) : Ctx := mkE tab [(65, .gen .ps (Ck65 k)), (89, .pure F89), (113, .pure F113)]
noncomputable def O92 : Nat → List DI := ordL [(5, [.q 0, .q 1, .q 2, .q 3, .q 4, .q 5, .q 6, .q 7, .q 8, .q 9, .q 10, .q 11, .q 12, .q 13, .q 14, .l 15 [], .q 16, .q 17, .q 18, .a 19, .l 20 [], .q 21]), (8, [.q 0, .q 1, .q 2, .q 3, .q 4, .q 5, .q 6, .q 7, .q 8, .q 9, .q 10, .q 11, .q 12, .q 13, .q 14, .q 15, .l 16 [], .q 17, .q 18]), (10, [.q 0, .q 1, .q 2, .q 3, .q 4, .q 5, .q 6, .q 7, .q 8, .q 9, .q 10, .q 11, .q 12, .q 13, .q 14, .q 15, .q 16, .q 17, .q 18, .q 19, .q 20, .q 21, .l 22 [], .q 23, .q 24]), (12, [.q 0, .q 1, .q 2, .q 3, .q 4, .q 5, .q 6, .q 7, .q 8, .q 9, .q 10, .q 11, .q 12, .q 13, .q 14, .q 15, .q 16, .q 17, .q 18, .q 19, .q 20, .q 21, .l 22 [], .q 23, .q 24])]
theorem a92 (k : Nat) (o : Nd) (a : Nd) (b : Nd) (nm : Bs) (hm : m92 o a b nm < k + 1) (hb : BdAs [.st (ndC o), .st (ndC a), .st (ndC b), .str nm]) (K : AV → List AV → Prop) (h : c92 o a b nm K) : abody (E92 k) O92 .ps Try.f92 (Try.f92.body.getD .skip) [.st (ndC o), .st (ndC a), .st (ndC b), .str nm] K := by
  simp only [BdAs, BdA, BdL, BdC, MX, ndC, shC, itC, stC, opC, chC, nwC, flC, rqC, rsC, enc, List.cons_append, List.nil_append, and_true, true_and] at hb
  unfold c92 at h
  unfold m92 at hm
  obtain ⟨⟨⟨ho, ha, hb⟩, hk0, hk1, hk2⟩, hK1, hK2, hK3⟩ := h
  obtain ⟨po1, po2⟩ := place_base ho hk0 nm
  obtain ⟨pa1, pa2⟩ := place_base ha hk1 nm
  obtain ⟨pb1, pb2⟩ := place_base hb hk2 nm
  have lo := okN_kids ho
  have la := okN_kids ha
  have lb := okN_kids hb
  have eo : o.kind = 4 → o.names.length = o.kids.length := okN_even ho
  have so := ho.sm
  have ea : a.kind = 4 → a.names.length = a.kids.length := okN_even ha
  have sa := ha.sm
  have eb : b.kind = 4 → b.names.length = b.kids.length := okN_even hb
  have sb := hb.sm
  have ro := (placeM_ge o nm).2.1
  have ra := (placeM_ge a nm).2.1
  have rb := (placeM_ge b nm).2.1
  have ko := fun h => okN_kid ho (j := (placeM o nm).toNat) h
  have ka := fun h => okN_kid ha (j := (placeM a nm).toNat) h
  have kb := fun h => okN_kid hb (j := (placeM b nm).toNat) h
  have sz := fun h => kid_size (n := a) (j := (placeM a nm).toNat) h
  conv => whnf
  repeat' first|((first|refine Cnd.mk (fun h=>?_) (fun h=>?_)|refine Gd.mk (fun h=>?_))<;>(try simp [etas,elDef,-List.getD_eq_getElem?_getD] at h)<;>conv=>whnf)|((first|refine Obl.mk (by first|omega|rfl|exact inK_byte _|(simp only [inK,Int.toNat_natCast,etas,elDef,m92,m65,m65,o89,o113]<;>first|omega|grind)|grind [inK,m92,m65,m65,o89,o113]) ?_|refine OblG.mk (by ((conv=>whnf);(repeat (first|refine Bx.mk ?_|(intro h;(try simp [etas,elDef,-List.getD_eq_getElem?_getD] at h);conv=>whnf)));(first|omega|rfl|exact inK_byte _|(simp only [inK,Int.toNat_natCast,etas,elDef,m92,m65,m65,o89,o113]<;>first|omega|grind)|grind [inK,m92,m65,m65,o89,o113]))) ?_|refine And.intro ?_ ?_)<;>conv=>whnf)|exact True.intro|(intro;conv=>whnf)
  · have e1 := pa2 h.1.1
    have e2 := pb2 h.1.2
    have e3 := po2 h.2
    have eg : gM o a b nm = (threeM (o.kids.getD (placeM o nm).toNat default) (a.kids.getD (placeM a nm).toNat default) (b.kids.getD (placeM b nm).toNat default)).map some := by unfold gM; rw [e1, e2, e3]
    simp only [nd_eta, elDef]
    generalize threeM (o.kids.getD (placeM o nm).toNat default) (a.kids.getD (placeM a nm).toNat default) (b.kids.getD (placeM b nm).toNat default) = r at *
    cases r with
    | none => exact hK1 eg _ _ _ _ _ _
    | some x => exact hK3 x.kind x.num x.text x.names x.kids (by rw [eg, nd_eta]; rfl)
  · rename_i h1
    have e1 := pa2 h.1
    have e2 := pb2 h.2
    have e3 := po1.1 (h1 h.1 h.2)
    have ks := same_eqD (ka (by omega)) (kb (by omega))
    have eg : gM o a b nm = if eqD (a.kids.getD (placeM a nm).toNat default) (b.kids.getD (placeM b nm).toNat default) then some (some (a.kids.getD (placeM a nm).toNat default)) else none := by unfold gM; rw [e1, e2, e3]
    simp only [nd_eta, elDef]
    rw [ks]
    cases hq : eqD (a.kids.getD (placeM a nm).toNat default) (b.kids.getD (placeM b nm).toNat default) with
    | true => rw [hq] at eg; exact hK3 _ _ _ _ _ (by rw [eg, nd_eta]; rfl)
    | false => rw [hq] at eg; exact hK1 eg _ _ _ _ _ _
  · rename_i h1 h2
    have e1 := pa2 h
    have e2 := pb1.1 (h2 h)
    simp only [nd_eta, elDef]
    rcases Int.lt_or_le (placeM o nm) 0 with h3 | h3
    · have e3 := po1.1 h3
      have eg : gM o a b nm = some (some (a.kids.getD (placeM a nm).toNat default)) := by unfold gM; rw [e1, e2, e3]
      simp only [h3, decide_true, Bool.true_or]
      exact hK3 _ _ _ _ _ (by rw [eg, nd_eta])
    · have e3 := po2 h3
      have ks := same_eqD (ka (by omega)) (ko (by omega))
      have eg : gM o a b nm = if eqD (a.kids.getD (placeM a nm).toNat default) (o.kids.getD (placeM o nm).toNat default) then some none else none := by unfold gM; rw [e1, e2, e3]
      simp only [show ¬ placeM o nm < 0 by omega, decide_false, Bool.false_or]
      rw [ks]
      cases hq : eqD (a.kids.getD (placeM a nm).toNat default) (o.kids.getD (placeM o nm).toNat default) with
      | true => rw [hq] at eg; exact hK2 eg _ _ _ _ _
      | false => rw [hq] at eg; exact hK1 eg _ _ _ _ _ _
  · rename_i h1 h2 h4
    have e1 := pa1.1 h4
    have e2 := pb2 h
    simp only [nd_eta, elDef]
    rcases Int.lt_or_le (placeM o nm) 0 with h3 | h3
    · have e3 := po1.1 h3
      have eg : gM o a b nm = some (some (b.kids.getD (placeM b nm).toNat default)) := by unfold gM; rw [e1, e2, e3]
      simp only [h3, decide_true, Bool.true_or]
      exact hK3 _ _ _ _ _ (by rw [eg, nd_eta])
    · have e3 := po2 h3
      have ks := same_eqD (kb (by omega)) (ko (by omega))
      have eg : gM o a b nm = if eqD (b.kids.getD (placeM b nm).toNat default) (o.kids.getD (placeM o nm).toNat default) then some none else none := by unfold gM; rw [e1, e2, e3]
      simp only [show ¬ placeM o nm < 0 by omega, decide_false, Bool.false_or]
      rw [ks]
      cases hq : eqD (b.kids.getD (placeM b nm).toNat default) (o.kids.getD (placeM o nm).toNat default) with
      | true => rw [hq] at eg; exact hK2 eg _ _ _ _ _
      | false => rw [hq] at eg; exact hK1 eg _ _ _ _ _ _
  · rename_i h1 h2 h4
    have e1 := pa1.1 h4
    have e2 := pb1.1 h
    exact hK2 (by unfold gM; rw [e1, e2]) _ _ _ _ _
noncomputable def E65 (k : Nat) : Ctx := mkE tab [(89, .pure F89), (90, .gen .ps C90), (91, .gen .ps C91g), (92, .gen .ps (Ck92 k)), (93, .gen .ps C93k)]
noncomputable def O65 : Nat → List DI := ordL [(8, [.q 0, .q 1, .q 2, .q 3, .q 5, .q 6, .l 4 [6], .l 7 [], .q 8]), (12, [.q 0, .q 1, .q 2, .q 3, .q 4, .q 5, .q 6, .l 7 [], .q 8, .q 9, .q 10, .q 11, .a 12, .l 13 [], .q 14, .q 15]), (16, [.q 0, .q 1, .q 2, .q 3, .q 4, .q 5, .l 6 [], .q 7, .q 8, .q 9, .l 10 []])]
theorem a65 (k : Nat) (o : Nd) (a : Nd) (b : Nd) (hm : m65 o a b < k + 1) (hb : BdAs [.st (ndC o), .st (ndC a), .st (ndC b)]) (K : AV → List AV → Prop) (h : c65 o a b K) : abody (E65 k) O65 .ps Try.f65 (Try.f65.body.getD .skip) [.st (ndC o), .st (ndC a), .st (ndC b)] K := by
  simp only [BdAs, BdA, BdL, BdC, MX, ndC, shC, itC, stC, opC, chC, nwC, flC, rqC, rsC, enc, List.cons_append, List.nil_append, and_true, true_and] at hb
  unfold c65 at h
  unfold m65 at hm
  obtain ⟨⟨ho, ha, hb⟩, hK⟩ := h
  have so := ho.sm
  have sa := ha.sm
  have sb := hb.sm
  have l1 := (okN_names ho).1
  have l2 := (okN_names ha).1
  have l3 := (okN_names hb).1
  have l4 := unionM_len o.names a.names
  have l5 := unionM_len (unionM o.names a.names) b.names
  have q1 := same_iff ha hb
  have q2 := same_iff ho hb
  have q3 := same_iff ho ha
  have ht := threeM_eq o a b
  conv => whnf
  repeat' first|((first|refine Cnd.mk (fun h=>?_) (fun h=>?_)|refine Gd.mk (fun h=>?_))<;>(try simp [etas,elDef,-List.getD_eq_getElem?_getD] at h)<;>conv=>whnf)|((first|refine Obl.mk (by first|omega|rfl|exact inK_byte _|(simp only [inK,Int.toNat_natCast,etas,elDef,m92,m65,o89,m90,m92]<;>first|omega|grind)|grind [inK,m92,m65,o89,m90,m92]) ?_|refine OblG.mk (by ((conv=>whnf);(repeat (first|refine Bx.mk ?_|(intro h;(try simp [etas,elDef,-List.getD_eq_getElem?_getD] at h);conv=>whnf)));(first|omega|rfl|exact inK_byte _|(simp only [inK,Int.toNat_natCast,etas,elDef,m92,m65,o89,m90,m92]<;>first|omega|grind)|grind [inK,m92,m65,o89,m90,m92]))) ?_|refine And.intro ?_ ?_)<;>conv=>whnf)|exact True.intro|(intro;conv=>whnf)
  · refine leafV hK ?_
    rw [ht, if_pos (by simp only [Bool.or_eq_true, eqD_iff]; exact h.imp q1.1 fun h => (q2.1 h).symm)]
    simp only [optN, Option.getD_some, Option.isSome_some, nd_eta]; rfl
  · rename_i h1
    refine leafV hK ?_
    rw [ht, if_neg (by simp only [Bool.or_eq_true, eqD_iff]; rintro (e | e); exact h1.1 (q1.2 e); exact h1.2 (q2.2 e.symm)), if_pos (eqD_iff.2 (q3.1 h).symm)]
    simp only [optN, Option.getD_some, Option.isSome_some, nd_eta]; rfl
  · rename_i h1 h2
    refine leafV hK ?_
    rw [ht, if_neg (by simp only [Bool.or_eq_true, eqD_iff]; rintro (e | e); exact h1.1 (q1.2 e); exact h1.2 (q2.2 e.symm)), if_neg (fun e => h2 (q3.2 (eqD_iff.1 e).symm)), if_pos (by omega)]
    rfl
  · rename_i h1 h2
    rw [if_neg (by simp only [Bool.or_eq_true, eqD_iff]; rintro (e | e); exact h1.1 (q1.2 e); exact h1.2 (q2.2 e.symm)), if_neg (fun e => h2 (q3.2 (eqD_iff.1 e).symm)), if_neg (by omega)] at ht
    have k0 := h.1.1
    have k1 := h.1.2
    have k2 := h.2
    have hu := union3 ho ha hb k0 k1 k2
    have hg := fun nm x h => gM_sm (nm := nm) (x := x) ho ha hb h
    refine aloop_intro (Nat × List It) (fun q => q.1 ≤ (unionM (unionM o.names a.names) b.names).length ∧ accT o a b (unionM (unionM o.names a.names) b.names) q.1 = some q.2) (fun q => (unionM (unionM o.names a.names) b.names).length - q.1) (fun q => [(10, .int .i64 q.1)]) (fun q => [(8, .box (ndC (ndOf q.2)))]) [3, 4, 5, 6] (0, []) [] [46, 47] ⟨Nat.zero_le _, accT_zero _ _ _ _⟩ ?_ (by exact sgOk_of (by rfl)) ?_
    · iterate 2 ((all_goals (conv=>whnf));(repeat' (first|exact trivial|rfl|(refine nilEq ?_;first|rfl|(simp only [*];done)|(simp [*];done)|grind)|apply And.intro|((first|apply intEq|apply boolEq|apply strEq|apply psEq|apply nilEq|apply arrEq);(try simp only [Int.toNat_natCast,etas,elDef]);first | done | omega | grind | (simp only [*]; done) | (simp [*]; done)))));(all_goals ((try simp only [Int.toNat_natCast,etas,elDef]);first | done | omega | grind | (simp only [*]; done) | (simp [*]; done)))
    rintro ⟨i, l⟩ ⟨hi, hl⟩
    dsimp only at hi hl
    have hgd := accT_good hg hi hl
    have hS := fun h => accT_succ (base := o) (a := a) (b := b) (l := (unionM (unionM o.names a.names) b.names)) (i := i) h
    have hN := fun j h => accT_none (base := o) (a := a) (b := b) (l := (unionM (unionM o.names a.names) b.names)) (i := j) h
    have hM := accT_all o a b (unionM (unionM o.names a.names) b.names)
    have hsm := sm_ndOf (l := l) (by have := hgd.2.2.1; omega) hgd.2.2.2
    have hev : evenN (ndOf l) := fun _ => by simp [ndOf]
    have hln := ndOf_len l
    have hadd := fun nm x => add_ndOf hgd.1 hgd.2.1 nm x
    conv => whnf
    repeat' first|((first|refine Cnd.mk (fun h=>?_) (fun h=>?_)|refine Gd.mk (fun h=>?_))<;>(try simp [etas,elDef,-List.getD_eq_getElem?_getD] at h)<;>conv=>whnf)|((first|refine Obl.mk (by first|omega|rfl|exact inK_byte _|(simp only [inK,Int.toNat_natCast,etas,elDef,m92,m65,o89,m90,m92]<;>first|omega|grind)|grind [inK,m92,m65,o89,m90,m92]) ?_|refine OblG.mk (by ((conv=>whnf);(repeat (first|refine Bx.mk ?_|(intro h;(try simp [etas,elDef,-List.getD_eq_getElem?_getD] at h);conv=>whnf)));(first|omega|rfl|exact inK_byte _|(simp only [inK,Int.toNat_natCast,etas,elDef,m92,m65,o89,m90,m92]<;>first|omega|grind)|grind [inK,m92,m65,o89,m90,m92]))) ?_|refine And.intro ?_ ?_)<;>conv=>whnf)|exact True.intro|(intro;conv=>whnf)
    · rename_i hiu hgn n1 n2 n3 n4 n5 t
      simp only [nd_eta, Int.toNat_natCast, elDef] at hgn
      have e1 : accT o a b (unionM (unionM o.names a.names) b.names) (i + 1) = none := by rw [hS hiu, hl]; unfold stepT; simp only [hgn]
      exact leafV hK (by rw [ht, ← hu, ← hM, hN _ e1]; rfl)
    · rename_i hiu hgn n1 n2 n3 n4 n5 _
      simp only [nd_eta, Int.toNat_natCast, elDef] at hgn
      have e1 : accT o a b (unionM (unionM o.names a.names) b.names) (i + 1) = some l := by rw [hS hiu, hl]; unfold stepT; simp only [hgn]
      exact ⟨(i + 1, l), [], [], ⟨by simp only; omega, e1⟩, by simp only; omega, by iterate 2 ((all_goals (conv=>whnf));(repeat' (first|exact trivial|rfl|(refine nilEq ?_;first|rfl|(simp only [*];done)|(simp [*];done)|grind)|apply And.intro|((first|apply intEq|apply boolEq|apply strEq|apply psEq|apply nilEq|apply arrEq);(try simp only [Int.toNat_natCast,etas,elDef]);first | done | omega | grind | (simp only [*]; done) | (simp [*]; done)))));(all_goals ((try simp only [Int.toNat_natCast,etas,elDef]);first | done | omega | grind | (simp only [*]; done) | (simp [*]; done))), (by exact sgOk_of (by rfl))⟩
    · rename_i hiu n1 n2 n3 n4 n5 hgn _
      simp only [nd_eta, Int.toNat_natCast, elDef] at hgn
      have e1 : accT o a b (unionM (unionM o.names a.names) b.names) (i + 1) = some (putL l ⟨(unionM (unionM o.names a.names) b.names).getD i [], 0, ⟨n1, n2, n3, n4, n5⟩⟩) := by rw [hS hiu, hl]; unfold stepT; simp only [hgn]
      have hx := hg _ _ hgn
      refine Obl.mk ?_ ?_
      · simp only [nd_eta]
        exact ⟨⟨hsm, hx⟩, by have := hgd.2.2.1; omega, by have := hgd.2.2.1; omega, hev⟩
      conv => whnf
      repeat' first|((first|refine Cnd.mk (fun h=>?_) (fun h=>?_)|refine Gd.mk (fun h=>?_))<;>(try simp [etas,elDef,-List.getD_eq_getElem?_getD] at h)<;>conv=>whnf)|((first|refine Obl.mk (by first|omega|rfl|exact inK_byte _|(simp only [inK,Int.toNat_natCast,etas,elDef,m92,m65,o89,m90,m92]<;>first|omega|grind)|grind [inK,m92,m65,o89,m90,m92]) ?_|refine OblG.mk (by ((conv=>whnf);(repeat (first|refine Bx.mk ?_|(intro h;(try simp [etas,elDef,-List.getD_eq_getElem?_getD] at h);conv=>whnf)));(first|omega|rfl|exact inK_byte _|(simp only [inK,Int.toNat_natCast,etas,elDef,m92,m65,o89,m90,m92]<;>first|omega|grind)|grind [inK,m92,m65,o89,m90,m92]))) ?_|refine And.intro ?_ ?_)<;>conv=>whnf)|exact True.intro|(intro;conv=>whnf)
      exact ⟨(i + 1, putL l ⟨(unionM (unionM o.names a.names) b.names).getD i [], 0, ⟨n1, n2, n3, n4, n5⟩⟩), [], [], ⟨by simp only; omega, e1⟩, by simp only; omega, by iterate 2 ((all_goals (conv=>whnf));(repeat' (first|exact trivial|rfl|(refine nilEq ?_;first|rfl|(simp only [*];done)|(simp [*];done)|grind)|apply And.intro|((first|apply intEq|apply boolEq|apply strEq|apply psEq|apply nilEq|apply arrEq);(try simp only [Int.toNat_natCast,etas,elDef]);first | done | omega | (simp only [nd_eta, hadd, Option.getD_some, Int.toNat_natCast, elDef]; done) | (simp only [nd_eta, hadd, Option.getD_some, Int.toNat_natCast, elDef]; rfl)))));(all_goals ((try simp only [Int.toNat_natCast,etas,elDef]);first | done | omega | (simp only [nd_eta, hadd, Option.getD_some, Int.toNat_natCast, elDef]; done) | (simp only [nd_eta, hadd, Option.getD_some, Int.toNat_natCast, elDef]; rfl))), (by exact sgOk_of (by rfl))⟩
    · have ei : i = (unionM (unionM o.names a.names) b.names).length := by omega
      rw [ei, hM, hu] at hl
      exact leafV hK (by rw [ht, hl]; rfl)
theorem r92_65 : ∀ k, (CtrOK Try.prog 92 (.gen .ps (Ck92 k)) ∧ Callable Try.prog 92) ∧ (CtrOK Try.prog 65 (.gen .ps (Ck65 k)) ∧ Callable Try.prog 65) := by
  intro k
  induction k with
  | zero =>
    exact ⟨⟨fun args K h => by
        unfold Ck92 at h; split at h
        · exact absurd h.o (Nat.not_lt_zero _)
        · exact h.elim, callable Try.func92 rfl (by rfl)⟩, ⟨fun args K h => by
        unfold Ck65 at h; split at h
        · exact absurd h.o (Nat.not_lt_zero _)
        · exact h.elim, callable Try.func65 rfl (by rfl)⟩⟩
  | succ k ih =>
    refine ⟨?_, ?_⟩
    · refine gen_ok (E := E92 k) (mkE_cons ih.2 (mkE_cons s89 (mkE_cons s113 (mkE_nil tab_ok)))) mix (O := O92) (C := (Ck92 (k + 1))) (own := .ps) Try.func92 rfl (by rfl) (by kernel_rfl) (fun args K h hbd => ?_)
      unfold Ck92 at h; split at h
      case h_2 => exact h.elim
      exact ⟨Nat.le_of_ble_eq_true rfl, a92 k ⟨_, _, _, _, _⟩ ⟨_, _, _, _, _⟩ ⟨_, _, _, _, _⟩ _ h.o (by exact hbd) _ h.k⟩
    · refine gen_ok (E := E65 k) (mkE_cons s89 (mkE_cons s90 (mkE_cons s91g (mkE_cons ih.1 (mkE_cons s93k (mkE_nil tab_ok)))))) mix (O := O65) (C := (Ck65 (k + 1))) (own := .ps) Try.func65 rfl (by rfl) (by kernel_rfl) (fun args K h hbd => ?_)
      unfold Ck65 at h; split at h
      case h_2 => exact h.elim
      exact ⟨Nat.le_of_ble_eq_true rfl, a65 k ⟨_, _, _, _, _⟩ ⟨_, _, _, _, _⟩ ⟨_, _, _, _, _⟩ h.o (by exact hbd) _ h.k⟩
theorem s65 : (CtrOK Try.prog 65 (.gen .ps C65) ∧ Callable Try.prog 65) := by
  refine ⟨fun args K h => ?_, (r92_65 0).2.2⟩
  unfold C65 at h; split at h
  · exact (r92_65 (m65 ⟨_, _, _, _, _⟩ ⟨_, _, _, _, _⟩ ⟨_, _, _, _, _⟩ + 1)).2.1 _ K ⟨Nat.lt_succ_self _, h⟩
  · exact h.elim
noncomputable def c34 (o : Nd) (a : Nd) (b : Nd) (K : AV → List AV → Prop) : Prop :=
    K (optN (mergeThreeM o a b)) []
noncomputable def C34 : List AV → (AV → List AV → Prop) → Prop
  | [.st [.int .i64 o_0, .int .i64 o_1, .str o_2, .ps .str o_3, .ps .node o_4], .st [.int .i64 a_0, .int .i64 a_1, .str a_2, .ps .str a_3, .ps .node a_4], .st [.int .i64 b_0, .int .i64 b_1, .str b_2, .ps .str b_3, .ps .node b_4]], K => c34 ⟨o_0, o_1, o_2, o_3, o_4⟩ ⟨a_0, a_1, a_2, a_3, a_4⟩ ⟨b_0, b_1, b_2, b_3, b_4⟩ K
  | _, _ => False
noncomputable def E34 : Ctx := mkE tab [(63, .pure F63), (64, .gen .ps C64), (65, .gen .ps C65)]
noncomputable def O34 : Nat → List DI := ordL []
theorem a34 (o : Nd) (a : Nd) (b : Nd) (hb : BdAs [.st (ndC o), .st (ndC a), .st (ndC b)]) (K : AV → List AV → Prop) (h : c34 o a b K) : abody E34 O34 .ps Try.f34 (Try.f34.body.getD .skip) [.st (ndC o), .st (ndC a), .st (ndC b)] K := by
  simp only [BdAs, BdA, BdL, BdC, MX, ndC, shC, itC, stC, opC, chC, nwC, flC, rqC, rsC, enc, List.cons_append, List.nil_append, and_true, true_and] at hb
  unfold c34 at h
  have hK9 := h
  have h1 := fun h => validM_ok (n := o) h
  have h2 := fun h => validM_ok (n := a) h
  have h3 := fun h => validM_ok (n := b) h
  conv => whnf
  repeat' first|((first|refine Cnd.mk (fun h=>?_) (fun h=>?_)|refine Gd.mk (fun h=>?_))<;>(try simp [etas,elDef,-List.getD_eq_getElem?_getD] at h)<;>conv=>whnf)|((first|refine Obl.mk (by first|omega|rfl|exact inK_byte _|(simp only [inK,Int.toNat_natCast,etas,elDef,m65]<;>first|omega|grind)|grind [inK,m65]) ?_|refine OblG.mk (by ((conv=>whnf);(repeat (first|refine Bx.mk ?_|(intro h;(try simp [etas,elDef,-List.getD_eq_getElem?_getD] at h);conv=>whnf)));(first|omega|rfl|exact inK_byte _|(simp only [inK,Int.toNat_natCast,etas,elDef,m65]<;>first|omega|grind)|grind [inK,m65]))) ?_|refine And.intro ?_ ?_)<;>conv=>whnf)|exact True.intro|(intro;conv=>whnf)
  · exact leafV hK9 (by unfold mergeThreeM; rw [if_neg (by grind)]; rfl)
  · refine leafV hK9 ?_
    have e : mergeThreeM o a b = checkedM (threeM o a b) := by unfold mergeThreeM; rw [if_pos (by simp [h])]
    rw [e, checked_if]
    simp only [nd_eta]
    first | done | rfl
theorem s34 : (CtrOK Try.prog 34 (.gen .ps C34) ∧ Callable Try.prog 34) := by
  refine gen_ok (E := E34) (mkE_cons s63 (mkE_cons s64 (mkE_cons s65 (mkE_nil tab_ok)))) mix (O := O34) (C := C34) (own := .ps) Try.func34 rfl (by rfl) (by kernel_rfl) (fun args K h hbd => ?_)
  unfold C34 at h; split at h
  case h_2 => exact h.elim
  exact ⟨Nat.le_of_ble_eq_true rfl, a34 ⟨_, _, _, _, _⟩ ⟨_, _, _, _, _⟩ ⟨_, _, _, _, _⟩ (by exact hbd) _ h⟩
noncomputable def c40 (o : Nd) (a : Nd) (b : Nd) (K : AV → List AV → Prop) : Prop :=
    K (.bool (validM o && (validM a && validM b) && (threeM o a b).isNone)) []
noncomputable def C40 : List AV → (AV → List AV → Prop) → Prop
  | [.st [.int .i64 o_0, .int .i64 o_1, .str o_2, .ps .str o_3, .ps .node o_4], .st [.int .i64 a_0, .int .i64 a_1, .str a_2, .ps .str a_3, .ps .node a_4], .st [.int .i64 b_0, .int .i64 b_1, .str b_2, .ps .str b_3, .ps .node b_4]], K => c40 ⟨o_0, o_1, o_2, o_3, o_4⟩ ⟨a_0, a_1, a_2, a_3, a_4⟩ ⟨b_0, b_1, b_2, b_3, b_4⟩ K
  | _, _ => False
noncomputable def E40 : Ctx := mkE tab [(63, .pure F63), (65, .gen .ps C65)]
noncomputable def O40 : Nat → List DI := ordL []
theorem a40 (o : Nd) (a : Nd) (b : Nd) (hb : BdAs [.st (ndC o), .st (ndC a), .st (ndC b)]) (K : AV → List AV → Prop) (h : c40 o a b K) : abody E40 O40 .ps Try.f40 (Try.f40.body.getD .skip) [.st (ndC o), .st (ndC a), .st (ndC b)] K := by
  simp only [BdAs, BdA, BdL, BdC, MX, ndC, shC, itC, stC, opC, chC, nwC, flC, rqC, rsC, enc, List.cons_append, List.nil_append, and_true, true_and] at hb
  unfold c40 at h
  have hK9 := h
  have h1 := fun h => validM_ok (n := o) h
  have h2 := fun h => validM_ok (n := a) h
  have h3 := fun h => validM_ok (n := b) h
  conv => whnf
  repeat' first|((first|refine Cnd.mk (fun h=>?_) (fun h=>?_)|refine Gd.mk (fun h=>?_))<;>(try simp [etas,elDef,-List.getD_eq_getElem?_getD] at h)<;>conv=>whnf)|((first|refine Obl.mk (by first|omega|rfl|exact inK_byte _|(simp only [inK,Int.toNat_natCast,etas,elDef,m65]<;>first|omega|grind)|grind [inK,m65]) ?_|refine OblG.mk (by ((conv=>whnf);(repeat (first|refine Bx.mk ?_|(intro h;(try simp [etas,elDef,-List.getD_eq_getElem?_getD] at h);conv=>whnf)));(first|omega|rfl|exact inK_byte _|(simp only [inK,Int.toNat_natCast,etas,elDef,m65]<;>first|omega|grind)|grind [inK,m65]))) ?_|refine And.intro ?_ ?_)<;>conv=>whnf)|exact True.intro|(intro;conv=>whnf)
  · exact leafB hK9 (by rcases h with (h | h) | h <;> simp [h])
  · refine leafB hK9 ?_
    simp only [nd_eta, h, Bool.true_and]
    cases threeM o a b <;> rfl
theorem s40 : (CtrOK Try.prog 40 (.gen .ps C40) ∧ Callable Try.prog 40) := by
  refine gen_ok (E := E40) (mkE_cons s63 (mkE_cons s65 (mkE_nil tab_ok))) mix (O := O40) (C := C40) (own := .ps) Try.func40 rfl (by rfl) (by kernel_rfl) (fun args K h hbd => ?_)
  unfold C40 at h; split at h
  case h_2 => exact h.elim
  exact ⟨Nat.le_of_ble_eq_true rfl, a40 ⟨_, _, _, _, _⟩ ⟨_, _, _, _, _⟩ ⟨_, _, _, _, _⟩ (by exact hbd) _ h⟩
end Go.Rs

