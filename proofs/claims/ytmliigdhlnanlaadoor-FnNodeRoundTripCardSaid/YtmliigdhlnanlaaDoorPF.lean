import Derived.Test.YtmliigdhlnanlaaDoorPB
import Derived.Test.YtmliigdhlnanlaaDoorMI
set_option linter.all false
set_option linter.unusedSimpArgs false
set_option linter.unusedVariables false
namespace Go.Rs
open Go.Proofs Go.RowKit
set_option maxRecDepth 100000
set_option maxHeartbeats 4000000
noncomputable def c67 (t : Bs) (p : Int) (kd : Int) (x2 : Int) (x3 : Bs) (x4 : List Bs) (x5 : List Nd) (c : Int) (d : Int) (K : AV → List AV → Prop) : Prop :=
    Obl ((0 ≤ p ∧ p < t.length ∧ t.length ≤ 1000000) ∧ (1 ≤ d ∧ d ≤ 5) ∧ ((kd = 3 ∧ c = 93) ∨ (kd = 4 ∧ c = 125))) ((∀ (n1 n2 : Int) (n3 : Bs) (n4 : List Bs) (n5 : List Nd) (q : Int), p < q ∧ q ≤ t.length → spLoop (spN (d - 1).toNat) kd (UInt8.ofNat c.toNat) [] [] (t.drop (p + 1).toNat) = some (⟨n1, n2, n3, n4, n5⟩, t.drop q.toNat) → K (.st [.int .i64 n1, .int .i64 n2, .str n3, .ps .str n4, .ps .node n5]) [.ref [.str t, .int .i64 q, .bool false]]) ∧ (spLoop (spN (d - 1).toNat) kd (UInt8.ofNat c.toNat) [] [] (t.drop (p + 1).toNat) = none → ∀ (n1 n2 : Int) (n3 : Bs) (n4 : List Bs) (n5 : List Nd) (q : Int), p ≤ q ∧ q ≤ t.length → K (.st [.int .i64 n1, .int .i64 n2, .str n3, .ps .str n4, .ps .node n5]) [.ref [.str t, .int .i64 q, .bool true]]))
noncomputable def m67 (t : Bs) (p : Int) (kd : Int) (x2 : Int) (x3 : Bs) (x4 : List Bs) (x5 : List Nd) (c : Int) (d : Int) : Nat := 2 * d.toNat
noncomputable def Ck67 (k : Nat) : List AV → (AV → List AV → Prop) → Prop
  | [.ref [.str t, .int .i64 p, .bool false], .st [.int .i64 kd, .int .i64 x2, .str x3, .ps .str x4, .ps .node x5], .int .u8 c, .int .i64 d], K => Obl (m67 t p kd x2 x3 x4 x5 c d < k) (c67 t p kd x2 x3 x4 x5 c d K)
  | _, _ => False
noncomputable def c35 (t : Bs) (p : Int) (b : Bool) (d : Int) (K : AV → List AV → Prop) : Prop :=
    Obl ((0 ≤ p ∧ p ≤ t.length ∧ t.length ≤ 1000000) ∧ 0 ≤ d ∧ d ≤ 5) (Cnd b (∀ (n1 n2 : Int) (n3 : Bs) (n4 : List Bs) (n5 : List Nd) (q : Int), p ≤ q ∧ q ≤ t.length → K (.st [.int .i64 n1, .int .i64 n2, .str n3, .ps .str n4, .ps .node n5]) [.ref [.str t, .int .i64 q, .bool true]]) ((∀ (n1 n2 : Int) (n3 : Bs) (n4 : List Bs) (n5 : List Nd) (q : Int), p < q ∧ q ≤ t.length → spN d.toNat (t.drop p.toNat) = some (⟨n1, n2, n3, n4, n5⟩, t.drop q.toNat) → K (.st [.int .i64 n1, .int .i64 n2, .str n3, .ps .str n4, .ps .node n5]) [.ref [.str t, .int .i64 q, .bool false]]) ∧ (spN d.toNat (t.drop p.toNat) = none → ∀ (n1 n2 : Int) (n3 : Bs) (n4 : List Bs) (n5 : List Nd) (q : Int), p ≤ q ∧ q ≤ t.length → K (.st [.int .i64 n1, .int .i64 n2, .str n3, .ps .str n4, .ps .node n5]) [.ref [.str t, .int .i64 q, .bool true]])))
noncomputable def m35 (t : Bs) (p : Int) (b : Bool) (d : Int) : Nat := 2 * d.toNat + 1
noncomputable def C35 : List AV → (AV → List AV → Prop) → Prop
  | [.ref [.str t, .int .i64 p, .bool b], .int .i64 d], K => c35 t p b d K
  | _, _ => False
noncomputable def Ck35 (k : Nat) : List AV → (AV → List AV → Prop) → Prop
  | [.ref [.str t, .int .i64 p, .bool b], .int .i64 d], K => Obl (m35 t p b d < k) (c35 t p b d K)
  | _, _ => False
noncomputable def E67 (k : Nat) : Ctx := mkE tab [(35, .gen .ps (Ck35 k)), (65, .gen .ps C65), (66, .gen .ps C66), (83, .gen .ps C83)]
noncomputable def O67 : Nat → List DI := ordL []
theorem a67 (k : Nat) (t : Bs) (p : Int) (kd : Int) (x2 : Int) (x3 : Bs) (x4 : List Bs) (x5 : List Nd) (c : Int) (d : Int) (hm : m67 t p kd x2 x3 x4 x5 c d < k + 1) (hb : BdAs [.ref [.str t, .int .i64 p, .bool false], .st [.int .i64 kd, .int .i64 x2, .str x3, .ps .str x4, .ps .node x5], .int .u8 c, .int .i64 d]) (K : AV → List AV → Prop) (h : c67 t p kd x2 x3 x4 x5 c d K) : abody (E67 k) O67 .ps Tryd.f67 (Tryd.f67.body.getD .skip) [.ref [.str t, .int .i64 p, .bool false], .st [.int .i64 kd, .int .i64 x2, .str x3, .ps .str x4, .ps .node x5], .int .u8 c, .int .i64 d] K := by
  simp only [BdAs, BdA, BdL, BdC, MX, ndC, shC, itC, stC, opC, chC, nwC, flC, rqC, rsC, enc, List.cons_append, List.nil_append, and_true, true_and] at hb
  unfold c67 at h
  unfold m67 at hm
  obtain ⟨⟨hp, hd, hkc⟩, hK1, hK2⟩ := h
  rcases hkc with ⟨rfl, rfl⟩ | ⟨rfl, rfl⟩
  · have eC : UInt8.ofNat (93 : Int).toNat = 93 := rfl
    rw [eC] at hK1 hK2
    conv => whnf
    repeat' first|((first|refine Cnd.mk (fun h=>?_) (fun h=>?_)|refine Gd.mk (fun h=>?_))<;>(try simp [etas,elDef,-List.getD_eq_getElem?_getD] at h)<;>conv=>whnf)|((first|refine Obl.mk (by first|omega|rfl|exact inK_byte _|(simp only [inK,Int.toNat_natCast,etas,elDef,m67,m35,m35]<;>first|omega|grind)|grind [inK,m67,m35,m35]) ?_|refine OblG.mk (by ((conv=>whnf);(repeat (first|refine Bx.mk ?_|(intro h;(try simp [etas,elDef,-List.getD_eq_getElem?_getD] at h);conv=>whnf)));(first|omega|rfl|exact inK_byte _|(simp only [inK,Int.toNat_natCast,etas,elDef,m67,m35,m35]<;>first|omega|grind)|grind [inK,m67,m35,m35]))) ?_|refine And.intro ?_ ?_)<;>conv=>whnf)|exact True.intro|(intro;conv=>whnf)
    refine aloop_intro (List Nd × Int × Bool) (fun x => (p + 1 ≤ x.2.1 ∧ x.2.1 ≤ t.length) ∧ (x.2.2 = false → (x.1.length : Int) ≤ x.2.1) ∧ (x.2.2 = false → spLoop (spN (d - 1).toNat) 3 93 [] [] (t.drop (p + 1).toNat) = spLoop (spN (d - 1).toNat) 3 93 [] x.1 (t.drop x.2.1.toNat)) ∧ (x.2.2 = true → spLoop (spN (d - 1).toNat) 3 93 [] [] (t.drop (p + 1).toNat) = none)) (fun x => if x.2.2 then 0 else 1 + (t.length - x.2.1).toNat) (fun x => [(9, .ls 901), (10, .ls 900)]) (fun x => [(1000000, .box [.str t, .int .i64 x.2.1, .bool x.2.2]), (901, .arr .str []), (900, .arr .node x.1)]) [5, 8] ([], p + 1, false) [(901, 11), (900, 12)] [] ?_ ?_ (by exact sgOk_of (by rfl)) ?_
    · exact ⟨⟨by simp only; omega, by simp only; omega⟩, fun _ => by simp only [List.length_nil]; omega, fun _ => rfl, fun h => by cases h⟩
    · iterate 2 ((all_goals (conv=>whnf));(repeat' (first|exact trivial|rfl|(refine nilEq ?_;first|rfl|(simp only [*];done)|(simp [*];done)|grind)|apply And.intro|((first|apply intEq|apply boolEq|apply strEq|apply psEq|apply nilEq|apply arrEq);(try simp only [Int.toNat_natCast,etas,elDef]);first | done | omega | grind | (simp only [*]; done) | (simp [*]; done)))));(all_goals ((try simp only [Int.toNat_natCast,etas,elDef]);first | done | omega | grind | (simp only [*]; done) | (simp [*]; done)))
    rintro ⟨ks, q, bad⟩ ⟨hq, hl, he, hb2⟩
    dsimp only at hq hl he hb2
    cases bad
    · have he := he rfl
      rw [he] at hK1 hK2
      clear hb2
      have hl := hl rfl
      have hla : ks.length + [(default : Nd)].length ≤ 1073741824 := by simp; omega
      have n1q : (q + 1).toNat = q.toNat + 1 := by omega
      have hp93 : ¬ ((t.getD q.toNat 0).toNat : Int) = 93 → preM [93] (t.drop q.toNat) = false := fun h => by rw [pre_at 93 (by decide)]; exact decide_eq_false h
      have hp93y : ((t.getD q.toNat 0).toNat : Int) = 93 → preM [93] (t.drop q.toNat) = true := fun h => by rw [pre_at 93 (by decide)]; exact decide_eq_true h
      have he9 := he
      conv => whnf
      repeat' first|((first|refine Cnd.mk (fun h=>?_) (fun h=>?_)|refine Gd.mk (fun h=>?_))<;>(try simp [etas,elDef,-List.getD_eq_getElem?_getD] at h)<;>conv=>whnf)|((first|refine Obl.mk (by first|omega|rfl|exact inK_byte _|(simp only [inK,Int.toNat_natCast,etas,elDef,m67,m35,m35]<;>first|omega|grind)|grind [inK,m67,m35,m35]) ?_|refine OblG.mk (by ((conv=>whnf);(repeat (first|refine Bx.mk ?_|(intro h;(try simp [etas,elDef,-List.getD_eq_getElem?_getD] at h);conv=>whnf)));(first|omega|rfl|exact inK_byte _|(simp only [inK,Int.toNat_natCast,etas,elDef,m67,m35,m35]<;>first|omega|grind)|grind [inK,m67,m35,m35]))) ?_|refine And.intro ?_ ?_)<;>conv=>whnf)|exact True.intro|(intro;conv=>whnf)
      · rename_i _ h93 hks _ h44 hql2 _ m1 m2 m3 m4 m5 q2 hq2 hr
        dsimp only at h44 hql2 hq2 hr
        rw [n1q] at hr
        have e1 := sl_next (ns := []) (ks := ks) (hp93 h93) ((sep_pos hks).trans (tk_yes 44 (by decide) h44)) sk_list hr (by simp only [List.length_drop]; omega)
        exact ⟨(ks ++ [⟨m1, m2, m3, m4, m5⟩], q2, false), [(900, 53)], [], ⟨⟨by simp only; omega, by simp only; omega⟩, fun _ => by simp only [List.length_append, List.length_singleton]; omega, fun _ => by exact he9.trans e1, fun h => by cases h⟩, by simp; omega, by iterate 2 ((all_goals (conv=>whnf));(repeat' (first|exact trivial|rfl|(refine nilEq ?_;first|rfl|(simp only [*];done)|(simp [*];done)|grind)|apply And.intro|((first|apply intEq|apply boolEq|apply strEq|apply psEq|apply nilEq|apply arrEq);(try simp only [Int.toNat_natCast,etas,elDef]);first | done | omega | grind | (simp only [*]; done) | (simp [*]; done)))));(all_goals ((try simp only [Int.toNat_natCast,etas,elDef]);first | done | omega | grind | (simp only [*]; done) | (simp [*]; done))), (by exact sgOk_of (by rfl))⟩
      · rename_i _ h93 hks _ h44 hql2 _ hr m1 m2 m3 m4 m5 q2 hq2
        dsimp only at h44 hql2 hq2 hr
        rw [n1q] at hr
        have e1 := sl_no3 (ns := []) (ks := ks) (hp93 h93) ((sep_pos hks).trans (tk_yes 44 (by decide) h44)) sk_list hr
        exact ⟨(ks ++ [⟨m1, m2, m3, m4, m5⟩], q2, true), [(900, 53)], [], ⟨⟨by simp only; omega, by simp only; omega⟩, fun h => (Bool.noConfusion h), fun h => (Bool.noConfusion h), fun _ => he9.trans e1⟩, by simp; omega, by iterate 2 ((all_goals (conv=>whnf));(repeat' (first|exact trivial|rfl|(refine nilEq ?_;first|rfl|(simp only [*];done)|(simp [*];done)|grind)|apply And.intro|((first|apply intEq|apply boolEq|apply strEq|apply psEq|apply nilEq|apply arrEq);(try simp only [Int.toNat_natCast,etas,elDef]);first | done | omega | grind | (simp only [*]; done) | (simp [*]; done)))));(all_goals ((try simp only [Int.toNat_natCast,etas,elDef]);first | done | omega | grind | (simp only [*]; done) | (simp [*]; done))), (by exact sgOk_of (by rfl))⟩
      · rename_i _ h93 hks _ h44 _ m1 m2 m3 m4 m5 q2 hq2
        dsimp only at h44 hq2
        have e1 := sl_no1 (f := spN (d - 1).toNat) (k := 3) (ns := []) (ks := ks) (hp93 h93) ((sep_pos hks).trans (tk_no 44 h44))
        exact ⟨(ks ++ [⟨m1, m2, m3, m4, m5⟩], q2, true), [(900, 53)], [], ⟨⟨by simp only; omega, by simp only; omega⟩, fun h => (Bool.noConfusion h), fun h => (Bool.noConfusion h), fun _ => he9.trans e1⟩, by simp; omega, by iterate 2 ((all_goals (conv=>whnf));(repeat' (first|exact trivial|rfl|(refine nilEq ?_;first|rfl|(simp only [*];done)|(simp [*];done)|grind)|apply And.intro|((first|apply intEq|apply boolEq|apply strEq|apply psEq|apply nilEq|apply arrEq);(try simp only [Int.toNat_natCast,etas,elDef]);first | done | omega | grind | (simp only [*]; done) | (simp [*]; done)))));(all_goals ((try simp only [Int.toNat_natCast,etas,elDef]);first | done | omega | grind | (simp only [*]; done) | (simp [*]; done))), (by exact sgOk_of (by rfl))⟩
      · rename_i _ h93 hks _ m1 m2 m3 m4 m5 q2 hq2 hr
        dsimp only at hq2 hr
        have hk0 : ks.length = 0 := by rw [hks]; rfl
        have e1 := sl_next (ns := []) (ks := ks) (hp93 h93) (sep_zero hk0) sk_list hr (by simp only [List.length_drop]; omega)
        exact ⟨(ks ++ [⟨m1, m2, m3, m4, m5⟩], q2, false), [(900, 53)], [], ⟨⟨by simp only; omega, by simp only; omega⟩, fun _ => by simp only [List.length_append, List.length_singleton]; omega, fun _ => by exact he9.trans e1, fun h => by cases h⟩, by simp; omega, by iterate 2 ((all_goals (conv=>whnf));(repeat' (first|exact trivial|rfl|(refine nilEq ?_;first|rfl|(simp only [*];done)|(simp [*];done)|grind)|apply And.intro|((first|apply intEq|apply boolEq|apply strEq|apply psEq|apply nilEq|apply arrEq);(try simp only [Int.toNat_natCast,etas,elDef]);first | done | omega | grind | (simp only [*]; done) | (simp [*]; done)))));(all_goals ((try simp only [Int.toNat_natCast,etas,elDef]);first | done | omega | grind | (simp only [*]; done) | (simp [*]; done))), (by exact sgOk_of (by rfl))⟩
      · rename_i _ h93 hks _ hr m1 m2 m3 m4 m5 q2 hq2
        dsimp only at hq2 hr
        have hk0 : ks.length = 0 := by rw [hks]; rfl
        have e1 := sl_no3 (ns := []) (ks := ks) (hp93 h93) (sep_zero hk0) sk_list hr
        exact ⟨(ks ++ [⟨m1, m2, m3, m4, m5⟩], q2, true), [(900, 53)], [], ⟨⟨by simp only; omega, by simp only; omega⟩, fun h => (Bool.noConfusion h), fun h => (Bool.noConfusion h), fun _ => he9.trans e1⟩, by simp; omega, by iterate 2 ((all_goals (conv=>whnf));(repeat' (first|exact trivial|rfl|(refine nilEq ?_;first|rfl|(simp only [*];done)|(simp [*];done)|grind)|apply And.intro|((first|apply intEq|apply boolEq|apply strEq|apply psEq|apply nilEq|apply arrEq);(try simp only [Int.toNat_natCast,etas,elDef]);first | done | omega | grind | (simp only [*]; done) | (simp [*]; done)))));(all_goals ((try simp only [Int.toNat_natCast,etas,elDef]);first | done | omega | grind | (simp only [*]; done) | (simp [*]; done))), (by exact sgOk_of (by rfl))⟩
      · rename_i _ h93 h2 hlq
        exact hK1 _ _ _ _ _ (q + 1) ⟨by omega, by simp only at hlq; omega⟩ (by rw [n1q, sl_done (hp93y h93), List.drop_drop])
      · rename_i _ h93 h2
        exact absurd h93 h2
    · have hK3 := hK2 (hb2 rfl)
      conv => whnf
      repeat' first|((first|refine Cnd.mk (fun h=>?_) (fun h=>?_)|refine Gd.mk (fun h=>?_))<;>(try simp [etas,elDef,-List.getD_eq_getElem?_getD] at h)<;>conv=>whnf)|((first|refine Obl.mk (by first|omega|rfl|exact inK_byte _|(simp only [inK,Int.toNat_natCast,etas,elDef,m67,m35,m35]<;>first|omega|grind)|grind [inK,m67,m35,m35]) ?_|refine OblG.mk (by ((conv=>whnf);(repeat (first|refine Bx.mk ?_|(intro h;(try simp [etas,elDef,-List.getD_eq_getElem?_getD] at h);conv=>whnf)));(first|omega|rfl|exact inK_byte _|(simp only [inK,Int.toNat_natCast,etas,elDef,m67,m35,m35]<;>first|omega|grind)|grind [inK,m67,m35,m35]))) ?_|refine And.intro ?_ ?_)<;>conv=>whnf)|exact True.intro|(intro;conv=>whnf)
      all_goals exact hK3 _ _ _ _ _ _ ⟨by simp only at *; omega, by simp only at *; omega⟩
  · have eC : UInt8.ofNat (125 : Int).toNat = 125 := rfl
    rw [eC] at hK1 hK2
    conv => whnf
    repeat' first|((first|refine Cnd.mk (fun h=>?_) (fun h=>?_)|refine Gd.mk (fun h=>?_))<;>(try simp [etas,elDef,-List.getD_eq_getElem?_getD] at h)<;>conv=>whnf)|((first|refine Obl.mk (by first|omega|rfl|exact inK_byte _|(simp only [inK,Int.toNat_natCast,etas,elDef,m67,m35,m35]<;>first|omega|grind)|grind [inK,m67,m35,m35]) ?_|refine OblG.mk (by ((conv=>whnf);(repeat (first|refine Bx.mk ?_|(intro h;(try simp [etas,elDef,-List.getD_eq_getElem?_getD] at h);conv=>whnf)));(first|omega|rfl|exact inK_byte _|(simp only [inK,Int.toNat_natCast,etas,elDef,m67,m35,m35]<;>first|omega|grind)|grind [inK,m67,m35,m35]))) ?_|refine And.intro ?_ ?_)<;>conv=>whnf)|exact True.intro|(intro;conv=>whnf)
    refine aloop_intro (List Bs × List Nd × Int × Bool) (fun x => (p + 1 ≤ x.2.2.1 ∧ x.2.2.1 ≤ t.length) ∧ (x.2.2.2 = false → (x.2.1.length : Int) ≤ x.2.2.1 ∧ x.1.length = x.2.1.length) ∧ (x.2.2.2 = false → spLoop (spN (d - 1).toNat) 4 125 [] [] (t.drop (p + 1).toNat) = spLoop (spN (d - 1).toNat) 4 125 x.1 x.2.1 (t.drop x.2.2.1.toNat)) ∧ (x.2.2.2 = true → spLoop (spN (d - 1).toNat) 4 125 [] [] (t.drop (p + 1).toNat) = none)) (fun x => if x.2.2.2 then 0 else 1 + (t.length - x.2.2.1).toNat) (fun x => [(9, .ls 901), (10, .ls 900)]) (fun x => [(1000000, .box [.str t, .int .i64 x.2.2.1, .bool x.2.2.2]), (901, .arr .str x.1), (900, .arr .node x.2.1)]) [5, 8] ([], [], p + 1, false) [(901, 11), (900, 12)] [] ?_ ?_ (by exact sgOk_of (by rfl)) ?_
    · exact ⟨⟨by simp only; omega, by simp only; omega⟩, fun _ => ⟨by simp only [List.length_nil]; omega, rfl⟩, fun _ => rfl, fun h => by cases h⟩
    · iterate 2 ((all_goals (conv=>whnf));(repeat' (first|exact trivial|rfl|(refine nilEq ?_;first|rfl|(simp only [*];done)|(simp [*];done)|grind)|apply And.intro|((first|apply intEq|apply boolEq|apply strEq|apply psEq|apply nilEq|apply arrEq);(try simp only [Int.toNat_natCast,etas,elDef]);first | done | omega | grind | (simp only [*]; done) | (simp [*]; done)))));(all_goals ((try simp only [Int.toNat_natCast,etas,elDef]);first | done | omega | grind | (simp only [*]; done) | (simp [*]; done)))
    rintro ⟨ns, ks, q, bad⟩ ⟨hq, hl, he, hb2⟩
    dsimp only at hq hl he hb2
    cases bad
    · have he := he rfl
      rw [he] at hK1 hK2
      clear hb2
      have hnl := (hl rfl).2
      have hl := (hl rfl).1
      have hla : ks.length + [(default : Nd)].length ≤ 1073741824 := by simp; omega
      have hln : ns.length + [([] : Bs)].length ≤ 1073741824 := by simp; omega
      have n1q : (q + 1).toNat = q.toNat + 1 := by omega
      have hp93 : ¬ ((t.getD q.toNat 0).toNat : Int) = 125 → preM [125] (t.drop q.toNat) = false := fun h => by rw [pre_at 125 (by decide)]; exact decide_eq_false h
      have hp93y : ((t.getD q.toNat 0).toNat : Int) = 125 → preM [125] (t.drop q.toNat) = true := fun h => by rw [pre_at 125 (by decide)]; exact decide_eq_true h
      have he9 := he
      conv => whnf
      repeat' first|((first|refine Cnd.mk (fun h=>?_) (fun h=>?_)|refine Gd.mk (fun h=>?_))<;>(try simp [etas,elDef,-List.getD_eq_getElem?_getD] at h)<;>conv=>whnf)|((first|refine Obl.mk (by first|omega|rfl|exact inK_byte _|(simp only [inK,Int.toNat_natCast,etas,elDef,m67,m35,m35]<;>first|omega|grind)|grind [inK,m67,m35,m35]) ?_|refine OblG.mk (by ((conv=>whnf);(repeat (first|refine Bx.mk ?_|(intro h;(try simp [etas,elDef,-List.getD_eq_getElem?_getD] at h);conv=>whnf)));(first|omega|rfl|exact inK_byte _|(simp only [inK,Int.toNat_natCast,etas,elDef,m67,m35,m35]<;>first|omega|grind)|grind [inK,m67,m35,m35]))) ?_|refine And.intro ?_ ?_)<;>conv=>whnf)|exact True.intro|(intro;conv=>whnf)
      · rename_i _ h93 hks _ h44 hql2 _ _ x q1 hq1 hxl hx _ h58 hq1l m1 m2 m3 m4 m5 q2 hq2 hr
        dsimp only at h44 hql2 hq1 hx
        rw [n1q] at hx
        rw [show (q1 + 1).toNat = q1.toNat + 1 by omega] at hr
        have e1 := sl_next (ns := ns) (ks := ks) (hp93 h93) ((sep_pos hks).trans (tk_yes 44 (by decide) h44)) (sk_yes hx (tk_yes 58 (by decide) h58)) hr (by simp only [List.length_drop]; omega)
        exact ⟨(ns ++ [x], ks ++ [⟨m1, m2, m3, m4, m5⟩], q2, false), [(901, 44), (900, 53)], [], ⟨⟨by simp only; omega, by simp only; omega⟩, fun _ => ⟨by simp only [List.length_append, List.length_singleton]; omega, by simp only [List.length_append, List.length_singleton]; omega⟩, fun _ => he9.trans e1, fun h => (Bool.noConfusion h)⟩, by simp; omega, by iterate 2 ((all_goals (conv=>whnf));(repeat' (first|exact trivial|rfl|(refine nilEq ?_;first|rfl|(simp only [*];done)|(simp [*];done)|grind)|apply And.intro|((first|apply intEq|apply boolEq|apply strEq|apply psEq|apply nilEq|apply arrEq);(try simp only [Int.toNat_natCast,etas,elDef]);first | done | omega | grind | (simp only [*]; done) | (simp [*]; done)))));(all_goals ((try simp only [Int.toNat_natCast,etas,elDef]);first | done | omega | grind | (simp only [*]; done) | (simp [*]; done))), (by exact sgOk_of (by rfl))⟩
      · rename_i _ h93 hks _ h44 hql2 _ _ x q1 hq1 hxl hx _ h58 hq1l hr m1 m2 m3 m4 m5 q2 hq2
        dsimp only at h44 hql2 hq1 hx
        rw [n1q] at hx
        rw [show (q1 + 1).toNat = q1.toNat + 1 by omega] at hr
        have e1 := sl_no3 (ns := ns) (ks := ks) (hp93 h93) ((sep_pos hks).trans (tk_yes 44 (by decide) h44)) (sk_yes hx (tk_yes 58 (by decide) h58)) hr
        exact ⟨(ns ++ [x], ks ++ [⟨m1, m2, m3, m4, m5⟩], q2, true), [(901, 44), (900, 53)], [], ⟨⟨by simp only; omega, by simp only; omega⟩, fun h => (Bool.noConfusion h), fun h => (Bool.noConfusion h), fun _ => he9.trans e1⟩, by simp; omega, by iterate 2 ((all_goals (conv=>whnf));(repeat' (first|exact trivial|rfl|(refine nilEq ?_;first|rfl|(simp only [*];done)|(simp [*];done)|grind)|apply And.intro|((first|apply intEq|apply boolEq|apply strEq|apply psEq|apply nilEq|apply arrEq);(try simp only [Int.toNat_natCast,etas,elDef]);first | done | omega | grind | (simp only [*]; done) | (simp [*]; done)))));(all_goals ((try simp only [Int.toNat_natCast,etas,elDef]);first | done | omega | grind | (simp only [*]; done) | (simp [*]; done))), (by exact sgOk_of (by rfl))⟩
      · rename_i _ h93 hks _ h44 hql2 _ _ x q1 hq1 hxl hx _ h58 m1 m2 m3 m4 m5 q2 hq2
        dsimp only at h44 hql2 hq1 hx
        rw [n1q] at hx
        have e1 := sl_no2 (f := spN (d - 1).toNat) (ns := ns) (ks := ks) (hp93 h93) ((sep_pos hks).trans (tk_yes 44 (by decide) h44)) (sk_no2 hx (tk_no 58 h58))
        exact ⟨(ns ++ [x], ks ++ [⟨m1, m2, m3, m4, m5⟩], q2, true), [(901, 44), (900, 53)], [], ⟨⟨by simp only; omega, by simp only; omega⟩, fun h => (Bool.noConfusion h), fun h => (Bool.noConfusion h), fun _ => he9.trans e1⟩, by simp; omega, by iterate 2 ((all_goals (conv=>whnf));(repeat' (first|exact trivial|rfl|(refine nilEq ?_;first|rfl|(simp only [*];done)|(simp [*];done)|grind)|apply And.intro|((first|apply intEq|apply boolEq|apply strEq|apply psEq|apply nilEq|apply arrEq);(try simp only [Int.toNat_natCast,etas,elDef]);first | done | omega | grind | (simp only [*]; done) | (simp [*]; done)))));(all_goals ((try simp only [Int.toNat_natCast,etas,elDef]);first | done | omega | grind | (simp only [*]; done) | (simp [*]; done))), (by exact sgOk_of (by rfl))⟩
      · rename_i _ h93 hks _ h44 hql2 _ _ hx x q1 hq1 hxl _ q3 hq3 m1 m2 m3 m4 m5 q2 hq2
        dsimp only at h44 hql2 hq1 hx
        rw [n1q] at hx
        have e1 := sl_no2 (f := spN (d - 1).toNat) (ns := ns) (ks := ks) (hp93 h93) ((sep_pos hks).trans (tk_yes 44 (by decide) h44)) (sk_no1 hx)
        exact ⟨(ns ++ [x], ks ++ [⟨m1, m2, m3, m4, m5⟩], q2, true), [(901, 44), (900, 53)], [], ⟨⟨by simp only; omega, by simp only; omega⟩, fun h => (Bool.noConfusion h), fun h => (Bool.noConfusion h), fun _ => he9.trans e1⟩, by simp; omega, by iterate 2 ((all_goals (conv=>whnf));(repeat' (first|exact trivial|rfl|(refine nilEq ?_;first|rfl|(simp only [*];done)|(simp [*];done)|grind)|apply And.intro|((first|apply intEq|apply boolEq|apply strEq|apply psEq|apply nilEq|apply arrEq);(try simp only [Int.toNat_natCast,etas,elDef]);first | done | omega | grind | (simp only [*]; done) | (simp [*]; done)))));(all_goals ((try simp only [Int.toNat_natCast,etas,elDef]);first | done | omega | grind | (simp only [*]; done) | (simp [*]; done))), (by exact sgOk_of (by rfl))⟩
      · rename_i _ h93 hks _ h44 _ _ x q1 hq1 hxl _ q3 hq3 m1 m2 m3 m4 m5 q2 hq2
        dsimp only at h44 hq1
        have e1 := sl_no1 (f := spN (d - 1).toNat) (k := 4) (ns := ns) (ks := ks) (hp93 h93) ((sep_pos hks).trans (tk_no 44 h44))
        exact ⟨(ns ++ [x], ks ++ [⟨m1, m2, m3, m4, m5⟩], q2, true), [(901, 44), (900, 53)], [], ⟨⟨by simp only; omega, by simp only; omega⟩, fun h => (Bool.noConfusion h), fun h => (Bool.noConfusion h), fun _ => he9.trans e1⟩, by simp; omega, by iterate 2 ((all_goals (conv=>whnf));(repeat' (first|exact trivial|rfl|(refine nilEq ?_;first|rfl|(simp only [*];done)|(simp [*];done)|grind)|apply And.intro|((first|apply intEq|apply boolEq|apply strEq|apply psEq|apply nilEq|apply arrEq);(try simp only [Int.toNat_natCast,etas,elDef]);first | done | omega | grind | (simp only [*]; done) | (simp [*]; done)))));(all_goals ((try simp only [Int.toNat_natCast,etas,elDef]);first | done | omega | grind | (simp only [*]; done) | (simp [*]; done))), (by exact sgOk_of (by rfl))⟩
      · rename_i _ h93 hks _ _ x q1 hq1 hxl hx _ h58 hq1l m1 m2 m3 m4 m5 q2 hq2 hr
        have hk0 : ks.length = 0 := by rw [hks]; rfl
        dsimp only at hq1 hx
        rw [show (q1 + 1).toNat = q1.toNat + 1 by omega] at hr
        have e1 := sl_next (ns := ns) (ks := ks) (hp93 h93) (sep_zero hk0) (sk_yes hx (tk_yes 58 (by decide) h58)) hr (by simp only [List.length_drop]; omega)
        exact ⟨(ns ++ [x], ks ++ [⟨m1, m2, m3, m4, m5⟩], q2, false), [(901, 44), (900, 53)], [], ⟨⟨by simp only; omega, by simp only; omega⟩, fun _ => ⟨by simp only [List.length_append, List.length_singleton]; omega, by simp only [List.length_append, List.length_singleton]; omega⟩, fun _ => he9.trans e1, fun h => (Bool.noConfusion h)⟩, by simp; omega, by iterate 2 ((all_goals (conv=>whnf));(repeat' (first|exact trivial|rfl|(refine nilEq ?_;first|rfl|(simp only [*];done)|(simp [*];done)|grind)|apply And.intro|((first|apply intEq|apply boolEq|apply strEq|apply psEq|apply nilEq|apply arrEq);(try simp only [Int.toNat_natCast,etas,elDef]);first | done | omega | grind | (simp only [*]; done) | (simp [*]; done)))));(all_goals ((try simp only [Int.toNat_natCast,etas,elDef]);first | done | omega | grind | (simp only [*]; done) | (simp [*]; done))), (by exact sgOk_of (by rfl))⟩
      · rename_i _ h93 hks _ _ x q1 hq1 hxl hx _ h58 hq1l hr m1 m2 m3 m4 m5 q2 hq2
        have hk0 : ks.length = 0 := by rw [hks]; rfl
        dsimp only at hq1 hx
        rw [show (q1 + 1).toNat = q1.toNat + 1 by omega] at hr
        have e1 := sl_no3 (ns := ns) (ks := ks) (hp93 h93) (sep_zero hk0) (sk_yes hx (tk_yes 58 (by decide) h58)) hr
        exact ⟨(ns ++ [x], ks ++ [⟨m1, m2, m3, m4, m5⟩], q2, true), [(901, 44), (900, 53)], [], ⟨⟨by simp only; omega, by simp only; omega⟩, fun h => (Bool.noConfusion h), fun h => (Bool.noConfusion h), fun _ => he9.trans e1⟩, by simp; omega, by iterate 2 ((all_goals (conv=>whnf));(repeat' (first|exact trivial|rfl|(refine nilEq ?_;first|rfl|(simp only [*];done)|(simp [*];done)|grind)|apply And.intro|((first|apply intEq|apply boolEq|apply strEq|apply psEq|apply nilEq|apply arrEq);(try simp only [Int.toNat_natCast,etas,elDef]);first | done | omega | grind | (simp only [*]; done) | (simp [*]; done)))));(all_goals ((try simp only [Int.toNat_natCast,etas,elDef]);first | done | omega | grind | (simp only [*]; done) | (simp [*]; done))), (by exact sgOk_of (by rfl))⟩
      · rename_i _ h93 hks _ _ x q1 hq1 hxl hx _ h58 m1 m2 m3 m4 m5 q2 hq2
        have hk0 : ks.length = 0 := by rw [hks]; rfl
        dsimp only at hq1 hx
        have e1 := sl_no2 (f := spN (d - 1).toNat) (ns := ns) (ks := ks) (hp93 h93) (sep_zero hk0) (sk_no2 hx (tk_no 58 h58))
        exact ⟨(ns ++ [x], ks ++ [⟨m1, m2, m3, m4, m5⟩], q2, true), [(901, 44), (900, 53)], [], ⟨⟨by simp only; omega, by simp only; omega⟩, fun h => (Bool.noConfusion h), fun h => (Bool.noConfusion h), fun _ => he9.trans e1⟩, by simp; omega, by iterate 2 ((all_goals (conv=>whnf));(repeat' (first|exact trivial|rfl|(refine nilEq ?_;first|rfl|(simp only [*];done)|(simp [*];done)|grind)|apply And.intro|((first|apply intEq|apply boolEq|apply strEq|apply psEq|apply nilEq|apply arrEq);(try simp only [Int.toNat_natCast,etas,elDef]);first | done | omega | grind | (simp only [*]; done) | (simp [*]; done)))));(all_goals ((try simp only [Int.toNat_natCast,etas,elDef]);first | done | omega | grind | (simp only [*]; done) | (simp [*]; done))), (by exact sgOk_of (by rfl))⟩
      · rename_i _ h93 hks _ _ hx x q1 hq1 hxl _ q3 hq3 m1 m2 m3 m4 m5 q2 hq2
        have hk0 : ks.length = 0 := by rw [hks]; rfl
        dsimp only at hq1 hx
        have e1 := sl_no2 (f := spN (d - 1).toNat) (ns := ns) (ks := ks) (hp93 h93) (sep_zero hk0) (sk_no1 hx)
        exact ⟨(ns ++ [x], ks ++ [⟨m1, m2, m3, m4, m5⟩], q2, true), [(901, 44), (900, 53)], [], ⟨⟨by simp only; omega, by simp only; omega⟩, fun h => (Bool.noConfusion h), fun h => (Bool.noConfusion h), fun _ => he9.trans e1⟩, by simp; omega, by iterate 2 ((all_goals (conv=>whnf));(repeat' (first|exact trivial|rfl|(refine nilEq ?_;first|rfl|(simp only [*];done)|(simp [*];done)|grind)|apply And.intro|((first|apply intEq|apply boolEq|apply strEq|apply psEq|apply nilEq|apply arrEq);(try simp only [Int.toNat_natCast,etas,elDef]);first | done | omega | grind | (simp only [*]; done) | (simp [*]; done)))));(all_goals ((try simp only [Int.toNat_natCast,etas,elDef]);first | done | omega | grind | (simp only [*]; done) | (simp [*]; done))), (by exact sgOk_of (by rfl))⟩
      · rename_i _ h93 h2 hlq
        exact hK1 _ _ _ _ _ (q + 1) ⟨by omega, by simp only at hlq; omega⟩ (by rw [n1q, sl_done (hp93y h93), List.drop_drop])
      · rename_i _ h93 h2
        exact absurd h93 h2
    · have hK3 := hK2 (hb2 rfl)
      conv => whnf
      repeat' first|((first|refine Cnd.mk (fun h=>?_) (fun h=>?_)|refine Gd.mk (fun h=>?_))<;>(try simp [etas,elDef,-List.getD_eq_getElem?_getD] at h)<;>conv=>whnf)|((first|refine Obl.mk (by first|omega|rfl|exact inK_byte _|(simp only [inK,Int.toNat_natCast,etas,elDef,m67,m35,m35]<;>first|omega|grind)|grind [inK,m67,m35,m35]) ?_|refine OblG.mk (by ((conv=>whnf);(repeat (first|refine Bx.mk ?_|(intro h;(try simp [etas,elDef,-List.getD_eq_getElem?_getD] at h);conv=>whnf)));(first|omega|rfl|exact inK_byte _|(simp only [inK,Int.toNat_natCast,etas,elDef,m67,m35,m35]<;>first|omega|grind)|grind [inK,m67,m35,m35]))) ?_|refine And.intro ?_ ?_)<;>conv=>whnf)|exact True.intro|(intro;conv=>whnf)
      all_goals exact hK3 _ _ _ _ _ _ ⟨by simp only at *; omega, by simp only at *; omega⟩
noncomputable def E35 (k : Nat) : Ctx := mkE tab [(65, .gen .ps C65), (66, .gen .ps C66), (67, .gen .ps (Ck67 k)), (68, .pure F68), (69, .gen .ps C69)]
noncomputable def O35 : Nat → List DI := ordL [(11, [.q 0, .q 1, .q 2, .q 3, .q 4, .q 5, .q 6, .q 7, .q 8, .q 9, .q 10, .q 11, .q 12, .q 13, .l 14 []])]
theorem a35 (k : Nat) (t : Bs) (p : Int) (b : Bool) (d : Int) (hm : m35 t p b d < k + 1) (hb : BdAs [.ref [.str t, .int .i64 p, .bool b], .int .i64 d]) (K : AV → List AV → Prop) (h : c35 t p b d K) : abody (E35 k) O35 .ps Tryd.f35 (Tryd.f35.body.getD .skip) [.ref [.str t, .int .i64 p, .bool b], .int .i64 d] K := by
  simp only [BdAs, BdA, BdL, BdC, MX, ndC, shC, itC, stC, opC, chC, nwC, flC, rqC, rsC, enc, List.cons_append, List.nil_append, and_true, true_and] at hb
  unfold c35 at h
  unfold m35 at hm
  obtain ⟨⟨hp, hd⟩, hK⟩ := h
  cases b
  · have hK1 := (hK.n rfl).1
    have hK2 := (hK.n rfl).2
    clear hK
    have hlt : ¬ ((t.getD p.toNat 0).toNat : Int) = 0 → p < t.length := fun h => by have := getD_ltI h; omega
    have e6 : ¬ d = 0 → d.toNat = (d - 1).toNat + 1 := fun _ => by omega
    have n1 : (p + 1).toNat = p.toNat + 1 := by omega
    conv => whnf
    repeat' first|((first|refine Cnd.mk (fun h=>?_) (fun h=>?_)|refine Gd.mk (fun h=>?_))<;>(try simp [etas,elDef,-List.getD_eq_getElem?_getD] at h)<;>conv=>whnf)|((first|refine Obl.mk (by first|omega|rfl|exact inK_byte _|(simp only [inK,Int.toNat_natCast,etas,elDef,m67,m35,m67]<;>first|omega|grind)|grind [inK,m67,m35,m67]) ?_|refine OblG.mk (by ((conv=>whnf);(repeat (first|refine Bx.mk ?_|(intro h;(try simp [etas,elDef,-List.getD_eq_getElem?_getD] at h);conv=>whnf)));(first|omega|rfl|exact inK_byte _|(simp only [inK,Int.toNat_natCast,etas,elDef,m67,m35,m67]<;>first|omega|grind)|grind [inK,m67,m35,m67]))) ?_|refine And.intro ?_ ?_)<;>conv=>whnf)|exact True.intro|(intro;conv=>whnf)
    · exact hK2 (by rw [h]; exact sn_no0) _ _ _ _ _ p ⟨by omega, by omega⟩
    · rename_i hd0 h34 x q hq hxl hr
      exact hK1 _ _ _ _ _ q hq (by rw [e6 hd0, sn_text h34, hr]; rfl)
    · rename_i hd0 h34 hr x q hq hxl
      exact hK2 (by rw [e6 hd0, sn_text h34, hr]; rfl) _ _ _ _ _ q hq
    · rename_i hd0 h34 m1 m2 m3 m4 m5 q hq hr
      rw [n1] at hr
      exact hK1 _ _ _ _ _ q hq (by rw [e6 hd0, sn_list h]; exact hr)
    · rename_i hd0 h34 hr m1 m2 m3 m4 m5 q hq
      rw [n1] at hr
      exact hK2 (by rw [e6 hd0, sn_list h]; exact hr) _ _ _ _ _ q hq
    · rename_i hd0 h34 h91 m1 m2 m3 m4 m5 q hq hr
      rw [n1] at hr
      exact hK1 _ _ _ _ _ q hq (by rw [e6 hd0, sn_map h]; exact hr)
    · rename_i hd0 h34 h91 hr m1 m2 m3 m4 m5 q hq
      rw [n1] at hr
      exact hK2 (by rw [e6 hd0, sn_map h]; exact hr) _ _ _ _ _ q hq
    · rename_i hd0 h34 h91 h123
      have hl := hlt (by omega)
      have e4 : t.drop (if (t.length : Int) < p + 4 then (t.length : Int) else p + 4).toNat = t.drop (p.toNat + 4) := by
        split
        · rw [List.drop_of_length_le (by omega), List.drop_of_length_le (by omega)]
        · rw [show (p + 4).toNat = p.toNat + 4 by omega]
      exact hK1 _ _ _ _ _ _ ⟨by split <;> omega, by split <;> omega⟩ (by rw [e6 hd0, sn_null h, e4])
    · rename_i hd0 h34 h91 h123 h110 h45 q hq hr
      exact hK1 _ _ _ _ _ q hq (by rw [e6 hd0, sn_num h, hr])
    · rename_i hd0 h34 h91 h123 h110 h45
      exact hK2 (sn_no h34 h91 h123 h110 ⟨h.1, fun e => by have := h.2 e.1; omega⟩) _ _ _ _ _ p ⟨by omega, by omega⟩
    · rename_i hd0 h34 h91 h123 h110 h45 q hq hr
      exact hK1 _ _ _ _ _ q hq (by rw [e6 hd0, sn_num (.inl h), hr])
    · rename_i h45
      exact absurd h45 h
  · have hK := hK.y rfl
    conv => whnf
    repeat' first|((first|refine Cnd.mk (fun h=>?_) (fun h=>?_)|refine Gd.mk (fun h=>?_))<;>(try simp [etas,elDef,-List.getD_eq_getElem?_getD] at h)<;>conv=>whnf)|((first|refine Obl.mk (by first|omega|rfl|exact inK_byte _|(simp only [inK,Int.toNat_natCast,etas,elDef,m67,m35,m67]<;>first|omega|grind)|grind [inK,m67,m35,m67]) ?_|refine OblG.mk (by ((conv=>whnf);(repeat (first|refine Bx.mk ?_|(intro h;(try simp [etas,elDef,-List.getD_eq_getElem?_getD] at h);conv=>whnf)));(first|omega|rfl|exact inK_byte _|(simp only [inK,Int.toNat_natCast,etas,elDef,m67,m35,m67]<;>first|omega|grind)|grind [inK,m67,m35,m67]))) ?_|refine And.intro ?_ ?_)<;>conv=>whnf)|exact True.intro|(intro;conv=>whnf)
    all_goals exact hK _ _ _ _ _ p ⟨by omega, by omega⟩
theorem r67_35 : ∀ k, (CtrOK Tryd.prog 67 (.gen .ps (Ck67 k)) ∧ Callable Tryd.prog 67) ∧ (CtrOK Tryd.prog 35 (.gen .ps (Ck35 k)) ∧ Callable Tryd.prog 35) := by
  intro k
  induction k with
  | zero =>
    exact ⟨⟨fun args K h => by
        unfold Ck67 at h; split at h
        · exact absurd h.o (Nat.not_lt_zero _)
        · exact h.elim, callable Tryd.func67 rfl (by rfl)⟩, ⟨fun args K h => by
        unfold Ck35 at h; split at h
        · exact absurd h.o (Nat.not_lt_zero _)
        · exact h.elim, callable Tryd.func35 rfl (by rfl)⟩⟩
  | succ k ih =>
    refine ⟨?_, ?_⟩
    · refine gen_ok (E := E67 k) (mkE_cons ih.2 (mkE_cons s65 (mkE_cons s66 (mkE_cons s83 (mkE_nil tab_ok))))) mix (O := O67) (C := (Ck67 (k + 1))) (own := .ps) Tryd.func67 rfl (by rfl) (by kernel_rfl) (fun args K h hbd => ?_)
      unfold Ck67 at h; split at h
      case h_2 => exact h.elim
      exact ⟨Nat.le_of_ble_eq_true rfl, a67 k _ _ _ _ _ _ _ _ _ h.o (by exact hbd) _ h.k⟩
    · refine gen_ok (E := E35 k) (mkE_cons s65 (mkE_cons s66 (mkE_cons ih.1 (mkE_cons s68 (mkE_cons s69 (mkE_nil tab_ok)))))) mix (O := O35) (C := (Ck35 (k + 1))) (own := .ps) Tryd.func35 rfl (by rfl) (by kernel_rfl) (fun args K h hbd => ?_)
      unfold Ck35 at h; split at h
      case h_2 => exact h.elim
      exact ⟨Nat.le_of_ble_eq_true rfl, a35 k _ _ _ _ h.o (by exact hbd) _ h.k⟩
theorem s35 : (CtrOK Tryd.prog 35 (.gen .ps C35) ∧ Callable Tryd.prog 35) := by
  refine ⟨fun args K h => ?_, (r67_35 0).2.2⟩
  unfold C35 at h; split at h
  · exact (r67_35 (m35 _ _ _ _ + 1)).2.1 _ K ⟨Nat.lt_succ_self _, h⟩
  · exact h.elim
end Go.Rs

