import Derived.Test.YtmliigdhlnanlaaDoorCK
set_option linter.all false
set_option linter.unusedSimpArgs false
set_option linter.unusedVariables false
namespace Go.Rs
open Go.Proofs
set_option maxRecDepth 100000
noncomputable def c74 (code : List Int) (p : Int) (d : Int) (K : AV → List AV → Prop) : Prop :=
    Obl ((0 ≤ p ∧ p + costN d ≤ 100000000) ∧ byOk code ∧ 0 ≤ d ∧ d ≤ 3) (∀ (n1 n2 : Int) (n3 : Bs) (n4 : List Bs) (n5 : List Nd) (p' : Int), smN ⟨n1, n2, n3, n4, n5⟩ → p ≤ p' ∧ p' ≤ p + costN d → K (.st [.int .i64 n1, .int .i64 n2, .str n3, .own .str n4, .own .node n5]) [.ref [.ps .u8 code, .int .i64 p']])
noncomputable def m74 (code : List Int) (p : Int) (d : Int) : Nat := (2 * d + 1).toNat
noncomputable def C74 : List AV → (AV → List AV → Prop) → Prop
  | [.ref [.ps .u8 code, .int .i64 p], .int .i64 d], K => c74 code p d K
  | _, _ => False
noncomputable def Ck74 (k : Nat) : List AV → (AV → List AV → Prop) → Prop
  | [.ref [.ps .u8 code, .int .i64 p], .int .i64 d], K => Obl (m74 code p d < k) (c74 code p d K)
  | _, _ => False
noncomputable def c75 (code : List Int) (p : Int) (d : Int) (K : AV → List AV → Prop) : Prop :=
    Obl ((0 ≤ p ∧ p + costR d ≤ 100000000) ∧ byOk code ∧ 1 ≤ d ∧ d ≤ 3) (∀ (n1 n2 : Int) (n3 : Bs) (n4 : List Bs) (n5 : List Nd) (p' : Int), smN ⟨n1, n2, n3, n4, n5⟩ → p ≤ p' ∧ p' ≤ p + costR d → K (.st [.int .i64 n1, .int .i64 n2, .str n3, .own .str n4, .own .node n5]) [.ref [.ps .u8 code, .int .i64 p']])
noncomputable def m75 (code : List Int) (p : Int) (d : Int) : Nat := (2 * d).toNat
noncomputable def C75 : List AV → (AV → List AV → Prop) → Prop
  | [.ref [.ps .u8 code, .int .i64 p], .int .i64 d], K => c75 code p d K
  | _, _ => False
noncomputable def Ck75 (k : Nat) : List AV → (AV → List AV → Prop) → Prop
  | [.ref [.ps .u8 code, .int .i64 p], .int .i64 d], K => Obl (m75 code p d < k) (c75 code p d K)
  | _, _ => False
noncomputable def E74 (k : Nat) : Ctx := mkE tab [(33, .gen .ps C33), (50, .gen .ps C50), (74, .gen .ow (Ck74 k)), (75, .gen .ow (Ck75 k)), (88, .gen .ps C88)]
noncomputable def O74 : Nat → List DI := ordL []
theorem a74 (k : Nat) (code : List Int) (p : Int) (d : Int) (hm : m74 code p d < k + 1) (hb : BdAs [.ref [.ps .u8 code, .int .i64 p], .int .i64 d]) (K : AV → List AV → Prop) (h : c74 code p d K) : abody (E74 k) O74 .ow Tryd.f74 (Tryd.f74.body.getD .skip) [.ref [.ps .u8 code, .int .i64 p], .int .i64 d] K := by
  simp only [BdAs, BdA, BdL, BdC, MX, ndC, shC, itC, stC, opC, chC, nwC, flC, rqC, rsC, enc, List.cons_append, List.nil_append, and_true, true_and] at hb
  unfold c74 at h
  unfold m74 at hm
  obtain ⟨⟨hp, ho, hd⟩, hK⟩ := h
  obtain ⟨hc1, hc2, hc3, hc4, hc5, hc6⟩ := cost_facts d
  have hc7 := (cost_facts (d - 1)).2.2
  conv => whnf
  repeat' first|((first|refine Cnd.mk (fun h=>?_) (fun h=>?_)|refine Gd.mk (fun h=>?_))<;>(try simp [etas,elDef,-List.getD_eq_getElem?_getD] at h)<;>conv=>whnf)|((first|refine Obl.mk (by first|omega|rfl|exact inK_byte _|(simp only [inK,Int.toNat_natCast,etas,elDef,m74,m75,m74,m75]<;>first|omega|grind)|grind [inK,m74,m75,m74,m75]) ?_|refine OblG.mk (by ((conv=>whnf);(repeat (first|refine Bx.mk ?_|(intro h;(try simp [etas,elDef,-List.getD_eq_getElem?_getD] at h);conv=>whnf)));(first|omega|rfl|exact inK_byte _|(simp only [inK,Int.toNat_natCast,etas,elDef,m74,m75,m74,m75]<;>first|omega|grind)|grind [inK,m74,m75,m74,m75]))) ?_|refine And.intro ?_ ?_)<;>conv=>whnf)|exact True.intro|(intro;conv=>whnf)
  · exact hK _ _ _ _ _ _ (smN_leaf (by simp)) (by omega)
  · exact hK _ _ _ _ _ _ (smN_leaf (by omega)) (by omega)
  · exfalso; omega
  · exfalso; omega
  · exact hK _ _ _ _ _ _ (smN_leaf (by simp)) (by omega)
  · exact hK _ _ _ _ _ _ (smN_leaf (by simp)) (by omega)
  · exact hK _ _ _ _ _ _ (smN_leaf (by omega)) (by omega)
  · rename_i r hr
    have hr3 := mul_le_c (c := r) (T := costN (d - 1)) (k := 3) (by omega) (by omega)
    refine aloop_intro (Int × Int × List Nd) (fun ⟨c, q, l⟩ => (0 ≤ c ∧ c ≤ 3 ∧ l.length + c ≤ 3) ∧ (∀ x ∈ l, smN x) ∧ p ≤ q ∧ q + c * costN (d - 1) ≤ p + 2 + 3 * costN (d - 1)) (fun ⟨c, q, l⟩ => c.toNat) (fun ⟨c, q, l⟩ => [(7, .int .i64 c), (6, .ls 900)]) (fun ⟨c, q, l⟩ => [(900, .arr .node l), (1000000, .box [.ps .u8 code, .int .i64 q])]) [4] (r, p + 2, []) [(900, 32)] [] ?_ ?_ (by exact sgOk_of (by rfl)) ?_
    · first | (simp; done) | (simp; assumption) | (simp only; grind)
    · iterate 2 ((all_goals (conv=>whnf));(repeat' (first|exact trivial|rfl|(refine nilEq ?_;first|rfl|(simp only [*];done)|(simp [*];done)|grind)|apply And.intro|((first|apply intEq|apply boolEq|apply strEq|apply psEq|apply nilEq|apply arrEq);(try simp only [Int.toNat_natCast,etas,elDef]);first | done | omega | grind | (simp only [*]; done) | (simp [*]; done)))));(all_goals ((try simp only [Int.toNat_natCast,etas,elDef]);first | done | omega | grind | (simp only [*]; done) | (simp [*]; done)))
    rintro ⟨c, q, l⟩ hinv
    dsimp only at hinv
    conv => whnf
    obtain ⟨hi1, hi2, hi3, hi4⟩ := hinv
    have hs := mul_step c (costN (d - 1))
    have hn := mul_nn (c := c) (T := costN (d - 1)) (by omega) (by omega)
    repeat' first|((first|refine Cnd.mk (fun h=>?_) (fun h=>?_)|refine Gd.mk (fun h=>?_))<;>(try simp [etas,elDef,-List.getD_eq_getElem?_getD] at h)<;>conv=>whnf)|((first|refine Obl.mk (by first|omega|rfl|exact inK_byte _|(simp only [inK,Int.toNat_natCast,etas,elDef,m74,m75,m74,m75]<;>first|omega|grind)|grind [inK,m74,m75,m74,m75]) ?_|refine OblG.mk (by ((conv=>whnf);(repeat (first|refine Bx.mk ?_|(intro h;(try simp [etas,elDef,-List.getD_eq_getElem?_getD] at h);conv=>whnf)));(first|omega|rfl|exact inK_byte _|(simp only [inK,Int.toNat_natCast,etas,elDef,m74,m75,m74,m75]<;>first|omega|grind)|grind [inK,m74,m75,m74,m75]))) ?_|refine And.intro ?_ ?_)<;>conv=>whnf)|exact True.intro|(intro;conv=>whnf)
    · rename_i m1 m2 m3 m4 m5 q' hsm hq
      exact ⟨(c - 1, q', l ++ [⟨m1, m2, m3, m4, m5⟩]), [(900, 45)], [], ⟨by simp; omega, by simp; intro x hx; rcases hx with hx | rfl; exact hi2 x hx; exact hsm, by omega, by omega⟩, by simp only; omega, by iterate 2 ((all_goals (conv=>whnf));(repeat' (first|exact trivial|rfl|(refine nilEq ?_;first|rfl|(simp only [*];done)|(simp [*];done)|grind)|apply And.intro|((first|apply intEq|apply boolEq|apply strEq|apply psEq|apply nilEq|apply arrEq);(try simp only [Int.toNat_natCast,etas,elDef]);first | done | omega | grind | (simp only [*]; done) | (simp [*]; done)))));(all_goals ((try simp only [Int.toNat_natCast,etas,elDef]);first | done | omega | grind | (simp only [*]; done) | (simp [*]; done))), (by exact sgOk_of (by rfl))⟩
    · exact hK _ _ _ _ _ _ (smN_mk (by simp) (by simp) (by omega) hi2) (by omega)
  · rename_i hsm hq
    exact hK _ _ _ _ _ _ hsm (by omega)
  · exact hK _ _ _ _ _ _ (smN_leaf (by simp)) (by omega)
noncomputable def E75 (k : Nat) : Ctx := mkE tab [(50, .gen .ps C50), (74, .gen .ow (Ck74 k)), (89, .gen .ps C89), (90, .pure F90), (91, .gen .ow C91)]
noncomputable def O75 : Nat → List DI := ordL []
theorem a75 (k : Nat) (code : List Int) (p : Int) (d : Int) (hm : m75 code p d < k + 1) (hb : BdAs [.ref [.ps .u8 code, .int .i64 p], .int .i64 d]) (K : AV → List AV → Prop) (h : c75 code p d K) : abody (E75 k) O75 .ow Tryd.f75 (Tryd.f75.body.getD .skip) [.ref [.ps .u8 code, .int .i64 p], .int .i64 d] K := by
  simp only [BdAs, BdA, BdL, BdC, MX, ndC, shC, itC, stC, opC, chC, nwC, flC, rqC, rsC, enc, List.cons_append, List.nil_append, and_true, true_and] at hb
  unfold c75 at h
  unfold m75 at hm
  obtain ⟨⟨hp, ho, hd⟩, hK⟩ := h
  obtain ⟨hc1, hc2, hc3, hc4, hc5, hc6⟩ := cost_facts d
  have hc7 := (cost_facts (d - 1)).2.2
  conv => whnf
  repeat' first|((first|refine Cnd.mk (fun h=>?_) (fun h=>?_)|refine Gd.mk (fun h=>?_))<;>(try simp [etas,elDef,-List.getD_eq_getElem?_getD] at h)<;>conv=>whnf)|((first|refine Obl.mk (by first|omega|rfl|exact inK_byte _|(simp only [inK,Int.toNat_natCast,etas,elDef,m74,m75,m74,o90]<;>first|omega|grind)|grind [inK,m74,m75,m74,o90]) ?_|refine OblG.mk (by ((conv=>whnf);(repeat (first|refine Bx.mk ?_|(intro h;(try simp [etas,elDef,-List.getD_eq_getElem?_getD] at h);conv=>whnf)));(first|omega|rfl|exact inK_byte _|(simp only [inK,Int.toNat_natCast,etas,elDef,m74,m75,m74,o90]<;>first|omega|grind)|grind [inK,m74,m75,m74,o90]))) ?_|refine And.intro ?_ ?_)<;>conv=>whnf)|exact True.intro|(intro;conv=>whnf)
  rename_i r hr
  have hr0 : 0 ≤ r ∧ r ≤ 4 := by simp at hr; omega
  have hr3 := mul_le_c (c := r) (T := costN (d - 1) + 1) (k := 4) (by omega) (by omega)
  have hm0 : mapOk ⟨4, 0, [], [], []⟩ r := ⟨rfl, fun _ => rfl, smN_leaf (by simp), by simp; omega, by omega⟩
  refine aloop_intro (Int × Int × Nd) (fun ⟨c, q, m⟩ => mapOk m c ∧ p ≤ q ∧ q + c * (costN (d - 1) + 1) ≤ p + 1 + 4 * (costN (d - 1) + 1)) (fun ⟨c, q, m⟩ => c.toNat) (fun ⟨c, q, m⟩ => [(6, .int .i64 c)]) (fun ⟨c, q, m⟩ => [(5, .box [.int .i64 m.kind, .int .i64 m.num, .str m.text, .ls 901, .ls 902]), (901, .arr .str m.names), (902, .arr .node m.kids), (1000000, .box [.ps .u8 code, .int .i64 q])]) [4] (r, p + 1, ⟨4, 0, [], [], []⟩) [(901, 9), (902, 10)] [] ?_ ?_ (by exact sgOk_of (by rfl)) ?_
  · first | (simp; done) | (simp; assumption) | (simp only; grind)
  · iterate 2 ((all_goals (conv=>whnf));(repeat' (first|exact trivial|rfl|(refine nilEq ?_;first|rfl|(simp only [*];done)|(simp [*];done)|grind)|apply And.intro|((first|apply intEq|apply boolEq|apply strEq|apply psEq|apply nilEq|apply arrEq);(try simp only [Int.toNat_natCast,etas,elDef]);first | done | omega | grind | (simp only [*]; done) | (simp [*]; done)))));(all_goals ((try simp only [Int.toNat_natCast,etas,elDef]);first | done | omega | grind | (simp only [*]; done) | (simp [*]; done)))
  rintro ⟨c, q, m⟩ hinv
  dsimp only at hinv
  conv => whnf
  obtain ⟨hi1, hi2, hi3⟩ := hinv
  have hs := mul_step c (costN (d - 1) + 1)
  have hn := mul_nn (c := c) (T := costN (d - 1) + 1) hi1.2.2.2.2 (by omega)
  have hn2 : 0 < c → 0 ≤ (c - 1) * (costN (d - 1) + 1) := fun h => mul_nn (by omega) (by omega)
  have hmk := hi1.1
  have hme : m.kind = 4 → m.names.length = m.kids.length := hi1.2.1
  have hml := hi1.2.2.2
  have hms := smN_eta hi1.2.2.1
  have hevm : evenN ⟨m.kind, m.num, m.text, m.names, m.kids⟩ := hi1.2.1
  repeat' first|((first|refine Cnd.mk (fun h=>?_) (fun h=>?_)|refine Gd.mk (fun h=>?_))<;>(try simp [etas,elDef,-List.getD_eq_getElem?_getD] at h)<;>conv=>whnf)|((first|refine Obl.mk (by first|omega|rfl|exact inK_byte _|(simp only [inK,Int.toNat_natCast,etas,elDef,m74,m75,m74,o90]<;>first|omega|grind)|grind [inK,m74,m75,m74,o90]) ?_|refine OblG.mk (by ((conv=>whnf);(repeat (first|refine Bx.mk ?_|(intro h;(try simp [etas,elDef,-List.getD_eq_getElem?_getD] at h);conv=>whnf)));(first|omega|rfl|exact inK_byte _|(simp only [inK,Int.toNat_natCast,etas,elDef,m74,m75,m74,o90]<;>first|omega|grind)|grind [inK,m74,m75,m74,o90]))) ?_|refine And.intro ?_ ?_)<;>conv=>whnf)|exact True.intro|(intro;conv=>whnf)
  · rename_i b hb9 x1 x2 x3 x4 x5 q' hx hq
    have hpl : placeM ⟨m.kind, m.num, m.text, m.names, m.kids⟩ b < 0 := by simpa only [nd_eta] using h
    have hadd := hi1.add (by omega) hx (b := b) h
    rw [← nd_eta m] at hadd
    refine Obl.mk ⟨⟨hms, hx⟩, by omega, by have := hme hmk; omega, hevm, hpl⟩ ?_
    conv => whnf
    repeat' first|((first|refine Cnd.mk (fun h=>?_) (fun h=>?_)|refine Gd.mk (fun h=>?_))<;>(try simp [etas,elDef,-List.getD_eq_getElem?_getD] at h)<;>conv=>whnf)|((first|refine Obl.mk (by first|omega|rfl|exact inK_byte _|(simp only [inK,Int.toNat_natCast,etas,elDef,m74,m75,m74,o90]<;>first|omega|grind)|grind [inK,m74,m75,m74,o90]) ?_|refine OblG.mk (by ((conv=>whnf);(repeat (first|refine Bx.mk ?_|(intro h;(try simp [etas,elDef,-List.getD_eq_getElem?_getD] at h);conv=>whnf)));(first|omega|rfl|exact inK_byte _|(simp only [inK,Int.toNat_natCast,etas,elDef,m74,m75,m74,o90]<;>first|omega|grind)|grind [inK,m74,m75,m74,o90]))) ?_|refine And.intro ?_ ?_)<;>conv=>whnf)|exact True.intro|(intro;conv=>whnf)
    exact ⟨(c - 1, q', (addHereM ⟨m.kind, m.num, m.text, m.names, m.kids⟩ b ⟨x1, x2, x3, x4, x5⟩).getD default), [(901, 34000), (902, 34001)], [], ⟨hadd, by omega, by omega⟩, by simp only; omega, by iterate 2 ((all_goals (conv=>whnf));(repeat' (first|exact trivial|rfl|(refine nilEq ?_;first|rfl|(simp only [*];done)|(simp [*];done)|grind)|apply And.intro|((first|apply intEq|apply boolEq|apply strEq|apply psEq|apply nilEq|apply arrEq);(try simp only [Int.toNat_natCast,etas,elDef]);first | done | omega | grind | (simp only [*]; done) | (simp [*]; done)))));(all_goals ((try simp only [Int.toNat_natCast,etas,elDef]);first | done | omega | grind | (simp only [*]; done) | (simp [*]; done))), (by exact sgOk_of (by rfl))⟩
  · rename_i b hb9 x1 x2 x3 x4 x5 q' hx hq
    exact ⟨(c - 1, q', m), [], [], ⟨hi1.stay (by omega), by omega, by omega⟩, by simp only; omega, by iterate 2 ((all_goals (conv=>whnf));(repeat' (first|exact trivial|rfl|(refine nilEq ?_;first|rfl|(simp only [*];done)|(simp [*];done)|grind)|apply And.intro|((first|apply intEq|apply boolEq|apply strEq|apply psEq|apply nilEq|apply arrEq);(try simp only [Int.toNat_natCast,etas,elDef]);first | done | omega | grind | (simp only [*]; done) | (simp [*]; done)))));(all_goals ((try simp only [Int.toNat_natCast,etas,elDef]);first | done | omega | grind | (simp only [*]; done) | (simp [*]; done))), (by exact sgOk_of (by rfl))⟩
  · exact hK _ _ _ _ _ _ hms (by omega)
theorem r74_75 : ∀ k, (CtrOK Tryd.prog 74 (.gen .ow (Ck74 k)) ∧ Callable Tryd.prog 74) ∧ (CtrOK Tryd.prog 75 (.gen .ow (Ck75 k)) ∧ Callable Tryd.prog 75) := by
  intro k
  induction k with
  | zero =>
    exact ⟨⟨fun args K h => by
        unfold Ck74 at h; split at h
        · exact absurd h.o (Nat.not_lt_zero _)
        · exact h.elim, callable Tryd.func74 rfl (by rfl)⟩, ⟨fun args K h => by
        unfold Ck75 at h; split at h
        · exact absurd h.o (Nat.not_lt_zero _)
        · exact h.elim, callable Tryd.func75 rfl (by rfl)⟩⟩
  | succ k ih =>
    refine ⟨?_, ?_⟩
    · refine gen_ok (E := E74 k) (mkE_cons s33 (mkE_cons s50 (mkE_cons ih.1 (mkE_cons ih.2 (mkE_cons s88 (mkE_nil tab_ok)))))) mix (O := O74) (C := (Ck74 (k + 1))) (own := .ow) Tryd.func74 rfl (by rfl) (by kernel_rfl) (fun args K h hbd => ?_)
      unfold Ck74 at h; split at h
      case h_2 => exact h.elim
      exact ⟨Nat.le_of_ble_eq_true rfl, a74 k _ _ _ h.o (by exact hbd) _ h.k⟩
    · refine gen_ok (E := E75 k) (mkE_cons s50 (mkE_cons ih.1 (mkE_cons s89 (mkE_cons s90 (mkE_cons s91 (mkE_nil tab_ok)))))) mix (O := O75) (C := (Ck75 (k + 1))) (own := .ow) Tryd.func75 rfl (by rfl) (by kernel_rfl) (fun args K h hbd => ?_)
      unfold Ck75 at h; split at h
      case h_2 => exact h.elim
      exact ⟨Nat.le_of_ble_eq_true rfl, a75 k _ _ _ h.o (by exact hbd) _ h.k⟩
theorem s74 : (CtrOK Tryd.prog 74 (.gen .ow C74) ∧ Callable Tryd.prog 74) := by
  refine ⟨fun args K h => ?_, (r74_75 0).1.2⟩
  unfold C74 at h; split at h
  · exact (r74_75 (m74 _ _ _ + 1)).1.1 _ K ⟨Nat.lt_succ_self _, h⟩
  · exact h.elim
theorem s75 : (CtrOK Tryd.prog 75 (.gen .ow C75) ∧ Callable Tryd.prog 75) := by
  refine ⟨fun args K h => ?_, (r74_75 0).2.2⟩
  unfold C75 at h; split at h
  · exact (r74_75 (m75 _ _ _ + 1)).2.1 _ K ⟨Nat.lt_succ_self _, h⟩
  · exact h.elim
noncomputable def c49 (code : List Int) (p : Int) (K : AV → List AV → Prop) : Prop :=
    Obl ((0 ≤ p ∧ p ≤ 10000000) ∧ byOk code) (∀ (n1 n2 : Int) (n3 : Bs) (n4 : List Bs) (n5 : List Nd) (p' : Int), smN ⟨n1, n2, n3, n4, n5⟩ ∧ n4.length ≤ 1000 → p ≤ p' ∧ p' ≤ p + 2000 → K (.st [.int .i64 n1, .int .i64 n2, .str n3, .own .str n4, .own .node n5]) [.ref [.ps .u8 code, .int .i64 p']])
noncomputable def C49 : List AV → (AV → List AV → Prop) → Prop
  | [.ref [.ps .u8 code, .int .i64 p]], K => c49 code p K
  | _, _ => False
noncomputable def E49 : Ctx := mkE tab [(27, .pure F27), (33, .gen .ps C33), (74, .gen .ow C74), (75, .gen .ow C75)]
noncomputable def O49 : Nat → List DI := ordL []
theorem a49 (code : List Int) (p : Int) (hb : BdAs [.ref [.ps .u8 code, .int .i64 p]]) (K : AV → List AV → Prop) (h : c49 code p K) : abody E49 O49 .ow Tryd.f49 (Tryd.f49.body.getD .skip) [.ref [.ps .u8 code, .int .i64 p]] K := by
  simp only [BdAs, BdA, BdL, BdC, MX, ndC, shC, itC, stC, opC, chC, nwC, flC, rqC, rsC, enc, List.cons_append, List.nil_append, and_true, true_and] at hb
  unfold c49 at h
  obtain ⟨⟨hp, ho⟩, hK⟩ := h
  have hc := (cost_facts 3).2.2
  have hv : ∀ {n1 n2 : Int} {n3 : Bs} {n4 : List Bs} {n5 : List Nd}, validM ⟨n1, n2, n3, n4, n5⟩ = true → smN ⟨n1, n2, n3, n4, n5⟩ ∧ n4.length ≤ 1000 := fun h => ⟨validM_sm h, by have := (okN_names (validM_ok h)).1; simp only at this; omega⟩
  conv => whnf
  repeat' first|((first|refine Cnd.mk (fun h=>?_) (fun h=>?_)|refine Gd.mk (fun h=>?_))<;>(try simp [etas,elDef,-List.getD_eq_getElem?_getD] at h)<;>conv=>whnf)|((first|refine Obl.mk (by first|omega|rfl|exact inK_byte _|(simp only [inK,Int.toNat_natCast,etas,elDef,m74,m75]<;>first|omega|grind)|grind [inK,m74,m75]) ?_|refine OblG.mk (by ((conv=>whnf);(repeat (first|refine Bx.mk ?_|(intro h;(try simp [etas,elDef,-List.getD_eq_getElem?_getD] at h);conv=>whnf)));(first|omega|rfl|exact inK_byte _|(simp only [inK,Int.toNat_natCast,etas,elDef,m74,m75]<;>first|omega|grind)|grind [inK,m74,m75]))) ?_|refine And.intro ?_ ?_)<;>conv=>whnf)|exact True.intro|(intro;conv=>whnf)
  · exact hK _ _ _ _ _ _ ⟨smN_leaf (by simp), by simp⟩ (by omega)
  · exact hK _ _ _ _ _ _ (hv h) (by omega)
  · exact hK _ _ _ _ _ _ ⟨smN_leaf (by simp), by simp⟩ (by omega)
  · exact hK _ _ _ _ _ _ (hv h) (by omega)
theorem s49 : (CtrOK Tryd.prog 49 (.gen .ow C49) ∧ Callable Tryd.prog 49) := by
  refine gen_ok (E := E49) (mkE_cons s27 (mkE_cons s33 (mkE_cons s74 (mkE_cons s75 (mkE_nil tab_ok))))) mix (O := O49) (C := C49) (own := .ow) Tryd.func49 rfl (by rfl) (by kernel_rfl) (fun args K h hbd => ?_)
  unfold C49 at h; split at h
  case h_2 => exact h.elim
  exact ⟨Nat.le_of_ble_eq_true rfl, a49 _ _ (by exact hbd) _ h⟩
noncomputable def c23 (code : List Int) (p : Int) (K : AV → List AV → Prop) : Prop :=
    Obl ((0 ≤ p ∧ p ≤ 10000000) ∧ byOk code) (∀ (n : Nd) (p' : Int), smN n → p ≤ p' ∧ p' ≤ p + 2100 → K (.st (ndC n)) [.ref [.ps .u8 code, .int .i64 p']])
noncomputable def C23 : List AV → (AV → List AV → Prop) → Prop
  | [.ref [.ps .u8 code, .int .i64 p]], K => c23 code p K
  | _, _ => False
noncomputable def E23 : Ctx := mkE tab [(33, .gen .ps C33), (49, .gen .ow C49), (50, .gen .ps C50), (51, .gen .ps C51)]
noncomputable def O23 : Nat → List DI := ordL []
theorem a23 (code : List Int) (p : Int) (hb : BdAs [.ref [.ps .u8 code, .int .i64 p]]) (K : AV → List AV → Prop) (h : c23 code p K) : abody E23 O23 .ps Tryd.f23 (Tryd.f23.body.getD .skip) [.ref [.ps .u8 code, .int .i64 p]] K := by
  simp only [BdAs, BdA, BdL, BdC, MX, ndC, shC, itC, stC, opC, chC, nwC, flC, rqC, rsC, enc, List.cons_append, List.nil_append, and_true, true_and] at hb
  unfold c23 at h
  obtain ⟨⟨hp, ho⟩, hK⟩ := h
  conv => whnf
  repeat' first|((first|refine Cnd.mk (fun h=>?_) (fun h=>?_)|refine Gd.mk (fun h=>?_))<;>(try simp [etas,elDef,-List.getD_eq_getElem?_getD] at h)<;>conv=>whnf)|((first|refine Obl.mk (by first|omega|rfl|exact inK_byte _|(simp only [inK,Int.toNat_natCast,etas,elDef,m51]<;>first|omega|grind)|grind [inK,m51]) ?_|refine OblG.mk (by ((conv=>whnf);(repeat (first|refine Bx.mk ?_|(intro h;(try simp [etas,elDef,-List.getD_eq_getElem?_getD] at h);conv=>whnf)));(first|omega|rfl|exact inK_byte _|(simp only [inK,Int.toNat_natCast,etas,elDef,m51]<;>first|omega|grind)|grind [inK,m51]))) ?_|refine And.intro ?_ ?_)<;>conv=>whnf)|exact True.intro|(intro;conv=>whnf)
  · rename_i hs hq r1 h1 r2 h2
    exact hK ⟨_, _, _, _, _⟩ _ (smN_ch hs.1 hs.1.text hs.1.names) (by omega)
  · rename_i hs hq r1 h1 _ r2 h2
    exact hK ⟨_, _, _, _, _⟩ _ (smN_ch hs.1 hs.1.text hs.1.names) (by omega)
  · rename_i hs hq r1 h1 _ _
    exact hK ⟨_, _, _, _, _⟩ _ (smN_ch hs.1 (by simp) hs.1.names) (by omega)
  · rename_i hs hq r1 h1 _ _ _
    exact hK ⟨_, _, _, _, _⟩ _ (smN_ch hs.1 hs.1.text (by simp; omega)) (by omega)
  · rename_i hs hq r1 h1 _ _ _ _
    exact hK ⟨_, _, _, _, _⟩ _ (smN_one (smN_one (smN_one (smN_one hs.1)))) (by omega)
  · rename_i n1 n2 n3 n4 n5 p' hs hq r1 h1 _ _ _ _ _
    have hb0 := hs.1
    refine aloop_intro (Int × Int × List Nd) (fun ⟨c, q, l⟩ => (0 ≤ c ∧ c ≤ 7 ∧ l.length = c) ∧ (∀ x ∈ l, smN x) ∧ p' + 1 ≤ q ∧ q ≤ p' + 1 + c) (fun ⟨c, q, l⟩ => (7 - c).toNat) (fun ⟨c, q, l⟩ => [(5, .int .i64 c), (4, .ls 900)]) (fun ⟨c, q, l⟩ => [(900, .arr .node l), (3, .box (ndC ⟨n1, n2, n3, n4, n5⟩)), (1000000, .box [.ps .u8 code, .int .i64 q])]) [2] (0, p' + 1, []) [(900, 45)] [8000, 8001] ?_ ?_ (by exact sgOk_of (by rfl)) ?_
    · first | (simp; done) | (simp; assumption) | (simp only; grind)
    · iterate 2 ((all_goals (conv=>whnf));(repeat' (first|exact trivial|rfl|(refine nilEq ?_;first|rfl|(simp only [*];done)|(simp [*];done)|grind)|apply And.intro|((first|apply intEq|apply boolEq|apply strEq|apply psEq|apply nilEq|apply arrEq);(try simp only [Int.toNat_natCast,etas,elDef]);first | done | omega | grind | (simp only [*]; done) | (simp [*]; done)))));(all_goals ((try simp only [Int.toNat_natCast,etas,elDef]);first | done | omega | grind | (simp only [*]; done) | (simp [*]; done)))
    rintro ⟨c, q, l⟩ hinv
    dsimp only at hinv
    conv => whnf
    obtain ⟨hi1, hi2, hi3⟩ := hinv
    repeat' first|((first|refine Cnd.mk (fun h=>?_) (fun h=>?_)|refine Gd.mk (fun h=>?_))<;>(try simp [etas,elDef,-List.getD_eq_getElem?_getD] at h)<;>conv=>whnf)|((first|refine Obl.mk (by first|omega|rfl|exact inK_byte _|(simp only [inK,Int.toNat_natCast,etas,elDef,m51]<;>first|omega|grind)|grind [inK,m51]) ?_|refine OblG.mk (by ((conv=>whnf);(repeat (first|refine Bx.mk ?_|(intro h;(try simp [etas,elDef,-List.getD_eq_getElem?_getD] at h);conv=>whnf)));(first|omega|rfl|exact inK_byte _|(simp only [inK,Int.toNat_natCast,etas,elDef,m51]<;>first|omega|grind)|grind [inK,m51]))) ?_|refine And.intro ?_ ?_)<;>conv=>whnf)|exact True.intro|(intro;conv=>whnf)
    · exact ⟨(c + 1, q + 1, l ++ [⟨n1, n2, n3, n4, n5⟩]), [(900, 57)], [], ⟨by simp; omega, smN_snoc hi2 hs.1, by omega⟩, by simp only; omega, by iterate 2 ((all_goals (conv=>whnf));(repeat' (first|exact trivial|rfl|(refine nilEq ?_;first|rfl|(simp only [*];done)|(simp [*];done)|grind)|apply And.intro|((first|apply intEq|apply boolEq|apply strEq|apply psEq|apply nilEq|apply arrEq);(try simp only [Int.toNat_natCast,etas,elDef]);first | done | omega | grind | (simp only [*]; done) | (simp [*]; done)))));(all_goals ((try simp only [Int.toNat_natCast,etas,elDef]);first | done | omega | grind | (simp only [*]; done) | (simp [*]; done))), (by exact sgOk_of (by rfl))⟩
    · exact hK ⟨_, _, _, _, _⟩ _ (smN_mk (by simp) (by simp) (by omega) hi2) (by omega)
  · rename_i hs hq r1 h1 _ _ _ _ _
    exact hK ⟨_, _, _, _, _⟩ _ hs.1 (by omega)
theorem s23 : (CtrOK Tryd.prog 23 (.gen .ps C23) ∧ Callable Tryd.prog 23) := by
  refine gen_ok (E := E23) (mkE_cons s33 (mkE_cons s49 (mkE_cons s50 (mkE_cons s51 (mkE_nil tab_ok))))) mix (O := O23) (C := C23) (own := .ps) Tryd.func23 rfl (by rfl) (by kernel_rfl) (fun args K h hbd => ?_)
  unfold C23 at h; split at h
  case h_2 => exact h.elim
  exact ⟨Nat.le_of_ble_eq_true rfl, a23 _ _ (by exact hbd) _ h⟩
end Go.Rs

