import Derived.Test.YtoailaifflbomaaCP
import Derived.Test.YtoailaifflbomaaMG
set_option linter.all false
set_option linter.unusedSimpArgs false
set_option linter.unusedVariables false
namespace Go.Rs
open Go.Proofs
set_option maxRecDepth 100000
noncomputable def c135 (l : List Bs) (a : Int) (b : Int) (K : AV → List AV → Prop) : Prop :=
    Obl (a = 0 ∧ b = l.length ∧ l.length ≤ 1000000) (∀ x : List Bs, x.length = l.length → x.Perm l → srt x l.length → K (.tup []) [.own .str x])
noncomputable def C135 : List AV → (AV → List AV → Prop) → Prop
  | [.tup [.own .str l], .int .i64 a, .int .i64 b], K => c135 l a b K
  | _, _ => False
noncomputable def E135 : Ctx := mkE tab [(141, .pure F141)]
noncomputable def O135 : Nat → List DI := ordL [(4, [.q 0, .q 1, .q 2, .q 3, .q 4, .q 5, .q 6, .q 7, .q 8, .q 9, .q 10, .q 11, .q 12, .q 13, .q 14]), (6, [.q 0, .q 1, .q 2, .q 3, .q 4, .q 5, .q 6, .q 7, .q 8, .q 9, .q 10, .q 11, .q 12, .q 13, .q 14, .l 15 [], .q 16, .l 17 []])]
theorem a135 (l : List Bs) (a : Int) (b : Int) (hb : BdAs [.tup [.own .str l], .int .i64 a, .int .i64 b]) (K : AV → List AV → Prop) (h : c135 l a b K) : abody E135 O135 .ow Try.f135 (Try.f135.body.getD .skip) [.tup [.own .str l], .int .i64 a, .int .i64 b] K := by
  simp only [BdAs, BdA, BdL, BdC, MX, ndC, shC, itC, stC, opC, chC, nwC, flC, rqC, rsC, enc, List.cons_append, List.nil_append, and_true, true_and] at hb
  unfold c135 at h
  obtain ⟨⟨ha, hb2, hl⟩, hK⟩ := h
  conv => whnf
  repeat' first|((first|refine Cnd.mk (fun h=>?_) (fun h=>?_)|refine Gd.mk (fun h=>?_))<;>(try simp [etas,elDef,-List.getD_eq_getElem?_getD] at h)<;>conv=>whnf)|((first|refine Obl.mk (by first|omega|rfl|exact inK_byte _|(simp only [inK,Int.toNat_natCast,etas,elDef]<;>first|omega|grind)|grind [inK]) ?_|refine OblG.mk (by ((conv=>whnf);(repeat (first|refine Bx.mk ?_|(intro h;(try simp [etas,elDef,-List.getD_eq_getElem?_getD] at h);conv=>whnf)));(first|omega|rfl|exact inK_byte _|(simp only [inK,Int.toNat_natCast,etas,elDef]<;>first|omega|grind)|grind [inK]))) ?_|refine And.intro ?_ ?_)<;>conv=>whnf)|exact True.intro|(intro;conv=>whnf)
  refine aloop_intro (Nat × List Bs) (fun q => 1 ≤ q.1 ∧ (q.1 ≤ l.length ∨ q.1 = 1) ∧ q.2.length = l.length ∧ q.2.Perm l ∧ srt q.2 q.1) (fun q => l.length - q.1) (fun q => [(6, .int .i64 q.1)]) (fun q => [(1000000, .arr .str q.2)]) [] (1, l) [] [] ?_ ?_ (by exact sgOk_of (by rfl)) ?_
  · exact ⟨Nat.le_refl _, .inr rfl, rfl, .refl _, srt_one _⟩
  · iterate 2 ((all_goals (conv=>whnf));(repeat' (first|exact trivial|rfl|(refine nilEq ?_;first|rfl|(simp only [*];done)|(simp [*];done)|grind)|apply And.intro|((first|apply intEq|apply boolEq|apply strEq|apply psEq|apply nilEq|apply arrEq);(try simp only [Int.toNat_natCast,etas,elDef]);first | done | omega | grind | (simp only [*]; done) | (simp [*]; done)))));(all_goals ((try simp only [Int.toNat_natCast,etas,elDef]);first | done | omega | grind | (simp only [*]; done) | (simp [*]; done)))
  rintro ⟨i, x⟩ ⟨hi1, hi2, hi3, hi4, hi5⟩
  dsimp only at hi1 hi2 hi3 hi4 hi5
  conv => whnf
  repeat' first|((first|refine Cnd.mk (fun h=>?_) (fun h=>?_)|refine Gd.mk (fun h=>?_))<;>(try simp [etas,elDef,-List.getD_eq_getElem?_getD] at h)<;>conv=>whnf)|((first|refine Obl.mk (by first|omega|rfl|exact inK_byte _|(simp only [inK,Int.toNat_natCast,etas,elDef]<;>first|omega|grind)|grind [inK]) ?_|refine OblG.mk (by ((conv=>whnf);(repeat (first|refine Bx.mk ?_|(intro h;(try simp [etas,elDef,-List.getD_eq_getElem?_getD] at h);conv=>whnf)));(first|omega|rfl|exact inK_byte _|(simp only [inK,Int.toNat_natCast,etas,elDef]<;>first|omega|grind)|grind [inK]))) ?_|refine And.intro ?_ ?_)<;>conv=>whnf)|exact True.intro|(intro;conv=>whnf)
  · refine aloop_intro (Nat × List Bs) (fun q => q.1 ≤ i ∧ q.2.length = l.length ∧ q.2.Perm l ∧ ordX q.2 (i + 1) q.1) (fun q => q.1) (fun q => [(7, .int .i64 q.1)]) (fun q => [(1000000, .arr .str q.2)]) [] (i, x) [] [] ?_ ?_ (by exact sgOk_of (by rfl)) ?_
    · exact ⟨Nat.le_refl _, hi3, hi4, ordX_start hi5⟩
    · iterate 2 ((all_goals (conv=>whnf));(repeat' (first|exact trivial|rfl|(refine nilEq ?_;first|rfl|(simp only [*];done)|(simp [*];done)|grind)|apply And.intro|((first|apply intEq|apply boolEq|apply strEq|apply psEq|apply nilEq|apply arrEq);(try simp only [Int.toNat_natCast,etas,elDef]);first | done | omega | grind | (simp only [*]; done) | (simp [*]; done)))));(all_goals ((try simp only [Int.toNat_natCast,etas,elDef]);first | done | omega | grind | (simp only [*]; done) | (simp [*]; done)))
    rintro ⟨j, y⟩ ⟨hj1, hj2, hj3, hj4⟩
    dsimp only at hj1 hj2 hj3 hj4
    conv => whnf
    repeat' first|((first|refine Cnd.mk (fun h=>?_) (fun h=>?_)|refine Gd.mk (fun h=>?_))<;>(try simp [etas,elDef,-List.getD_eq_getElem?_getD] at h)<;>conv=>whnf)|((first|refine Obl.mk (by first|omega|rfl|exact inK_byte _|(simp only [inK,Int.toNat_natCast,etas,elDef]<;>first|omega|grind)|grind [inK]) ?_|refine OblG.mk (by ((conv=>whnf);(repeat (first|refine Bx.mk ?_|(intro h;(try simp [etas,elDef,-List.getD_eq_getElem?_getD] at h);conv=>whnf)));(first|omega|rfl|exact inK_byte _|(simp only [inK,Int.toNat_natCast,etas,elDef]<;>first|omega|grind)|grind [inK]))) ?_|refine And.intro ?_ ?_)<;>conv=>whnf)|exact True.intro|(intro;conv=>whnf)
    · exact ⟨(j - 1, swapX y j), [], [], ⟨by simp only; omega, by rw [swapX_len]; exact hj2, (swapX_perm (by omega)).trans hj3, swapX_ord hj4 (by omega) hj1 (by omega) h.2⟩, by simp only; omega, by iterate 2 ((all_goals (conv=>whnf));(repeat' (first|exact trivial|rfl|(refine nilEq ?_;first|rfl|(simp only [*];done)|(simp [*];done)|grind)|apply And.intro|((first|apply intEq|apply boolEq|apply strEq|apply psEq|apply nilEq|apply arrEq);(try simp only [Int.toNat_natCast,etas,elDef]);first | done | omega | (simp [swapX]; done) | rfl))));(all_goals ((try simp only [Int.toNat_natCast,etas,elDef]);first | done | omega | (simp [swapX]; done) | rfl)), (by exact sgOk_of (by rfl))⟩
    · exact ⟨(i + 1, y), [], [], ⟨by simp only; omega, .inl (by simp only; omega), hj2, hj3, ordX_end hj4 hj1 (by by_cases e : j = 0; exact .inl e; exact .inr (h (by omega)))⟩, by simp only; omega, by iterate 2 ((all_goals (conv=>whnf));(repeat' (first|exact trivial|rfl|(refine nilEq ?_;first|rfl|(simp only [*];done)|(simp [*];done)|grind)|apply And.intro|((first|apply intEq|apply boolEq|apply strEq|apply psEq|apply nilEq|apply arrEq);(try simp only [Int.toNat_natCast,etas,elDef]);first | done | omega | grind | (simp only [*]; done) | (simp [*]; done)))));(all_goals ((try simp only [Int.toNat_natCast,etas,elDef]);first | done | omega | grind | (simp only [*]; done) | (simp [*]; done))), (by exact sgOk_of (by rfl))⟩
  · exact hK x hi3 hi4 (fun p q h1 h2 => hi5 p q h1 (by omega))
theorem s135 : (CtrOK Try.prog 135 (.gen .ln C135) ∧ Callable Try.prog 135) := by
  refine gen_ok (E := E135) (mkE_cons s141 (mkE_nil tab_ok)) mix (O := O135) (C := C135) (own := .ow) Try.func135 rfl (by rfl) (by kernel_rfl) (fun args K h hbd => ?_)
  unfold C135 at h; split at h
  case h_2 => exact h.elim
  exact ⟨Nat.le_of_ble_eq_true rfl, a135 _ _ _ (by exact hbd) _ h⟩
noncomputable def c145 (x : Int) (K : AV → List AV → Prop) : Prop :=
    Obl (0 ≤ x ∧ x ≤ 12) (∀ r : Int, K (.int .i64 r) [])
noncomputable def C145 : List AV → (AV → List AV → Prop) → Prop
  | [.int .u64 x], K => c145 x K
  | _, _ => False
noncomputable def E145 : Ctx := mkE tab []
noncomputable def O145 : Nat → List DI := ordL []
theorem a145 (x : Int) (hb : BdAs [.int .u64 x]) (K : AV → List AV → Prop) (h : c145 x K) : abody E145 O145 .ps Try.f145 (Try.f145.body.getD .skip) [.int .u64 x] K := by
  simp only [BdAs, BdA, BdL, BdC, MX, ndC, shC, itC, stC, opC, chC, nwC, flC, rqC, rsC, enc, List.cons_append, List.nil_append, and_true, true_and] at hb
  unfold c145 at h
  obtain ⟨hx, hK⟩ := h
  conv => whnf
  repeat' first|((first|refine Cnd.mk (fun h=>?_) (fun h=>?_)|refine Gd.mk (fun h=>?_))<;>(try simp [etas,elDef,-List.getD_eq_getElem?_getD] at h)<;>conv=>whnf)|((first|refine Obl.mk (by first|omega|rfl|exact inK_byte _|(simp only [inK,Int.toNat_natCast,etas,elDef]<;>first|omega|grind)|grind [inK]) ?_|refine OblG.mk (by ((conv=>whnf);(repeat (first|refine Bx.mk ?_|(intro h;(try simp [etas,elDef,-List.getD_eq_getElem?_getD] at h);conv=>whnf)));(first|omega|rfl|exact inK_byte _|(simp only [inK,Int.toNat_natCast,etas,elDef]<;>first|omega|grind)|grind [inK]))) ?_|refine And.intro ?_ ?_)<;>conv=>whnf)|exact True.intro|(intro;conv=>whnf)
  all_goals first | (exfalso; omega) | skip
  refine ⟨⟨hx.1, Int.lt_of_le_of_lt hx.2 (by decide)⟩, ?_⟩
  conv => whnf
  repeat' first|((first|refine Cnd.mk (fun h=>?_) (fun h=>?_)|refine Gd.mk (fun h=>?_))<;>(try simp [etas,elDef,-List.getD_eq_getElem?_getD] at h)<;>conv=>whnf)|((first|refine Obl.mk (by first|omega|rfl|exact inK_byte _|(simp only [inK,Int.toNat_natCast,etas,elDef]<;>first|omega|grind)|grind [inK]) ?_|refine OblG.mk (by ((conv=>whnf);(repeat (first|refine Bx.mk ?_|(intro h;(try simp [etas,elDef,-List.getD_eq_getElem?_getD] at h);conv=>whnf)));(first|omega|rfl|exact inK_byte _|(simp only [inK,Int.toNat_natCast,etas,elDef]<;>first|omega|grind)|grind [inK]))) ?_|refine And.intro ?_ ?_)<;>conv=>whnf)|exact True.intro|(intro;conv=>whnf)
  all_goals first | (exfalso; omega) | exact hK _ | skip
  refine Obl.mk ?_ ?_
  · generalize List.getD _ _ _ = u
    have := UInt8.toNat_lt u
    constructor <;> simp <;> omega
  · conv => whnf
    repeat' first|((first|refine Cnd.mk (fun h=>?_) (fun h=>?_)|refine Gd.mk (fun h=>?_))<;>(try simp [etas,elDef,-List.getD_eq_getElem?_getD] at h)<;>conv=>whnf)|((first|refine Obl.mk (by first|omega|rfl|exact inK_byte _|(simp only [inK,Int.toNat_natCast,etas,elDef]<;>first|omega|grind)|grind [inK]) ?_|refine OblG.mk (by ((conv=>whnf);(repeat (first|refine Bx.mk ?_|(intro h;(try simp [etas,elDef,-List.getD_eq_getElem?_getD] at h);conv=>whnf)));(first|omega|rfl|exact inK_byte _|(simp only [inK,Int.toNat_natCast,etas,elDef]<;>first|omega|grind)|grind [inK]))) ?_|refine And.intro ?_ ?_)<;>conv=>whnf)|exact True.intro|(intro;conv=>whnf)
    exact hK _
theorem s145 : (CtrOK Try.prog 145 (.gen .ps C145) ∧ Callable Try.prog 145) := by
  refine gen_ok (E := E145) (mkE_nil tab_ok) mix (O := O145) (C := C145) (own := .ps) Try.func145 rfl (by rfl) (by kernel_rfl) (fun args K h hbd => ?_)
  unfold C145 at h; split at h
  case h_2 => exact h.elim
  exact ⟨Nat.le_of_ble_eq_true rfl, a145 _ (by exact hbd) _ h⟩
noncomputable def c120 (x : Int) (K : AV → List AV → Prop) : Prop :=
    Obl (0 ≤ x ∧ x ≤ 12) (∀ r : Int, K (.int .i64 r) [])
noncomputable def C120 : List AV → (AV → List AV → Prop) → Prop
  | [.int .u64 x], K => c120 x K
  | _, _ => False
noncomputable def E120 : Ctx := mkE tab [(145, .gen .ps C145)]
noncomputable def O120 : Nat → List DI := ordL []
theorem a120 (x : Int) (hb : BdAs [.int .u64 x]) (K : AV → List AV → Prop) (h : c120 x K) : abody E120 O120 .ps Try.f120 (Try.f120.body.getD .skip) [.int .u64 x] K := by
  simp only [BdAs, BdA, BdL, BdC, MX, ndC, shC, itC, stC, opC, chC, nwC, flC, rqC, rsC, enc, List.cons_append, List.nil_append, and_true, true_and] at hb
  unfold c120 at h
  obtain ⟨hx, hK⟩ := h
  conv => whnf
  repeat' first|((first|refine Cnd.mk (fun h=>?_) (fun h=>?_)|refine Gd.mk (fun h=>?_))<;>(try simp [etas,elDef,-List.getD_eq_getElem?_getD] at h)<;>conv=>whnf)|((first|refine Obl.mk (by first|omega|rfl|exact inK_byte _|(simp only [inK,Int.toNat_natCast,etas,elDef]<;>first|omega|grind)|grind [inK]) ?_|refine OblG.mk (by ((conv=>whnf);(repeat (first|refine Bx.mk ?_|(intro h;(try simp [etas,elDef,-List.getD_eq_getElem?_getD] at h);conv=>whnf)));(first|omega|rfl|exact inK_byte _|(simp only [inK,Int.toNat_natCast,etas,elDef]<;>first|omega|grind)|grind [inK]))) ?_|refine And.intro ?_ ?_)<;>conv=>whnf)|exact True.intro|(intro;conv=>whnf)
  all_goals first | (exfalso; omega) | exact hK _
theorem s120 : (CtrOK Try.prog 120 (.gen .ps C120) ∧ Callable Try.prog 120) := by
  refine gen_ok (E := E120) (mkE_cons s145 (mkE_nil tab_ok)) mix (O := O120) (C := C120) (own := .ps) Try.func120 rfl (by rfl) (by kernel_rfl) (fun args K h hbd => ?_)
  unfold C120 at h; split at h
  case h_2 => exact h.elim
  exact ⟨Nat.le_of_ble_eq_true rfl, a120 _ (by exact hbd) _ h⟩
noncomputable def c119 (l : List Bs) (a : Int) (b : Int) (m : Int) (K : AV → List AV → Prop) : Prop :=
    Obl (a = 0 ∧ b = l.length ∧ l.length ≤ 12) (∀ x : List Bs, x.length = l.length → x.Perm l → srt x l.length → K (.tup []) [.own .str x])
noncomputable def m119 (l : List Bs) (a : Int) (b : Int) (m : Int) : Nat := 0
noncomputable def C119 : List AV → (AV → List AV → Prop) → Prop
  | [.tup [.own .str l], .int .i64 a, .int .i64 b, .int .i64 m], K => c119 l a b m K
  | _, _ => False
noncomputable def Ck119 (k : Nat) : List AV → (AV → List AV → Prop) → Prop
  | [.tup [.own .str l], .int .i64 a, .int .i64 b, .int .i64 m], K => Obl (m119 l a b m < k) (c119 l a b m K)
  | _, _ => False
noncomputable def E119 (k : Nat) : Ctx := mkE tab [(119, .gen .ln (Ck119 k)), (135, .gen .ln C135), (141, .pure F141)]
noncomputable def O119 : Nat → List DI := ordL [(17, [.q 0, .q 1, .q 2, .q 3, .q 4, .q 5, .q 6, .q 7, .q 8, .q 9, .q 10, .q 11, .q 12, .q 13, .q 14])]
theorem a119 (k : Nat) (l : List Bs) (a : Int) (b : Int) (m : Int) (hm : m119 l a b m < k + 1) (hb : BdAs [.tup [.own .str l], .int .i64 a, .int .i64 b, .int .i64 m]) (K : AV → List AV → Prop) (h : c119 l a b m K) : abody (E119 k) O119 .ow Try.f119 (Try.f119.body.getD .skip) [.tup [.own .str l], .int .i64 a, .int .i64 b, .int .i64 m] K := by
  simp only [BdAs, BdA, BdL, BdC, MX, ndC, shC, itC, stC, opC, chC, nwC, flC, rqC, rsC, enc, List.cons_append, List.nil_append, and_true, true_and] at hb
  unfold c119 at h
  unfold m119 at hm
  obtain ⟨⟨ha, hb2, hl⟩, hK⟩ := h
  conv => whnf
  repeat' first|((first|refine Cnd.mk (fun h=>?_) (fun h=>?_)|refine Gd.mk (fun h=>?_))<;>(try simp [etas,elDef,-List.getD_eq_getElem?_getD] at h)<;>conv=>whnf)|((first|refine Obl.mk (by first|omega|rfl|exact inK_byte _|(simp only [inK,Int.toNat_natCast,etas,elDef,m119,m119]<;>first|omega|grind)|grind [inK,m119,m119]) ?_|refine OblG.mk (by ((conv=>whnf);(repeat (first|refine Bx.mk ?_|(intro h;(try simp [etas,elDef,-List.getD_eq_getElem?_getD] at h);conv=>whnf)));(first|omega|rfl|exact inK_byte _|(simp only [inK,Int.toNat_natCast,etas,elDef,m119,m119]<;>first|omega|grind)|grind [inK,m119,m119]))) ?_|refine And.intro ?_ ?_)<;>conv=>whnf)|exact True.intro|(intro;conv=>whnf)
  refine aloop_intro Unit (fun _ => True) (fun _ => 0) (fun _ => [(1, .int .i64 a), (2, .int .i64 b)]) (fun _ => [(1000000, .arr .str l)]) [] () [] [] trivial ?_ (by exact sgOk_of (by rfl)) ?_
  · iterate 2 ((all_goals (conv=>whnf));(repeat' (first|exact trivial|rfl|(refine nilEq ?_;first|rfl|(simp only [*];done)|(simp [*];done)|grind)|apply And.intro|((first|apply intEq|apply boolEq|apply strEq|apply psEq|apply nilEq|apply arrEq);(try simp only [Int.toNat_natCast,etas,elDef]);first | done | omega | grind | (simp only [*]; done) | (simp [*]; done)))));(all_goals ((try simp only [Int.toNat_natCast,etas,elDef]);first | done | omega | grind | (simp only [*]; done) | (simp [*]; done)))
  rintro - -
  conv => whnf
  repeat' first|((first|refine Cnd.mk (fun h=>?_) (fun h=>?_)|refine Gd.mk (fun h=>?_))<;>(try simp [etas,elDef,-List.getD_eq_getElem?_getD] at h)<;>conv=>whnf)|((first|refine Obl.mk (by first|omega|rfl|exact inK_byte _|(simp only [inK,Int.toNat_natCast,etas,elDef,m119,m119]<;>first|omega|grind)|grind [inK,m119,m119]) ?_|refine OblG.mk (by ((conv=>whnf);(repeat (first|refine Bx.mk ?_|(intro h;(try simp [etas,elDef,-List.getD_eq_getElem?_getD] at h);conv=>whnf)));(first|omega|rfl|exact inK_byte _|(simp only [inK,Int.toNat_natCast,etas,elDef,m119,m119]<;>first|omega|grind)|grind [inK,m119,m119]))) ?_|refine And.intro ?_ ?_)<;>conv=>whnf)|exact True.intro|(intro;conv=>whnf)
  all_goals first | (exfalso; omega) | exact hK _ ‹_› ‹_› ‹_›
theorem r119 : ∀ k, (CtrOK Try.prog 119 (.gen .ln (Ck119 k)) ∧ Callable Try.prog 119) := by
  intro k
  induction k with
  | zero =>
    exact ⟨fun args K h => by
        unfold Ck119 at h; split at h
        · exact absurd h.o (Nat.not_lt_zero _)
        · exact h.elim, callable Try.func119 rfl (by rfl)⟩
  | succ k ih =>
    refine gen_ok (E := E119 k) (mkE_cons ih (mkE_cons s135 (mkE_cons s141 (mkE_nil tab_ok)))) mix (O := O119) (C := (Ck119 (k + 1))) (own := .ow) Try.func119 rfl (by rfl) (by kernel_rfl) (fun args K h hbd => ?_)
    unfold Ck119 at h; split at h
    case h_2 => exact h.elim
    exact ⟨Nat.le_of_ble_eq_true rfl, a119 k _ _ _ _ h.o (by exact hbd) _ h.k⟩
theorem s119 : (CtrOK Try.prog 119 (.gen .ln C119) ∧ Callable Try.prog 119) := by
  refine ⟨fun args K h => ?_, (r119 0).2⟩
  unfold C119 at h; split at h
  · exact (r119 (m119 _ _ _ _ + 1)).1 _ K ⟨Nat.lt_succ_self _, h⟩
  · exact h.elim
noncomputable def c97 (l : List Bs) (K : AV → List AV → Prop) : Prop :=
    Obl (l.length ≤ 12) (∀ x : List Bs, x.length = l.length → x.Perm l → srt x l.length → K (.tup []) [.own .str x])
noncomputable def C97 : List AV → (AV → List AV → Prop) → Prop
  | [.tup [.own .str l]], K => c97 l K
  | _, _ => False
noncomputable def E97 : Ctx := mkE tab [(119, .gen .ln C119), (120, .gen .ps C120)]
noncomputable def O97 : Nat → List DI := ordL []
theorem a97 (l : List Bs) (hb : BdAs [.tup [.own .str l]]) (K : AV → List AV → Prop) (h : c97 l K) : abody E97 O97 .ow Try.f97 (Try.f97.body.getD .skip) [.tup [.own .str l]] K := by
  simp only [BdAs, BdA, BdL, BdC, MX, ndC, shC, itC, stC, opC, chC, nwC, flC, rqC, rsC, enc, List.cons_append, List.nil_append, and_true, true_and] at hb
  unfold c97 at h
  obtain ⟨hl, hK⟩ := h
  conv => whnf
  repeat' first|((first|refine Cnd.mk (fun h=>?_) (fun h=>?_)|refine Gd.mk (fun h=>?_))<;>(try simp [etas,elDef,-List.getD_eq_getElem?_getD] at h)<;>conv=>whnf)|((first|refine Obl.mk (by first|omega|rfl|exact inK_byte _|(simp only [inK,Int.toNat_natCast,etas,elDef,m119]<;>first|omega|grind)|grind [inK,m119]) ?_|refine OblG.mk (by ((conv=>whnf);(repeat (first|refine Bx.mk ?_|(intro h;(try simp [etas,elDef,-List.getD_eq_getElem?_getD] at h);conv=>whnf)));(first|omega|rfl|exact inK_byte _|(simp only [inK,Int.toNat_natCast,etas,elDef,m119]<;>first|omega|grind)|grind [inK,m119]))) ?_|refine And.intro ?_ ?_)<;>conv=>whnf)|exact True.intro|(intro;conv=>whnf)
  exact hK _ ‹_› ‹_› ‹_›
theorem s97 : (CtrOK Try.prog 97 (.gen .ln C97) ∧ Callable Try.prog 97) := by
  refine gen_ok (E := E97) (mkE_cons s119 (mkE_cons s120 (mkE_nil tab_ok))) mix (O := O97) (C := C97) (own := .ow) Try.func97 rfl (by rfl) (by kernel_rfl) (fun args K h hbd => ?_)
  unfold C97 at h; split at h
  case h_2 => exact h.elim
  exact ⟨Nat.le_of_ble_eq_true rfl, a97 _ (by exact hbd) _ h⟩
end Go.Rs

