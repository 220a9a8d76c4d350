import Derived.Test.YtmgheiagnleeiaaCP
import Derived.Test.YtmgheiagnleeiaaMG
set_option linter.all false
set_option linter.unusedSimpArgs false
set_option linter.unusedVariables false
namespace Go.Rs
open Go.Proofs
set_option maxRecDepth 100000
noncomputable def c50 (l : List Bs) (a : Int) (b : Int) (K : AV → List AV → Prop) : Prop :=
    Obl (a = 0 ∧ b = l.length ∧ l.length ≤ 1000000) (∀ x : List Bs, x.length = l.length → x.Perm l → srt x l.length → K (.tup []) [.own .str x])
noncomputable def C50 : List AV → (AV → List AV → Prop) → Prop
  | [.tup [.own .str l], .int .i64 a, .int .i64 b], K => c50 l a b K
  | _, _ => False
noncomputable def E50 : Ctx := mkE tab [(56, .pure F56)]
noncomputable def O50 : Nat → List DI := ordL [(4, [.q 0, .q 1, .q 2, .q 3, .q 4, .q 5, .q 6, .q 7, .q 8, .q 9, .q 10, .q 11, .q 12, .q 13, .q 14]), (6, [.q 0, .q 1, .q 2, .q 3, .q 4, .q 5, .q 6, .q 7, .q 8, .q 9, .q 10, .q 11, .q 12, .q 13, .q 14, .l 15 [], .q 16, .l 17 []])]
theorem a50 (l : List Bs) (a : Int) (b : Int) (hb : BdAs [.tup [.own .str l], .int .i64 a, .int .i64 b]) (K : AV → List AV → Prop) (h : c50 l a b K) : abody E50 O50 .ow Try.f50 (Try.f50.body.getD .skip) [.tup [.own .str l], .int .i64 a, .int .i64 b] K := by
  simp only [BdAs, BdA, BdL, BdC, MX, ndC, shC, itC, stC, opC, chC, nwC, flC, rqC, rsC, enc, List.cons_append, List.nil_append, and_true, true_and] at hb
  unfold c50 at h
  obtain ⟨⟨ha, hb2, hl⟩, hK⟩ := h
  conv => whnf
  repeat' first|((first|refine Cnd.mk (fun h=>?_) (fun h=>?_)|refine Gd.mk (fun h=>?_))<;>(try simp [etas,elDef,-List.getD_eq_getElem?_getD] at h)<;>conv=>whnf)|((first|refine Obl.mk (by first|omega|rfl|exact inK_byte _|(simp only [inK,Int.toNat_natCast,etas,elDef]<;>first|omega|grind)|grind [inK]) ?_|refine OblG.mk (by ((conv=>whnf);(repeat (first|refine Bx.mk ?_|(intro h;(try simp [etas,elDef,-List.getD_eq_getElem?_getD] at h);conv=>whnf)));(first|omega|rfl|exact inK_byte _|(simp only [inK,Int.toNat_natCast,etas,elDef]<;>first|omega|grind)|grind [inK]))) ?_|refine And.intro ?_ ?_)<;>conv=>whnf)|exact True.intro|(intro;conv=>whnf)
  refine aloop_intro (Nat × List Bs) (fun q => 1 ≤ q.1 ∧ (q.1 ≤ l.length ∨ q.1 = 1) ∧ q.2.length = l.length ∧ q.2.Perm l ∧ srt q.2 q.1) (fun q => l.length - q.1) (fun q => [(6, .int .i64 q.1)]) (fun q => [(1000000, .arr .str q.2)]) [] (1, l) [] [] ?_ ?_ (by exact sgOk_of (by rfl)) ?_
  · exact ⟨Nat.le_refl _, .inr rfl, rfl, .refl _, srt_one _⟩
  · iterate 2 ((all_goals (conv=>whnf));(repeat' (first|exact trivial|rfl|(refine nilEq ?_;first|rfl|(simp only [*];done)|(simp [*];done)|grind)|apply And.intro|((first|apply intEq|apply boolEq|apply strEq|apply psEq|apply nilEq|apply arrEq);(try simp only [Int.toNat_natCast,etas,elDef]);first | done | omega | grind | (simp only [*]; done) | (simp [*]; done)))));(all_goals ((try simp only [Int.toNat_natCast,etas,elDef]);first | done | omega | grind | (simp only [*]; done) | (simp [*]; done)))
  rintro ⟨i, x⟩ ⟨hi1, hi2, hi3, hi4, hi5⟩
  dsimp only at hi1 hi2 hi3 hi4 hi5
  conv => whnf
  repeat' first|((first|refine Cnd.mk (fun h=>?_) (fun h=>?_)|refine Gd.mk (fun h=>?_))<;>(try simp [etas,elDef,-List.getD_eq_getElem?_getD] at h)<;>conv=>whnf)|((first|refine Obl.mk (by first|omega|rfl|exact inK_byte _|(simp only [inK,Int.toNat_natCast,etas,elDef]<;>first|omega|grind)|grind [inK]) ?_|refine OblG.mk (by ((conv=>whnf);(repeat (first|refine Bx.mk ?_|(intro h;(try simp [etas,elDef,-List.getD_eq_getElem?_getD] at h);conv=>whnf)));(first|omega|rfl|exact inK_byte _|(simp only [inK,Int.toNat_natCast,etas,elDef]<;>first|omega|grind)|grind [inK]))) ?_|refine And.intro ?_ ?_)<;>conv=>whnf)|exact True.intro|(intro;conv=>whnf)
  · refine aloop_intro (Nat × List Bs) (fun q => q.1 ≤ i ∧ q.2.length = l.length ∧ q.2.Perm l ∧ ordX q.2 (i + 1) q.1) (fun q => q.1) (fun q => [(7, .int .i64 q.1)]) (fun q => [(1000000, .arr .str q.2)]) [] (i, x) [] [] ?_ ?_ (by exact sgOk_of (by rfl)) ?_
    · exact ⟨Nat.le_refl _, hi3, hi4, ordX_start hi5⟩
    · iterate 2 ((all_goals (conv=>whnf));(repeat' (first|exact trivial|rfl|(refine nilEq ?_;first|rfl|(simp only [*];done)|(simp [*];done)|grind)|apply And.intro|((first|apply intEq|apply boolEq|apply strEq|apply psEq|apply nilEq|apply arrEq);(try simp only [Int.toNat_natCast,etas,elDef]);first | done | omega | grind | (simp only [*]; done) | (simp [*]; done)))));(all_goals ((try simp only [Int.toNat_natCast,etas,elDef]);first | done | omega | grind | (simp only [*]; done) | (simp [*]; done)))
    rintro ⟨j, y⟩ ⟨hj1, hj2, hj3, hj4⟩
    dsimp only at hj1 hj2 hj3 hj4
    conv => whnf
    repeat' first|((first|refine Cnd.mk (fun h=>?_) (fun h=>?_)|refine Gd.mk (fun h=>?_))<;>(try simp [etas,elDef,-List.getD_eq_getElem?_getD] at h)<;>conv=>whnf)|((first|refine Obl.mk (by first|omega|rfl|exact inK_byte _|(simp only [inK,Int.toNat_natCast,etas,elDef]<;>first|omega|grind)|grind [inK]) ?_|refine OblG.mk (by ((conv=>whnf);(repeat (first|refine Bx.mk ?_|(intro h;(try simp [etas,elDef,-List.getD_eq_getElem?_getD] at h);conv=>whnf)));(first|omega|rfl|exact inK_byte _|(simp only [inK,Int.toNat_natCast,etas,elDef]<;>first|omega|grind)|grind [inK]))) ?_|refine And.intro ?_ ?_)<;>conv=>whnf)|exact True.intro|(intro;conv=>whnf)
    · exact ⟨(j - 1, swapX y j), [], [], ⟨by simp only; omega, by rw [swapX_len]; exact hj2, (swapX_perm (by omega)).trans hj3, swapX_ord hj4 (by omega) hj1 (by omega) h.2⟩, by simp only; omega, by iterate 2 ((all_goals (conv=>whnf));(repeat' (first|exact trivial|rfl|(refine nilEq ?_;first|rfl|(simp only [*];done)|(simp [*];done)|grind)|apply And.intro|((first|apply intEq|apply boolEq|apply strEq|apply psEq|apply nilEq|apply arrEq);(try simp only [Int.toNat_natCast,etas,elDef]);first | done | omega | (simp [swapX]; done) | rfl))));(all_goals ((try simp only [Int.toNat_natCast,etas,elDef]);first | done | omega | (simp [swapX]; done) | rfl)), (by exact sgOk_of (by rfl))⟩
    · exact ⟨(i + 1, y), [], [], ⟨by simp only; omega, .inl (by simp only; omega), hj2, hj3, ordX_end hj4 hj1 (by by_cases e : j = 0; exact .inl e; exact .inr (h (by omega)))⟩, by simp only; omega, by iterate 2 ((all_goals (conv=>whnf));(repeat' (first|exact trivial|rfl|(refine nilEq ?_;first|rfl|(simp only [*];done)|(simp [*];done)|grind)|apply And.intro|((first|apply intEq|apply boolEq|apply strEq|apply psEq|apply nilEq|apply arrEq);(try simp only [Int.toNat_natCast,etas,elDef]);first | done | omega | grind | (simp only [*]; done) | (simp [*]; done)))));(all_goals ((try simp only [Int.toNat_natCast,etas,elDef]);first | done | omega | grind | (simp only [*]; done) | (simp [*]; done))), (by exact sgOk_of (by rfl))⟩
  · exact hK x hi3 hi4 (fun p q h1 h2 => hi5 p q h1 (by omega))
theorem s50 : (CtrOK Try.prog 50 (.gen .ln C50) ∧ Callable Try.prog 50) := by
  refine gen_ok (E := E50) (mkE_cons s56 (mkE_nil tab_ok)) mix (O := O50) (C := C50) (own := .ow) Try.func50 rfl (by rfl) (by kernel_rfl) (fun args K h hbd => ?_)
  unfold C50 at h; split at h
  case h_2 => exact h.elim
  exact ⟨Nat.le_of_ble_eq_true rfl, a50 _ _ _ (by exact hbd) _ h⟩
noncomputable def c60 (x : Int) (K : AV → List AV → Prop) : Prop :=
    Obl (0 ≤ x ∧ x ≤ 12) (∀ r : Int, K (.int .i64 r) [])
noncomputable def C60 : List AV → (AV → List AV → Prop) → Prop
  | [.int .u64 x], K => c60 x K
  | _, _ => False
noncomputable def E60 : Ctx := mkE tab []
noncomputable def O60 : Nat → List DI := ordL []
theorem a60 (x : Int) (hb : BdAs [.int .u64 x]) (K : AV → List AV → Prop) (h : c60 x K) : abody E60 O60 .ps Try.f60 (Try.f60.body.getD .skip) [.int .u64 x] K := by
  simp only [BdAs, BdA, BdL, BdC, MX, ndC, shC, itC, stC, opC, chC, nwC, flC, rqC, rsC, enc, List.cons_append, List.nil_append, and_true, true_and] at hb
  unfold c60 at h
  obtain ⟨hx, hK⟩ := h
  conv => whnf
  repeat' first|((first|refine Cnd.mk (fun h=>?_) (fun h=>?_)|refine Gd.mk (fun h=>?_))<;>(try simp [etas,elDef,-List.getD_eq_getElem?_getD] at h)<;>conv=>whnf)|((first|refine Obl.mk (by first|omega|rfl|exact inK_byte _|(simp only [inK,Int.toNat_natCast,etas,elDef]<;>first|omega|grind)|grind [inK]) ?_|refine OblG.mk (by ((conv=>whnf);(repeat (first|refine Bx.mk ?_|(intro h;(try simp [etas,elDef,-List.getD_eq_getElem?_getD] at h);conv=>whnf)));(first|omega|rfl|exact inK_byte _|(simp only [inK,Int.toNat_natCast,etas,elDef]<;>first|omega|grind)|grind [inK]))) ?_|refine And.intro ?_ ?_)<;>conv=>whnf)|exact True.intro|(intro;conv=>whnf)
  all_goals first | (exfalso; omega) | skip
  refine ⟨⟨hx.1, Int.lt_of_le_of_lt hx.2 (by decide)⟩, ?_⟩
  conv => whnf
  repeat' first|((first|refine Cnd.mk (fun h=>?_) (fun h=>?_)|refine Gd.mk (fun h=>?_))<;>(try simp [etas,elDef,-List.getD_eq_getElem?_getD] at h)<;>conv=>whnf)|((first|refine Obl.mk (by first|omega|rfl|exact inK_byte _|(simp only [inK,Int.toNat_natCast,etas,elDef]<;>first|omega|grind)|grind [inK]) ?_|refine OblG.mk (by ((conv=>whnf);(repeat (first|refine Bx.mk ?_|(intro h;(try simp [etas,elDef,-List.getD_eq_getElem?_getD] at h);conv=>whnf)));(first|omega|rfl|exact inK_byte _|(simp only [inK,Int.toNat_natCast,etas,elDef]<;>first|omega|grind)|grind [inK]))) ?_|refine And.intro ?_ ?_)<;>conv=>whnf)|exact True.intro|(intro;conv=>whnf)
  all_goals first | (exfalso; omega) | exact hK _ | skip
  refine Obl.mk ?_ ?_
  · generalize List.getD _ _ _ = u
    have := UInt8.toNat_lt u
    constructor <;> simp <;> omega
  · conv => whnf
    repeat' first|((first|refine Cnd.mk (fun h=>?_) (fun h=>?_)|refine Gd.mk (fun h=>?_))<;>(try simp [etas,elDef,-List.getD_eq_getElem?_getD] at h)<;>conv=>whnf)|((first|refine Obl.mk (by first|omega|rfl|exact inK_byte _|(simp only [inK,Int.toNat_natCast,etas,elDef]<;>first|omega|grind)|grind [inK]) ?_|refine OblG.mk (by ((conv=>whnf);(repeat (first|refine Bx.mk ?_|(intro h;(try simp [etas,elDef,-List.getD_eq_getElem?_getD] at h);conv=>whnf)));(first|omega|rfl|exact inK_byte _|(simp only [inK,Int.toNat_natCast,etas,elDef]<;>first|omega|grind)|grind [inK]))) ?_|refine And.intro ?_ ?_)<;>conv=>whnf)|exact True.intro|(intro;conv=>whnf)
    exact hK _
theorem s60 : (CtrOK Try.prog 60 (.gen .ps C60) ∧ Callable Try.prog 60) := by
  refine gen_ok (E := E60) (mkE_nil tab_ok) mix (O := O60) (C := C60) (own := .ps) Try.func60 rfl (by rfl) (by kernel_rfl) (fun args K h hbd => ?_)
  unfold C60 at h; split at h
  case h_2 => exact h.elim
  exact ⟨Nat.le_of_ble_eq_true rfl, a60 _ (by exact hbd) _ h⟩
noncomputable def c34 (x : Int) (K : AV → List AV → Prop) : Prop :=
    Obl (0 ≤ x ∧ x ≤ 12) (∀ r : Int, K (.int .i64 r) [])
noncomputable def C34 : List AV → (AV → List AV → Prop) → Prop
  | [.int .u64 x], K => c34 x K
  | _, _ => False
noncomputable def E34 : Ctx := mkE tab [(60, .gen .ps C60)]
noncomputable def O34 : Nat → List DI := ordL []
theorem a34 (x : Int) (hb : BdAs [.int .u64 x]) (K : AV → List AV → Prop) (h : c34 x K) : abody E34 O34 .ps Try.f34 (Try.f34.body.getD .skip) [.int .u64 x] K := by
  simp only [BdAs, BdA, BdL, BdC, MX, ndC, shC, itC, stC, opC, chC, nwC, flC, rqC, rsC, enc, List.cons_append, List.nil_append, and_true, true_and] at hb
  unfold c34 at h
  obtain ⟨hx, hK⟩ := h
  conv => whnf
  repeat' first|((first|refine Cnd.mk (fun h=>?_) (fun h=>?_)|refine Gd.mk (fun h=>?_))<;>(try simp [etas,elDef,-List.getD_eq_getElem?_getD] at h)<;>conv=>whnf)|((first|refine Obl.mk (by first|omega|rfl|exact inK_byte _|(simp only [inK,Int.toNat_natCast,etas,elDef]<;>first|omega|grind)|grind [inK]) ?_|refine OblG.mk (by ((conv=>whnf);(repeat (first|refine Bx.mk ?_|(intro h;(try simp [etas,elDef,-List.getD_eq_getElem?_getD] at h);conv=>whnf)));(first|omega|rfl|exact inK_byte _|(simp only [inK,Int.toNat_natCast,etas,elDef]<;>first|omega|grind)|grind [inK]))) ?_|refine And.intro ?_ ?_)<;>conv=>whnf)|exact True.intro|(intro;conv=>whnf)
  all_goals first | (exfalso; omega) | exact hK _
theorem s34 : (CtrOK Try.prog 34 (.gen .ps C34) ∧ Callable Try.prog 34) := by
  refine gen_ok (E := E34) (mkE_cons s60 (mkE_nil tab_ok)) mix (O := O34) (C := C34) (own := .ps) Try.func34 rfl (by rfl) (by kernel_rfl) (fun args K h hbd => ?_)
  unfold C34 at h; split at h
  case h_2 => exact h.elim
  exact ⟨Nat.le_of_ble_eq_true rfl, a34 _ (by exact hbd) _ h⟩
noncomputable def c33 (l : List Bs) (a : Int) (b : Int) (m : Int) (K : AV → List AV → Prop) : Prop :=
    Obl (a = 0 ∧ b = l.length ∧ l.length ≤ 12) (∀ x : List Bs, x.length = l.length → x.Perm l → srt x l.length → K (.tup []) [.own .str x])
noncomputable def m33 (l : List Bs) (a : Int) (b : Int) (m : Int) : Nat := 0
noncomputable def C33 : List AV → (AV → List AV → Prop) → Prop
  | [.tup [.own .str l], .int .i64 a, .int .i64 b, .int .i64 m], K => c33 l a b m K
  | _, _ => False
noncomputable def Ck33 (k : Nat) : List AV → (AV → List AV → Prop) → Prop
  | [.tup [.own .str l], .int .i64 a, .int .i64 b, .int .i64 m], K => Obl (m33 l a b m < k) (c33 l a b m K)
  | _, _ => False
noncomputable def E33 (k : Nat) : Ctx := mkE tab [(33, .gen .ln (Ck33 k)), (50, .gen .ln C50), (56, .pure F56)]
noncomputable def O33 : Nat → List DI := ordL [(17, [.q 0, .q 1, .q 2, .q 3, .q 4, .q 5, .q 6, .q 7, .q 8, .q 9, .q 10, .q 11, .q 12, .q 13, .q 14])]
theorem a33 (k : Nat) (l : List Bs) (a : Int) (b : Int) (m : Int) (hm : m33 l a b m < k + 1) (hb : BdAs [.tup [.own .str l], .int .i64 a, .int .i64 b, .int .i64 m]) (K : AV → List AV → Prop) (h : c33 l a b m K) : abody (E33 k) O33 .ow Try.f33 (Try.f33.body.getD .skip) [.tup [.own .str l], .int .i64 a, .int .i64 b, .int .i64 m] K := by
  simp only [BdAs, BdA, BdL, BdC, MX, ndC, shC, itC, stC, opC, chC, nwC, flC, rqC, rsC, enc, List.cons_append, List.nil_append, and_true, true_and] at hb
  unfold c33 at h
  unfold m33 at hm
  obtain ⟨⟨ha, hb2, hl⟩, hK⟩ := h
  conv => whnf
  repeat' first|((first|refine Cnd.mk (fun h=>?_) (fun h=>?_)|refine Gd.mk (fun h=>?_))<;>(try simp [etas,elDef,-List.getD_eq_getElem?_getD] at h)<;>conv=>whnf)|((first|refine Obl.mk (by first|omega|rfl|exact inK_byte _|(simp only [inK,Int.toNat_natCast,etas,elDef,m33,m33]<;>first|omega|grind)|grind [inK,m33,m33]) ?_|refine OblG.mk (by ((conv=>whnf);(repeat (first|refine Bx.mk ?_|(intro h;(try simp [etas,elDef,-List.getD_eq_getElem?_getD] at h);conv=>whnf)));(first|omega|rfl|exact inK_byte _|(simp only [inK,Int.toNat_natCast,etas,elDef,m33,m33]<;>first|omega|grind)|grind [inK,m33,m33]))) ?_|refine And.intro ?_ ?_)<;>conv=>whnf)|exact True.intro|(intro;conv=>whnf)
  refine aloop_intro Unit (fun _ => True) (fun _ => 0) (fun _ => [(1, .int .i64 a), (2, .int .i64 b)]) (fun _ => [(1000000, .arr .str l)]) [] () [] [] trivial ?_ (by exact sgOk_of (by rfl)) ?_
  · iterate 2 ((all_goals (conv=>whnf));(repeat' (first|exact trivial|rfl|(refine nilEq ?_;first|rfl|(simp only [*];done)|(simp [*];done)|grind)|apply And.intro|((first|apply intEq|apply boolEq|apply strEq|apply psEq|apply nilEq|apply arrEq);(try simp only [Int.toNat_natCast,etas,elDef]);first | done | omega | grind | (simp only [*]; done) | (simp [*]; done)))));(all_goals ((try simp only [Int.toNat_natCast,etas,elDef]);first | done | omega | grind | (simp only [*]; done) | (simp [*]; done)))
  rintro - -
  conv => whnf
  repeat' first|((first|refine Cnd.mk (fun h=>?_) (fun h=>?_)|refine Gd.mk (fun h=>?_))<;>(try simp [etas,elDef,-List.getD_eq_getElem?_getD] at h)<;>conv=>whnf)|((first|refine Obl.mk (by first|omega|rfl|exact inK_byte _|(simp only [inK,Int.toNat_natCast,etas,elDef,m33,m33]<;>first|omega|grind)|grind [inK,m33,m33]) ?_|refine OblG.mk (by ((conv=>whnf);(repeat (first|refine Bx.mk ?_|(intro h;(try simp [etas,elDef,-List.getD_eq_getElem?_getD] at h);conv=>whnf)));(first|omega|rfl|exact inK_byte _|(simp only [inK,Int.toNat_natCast,etas,elDef,m33,m33]<;>first|omega|grind)|grind [inK,m33,m33]))) ?_|refine And.intro ?_ ?_)<;>conv=>whnf)|exact True.intro|(intro;conv=>whnf)
  all_goals first | (exfalso; omega) | exact hK _ ‹_› ‹_› ‹_›
theorem r33 : ∀ k, (CtrOK Try.prog 33 (.gen .ln (Ck33 k)) ∧ Callable Try.prog 33) := by
  intro k
  induction k with
  | zero =>
    exact ⟨fun args K h => by
        unfold Ck33 at h; split at h
        · exact absurd h.o (Nat.not_lt_zero _)
        · exact h.elim, callable Try.func33 rfl (by rfl)⟩
  | succ k ih =>
    refine gen_ok (E := E33 k) (mkE_cons ih (mkE_cons s50 (mkE_cons s56 (mkE_nil tab_ok)))) mix (O := O33) (C := (Ck33 (k + 1))) (own := .ow) Try.func33 rfl (by rfl) (by kernel_rfl) (fun args K h hbd => ?_)
    unfold Ck33 at h; split at h
    case h_2 => exact h.elim
    exact ⟨Nat.le_of_ble_eq_true rfl, a33 k _ _ _ _ h.o (by exact hbd) _ h.k⟩
theorem s33 : (CtrOK Try.prog 33 (.gen .ln C33) ∧ Callable Try.prog 33) := by
  refine ⟨fun args K h => ?_, (r33 0).2⟩
  unfold C33 at h; split at h
  · exact (r33 (m33 _ _ _ _ + 1)).1 _ K ⟨Nat.lt_succ_self _, h⟩
  · exact h.elim
noncomputable def c19 (l : List Bs) (K : AV → List AV → Prop) : Prop :=
    Obl (l.length ≤ 12) (∀ x : List Bs, x.length = l.length → x.Perm l → srt x l.length → K (.tup []) [.own .str x])
noncomputable def C19 : List AV → (AV → List AV → Prop) → Prop
  | [.tup [.own .str l]], K => c19 l K
  | _, _ => False
noncomputable def E19 : Ctx := mkE tab [(33, .gen .ln C33), (34, .gen .ps C34)]
noncomputable def O19 : Nat → List DI := ordL []
theorem a19 (l : List Bs) (hb : BdAs [.tup [.own .str l]]) (K : AV → List AV → Prop) (h : c19 l K) : abody E19 O19 .ow Try.f19 (Try.f19.body.getD .skip) [.tup [.own .str l]] K := by
  simp only [BdAs, BdA, BdL, BdC, MX, ndC, shC, itC, stC, opC, chC, nwC, flC, rqC, rsC, enc, List.cons_append, List.nil_append, and_true, true_and] at hb
  unfold c19 at h
  obtain ⟨hl, hK⟩ := h
  conv => whnf
  repeat' first|((first|refine Cnd.mk (fun h=>?_) (fun h=>?_)|refine Gd.mk (fun h=>?_))<;>(try simp [etas,elDef,-List.getD_eq_getElem?_getD] at h)<;>conv=>whnf)|((first|refine Obl.mk (by first|omega|rfl|exact inK_byte _|(simp only [inK,Int.toNat_natCast,etas,elDef,m33]<;>first|omega|grind)|grind [inK,m33]) ?_|refine OblG.mk (by ((conv=>whnf);(repeat (first|refine Bx.mk ?_|(intro h;(try simp [etas,elDef,-List.getD_eq_getElem?_getD] at h);conv=>whnf)));(first|omega|rfl|exact inK_byte _|(simp only [inK,Int.toNat_natCast,etas,elDef,m33]<;>first|omega|grind)|grind [inK,m33]))) ?_|refine And.intro ?_ ?_)<;>conv=>whnf)|exact True.intro|(intro;conv=>whnf)
  exact hK _ ‹_› ‹_› ‹_›
theorem s19 : (CtrOK Try.prog 19 (.gen .ln C19) ∧ Callable Try.prog 19) := by
  refine gen_ok (E := E19) (mkE_cons s33 (mkE_cons s34 (mkE_nil tab_ok))) mix (O := O19) (C := C19) (own := .ow) Try.func19 rfl (by rfl) (by kernel_rfl) (fun args K h hbd => ?_)
  unfold C19 at h; split at h
  case h_2 => exact h.elim
  exact ⟨Nat.le_of_ble_eq_true rfl, a19 _ (by exact hbd) _ h⟩
end Go.Rs

