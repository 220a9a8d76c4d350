import Derived.Test.YtmkgadogaefkaaaCI
import Derived.Test.YtmkgadogaefkaaaMB
import Derived.Test.YtmkgadogaefkaaaCE
import Derived.Test.YtmkgadogaefkaaaMC
set_option linter.all false
set_option linter.unusedSimpArgs false
set_option linter.unusedVariables false
namespace Go.Rs
open Go.Proofs
set_option maxRecDepth 100000
noncomputable def v66 (n : Nws) (c : Int) : AV := .bool (newsM n c)
noncomputable def o66 (n : Nws) (c : Int) : Prop := True
noncomputable def F66 : List AV → QR
  | [.st [.str n_0, .bool n_1, .int .i64 n_2_0, .int .i64 n_2_1, .str n_2_2, .ps .str n_2_3, .ps .node n_2_4, .int .i64 n_3], .int .i64 c] => some (none, v66 ⟨n_0, n_1, ⟨n_2_0, n_2_1, n_2_2, n_2_3, n_2_4⟩, n_3⟩ c)
  | _ => none
noncomputable def E66 : Ctx := mkE tab [(83, .pure F83)]
noncomputable def O66 : Nat → List DI := ordL []
theorem a66 (n : Nws) (c : Int) (hb : BdAs [.st (nwC n), .int .i64 c]) (ho : o66 n c) (K : AV → List AV → Prop) (hK : K (v66 n c) []) : abody E66 O66 .ps Try.f66 (Try.f66.body.getD .skip) [.st (nwC n), .int .i64 c] K := by
  simp only [BdAs, BdA, BdL, BdC, MX, ndC, shC, itC, stC, opC, chC, nwC, flC, rqC, rsC, enc, List.cons_append, List.nil_append, and_true, true_and] at hb
  unfold v66 at hK
  conv => whnf
  repeat' first|(refine Cnd.mk (fun h=>?_) (fun h=>?_)<;>(try simp [etas,elDef,-List.getD_eq_getElem?_getD] at h)<;>conv=>whnf)|(refine Obl.mk (by first|omega|rfl|exact inK_byte _|(simp only [inK,Int.toNat_natCast,etas,elDef]<;>first|omega|grind)|grind [inK]) ?_<;>conv=>whnf)|(refine OblG.mk (by ((conv=>whnf);(repeat (first|(refine Bx.mk ?_)|(intro h;(try simp [etas,elDef,-List.getD_eq_getElem?_getD] at h);conv=>whnf)));(first|omega|rfl|exact inK_byte _|(simp only [inK,Int.toNat_natCast,etas,elDef]<;>first|omega|grind)|grind [inK]))) ?_<;>conv=>whnf)|(refine Gd.mk (fun h=>?_)<;>(try simp [etas,elDef,-List.getD_eq_getElem?_getD] at h)<;>conv=>whnf)|(refine And.intro ?_ ?_<;>conv=>whnf)|exact True.intro|(intro;conv=>whnf)
  all_goals exact leafB hK (by simp only [newsM, nd_eta] <;> grind)
theorem s66 : (CtrOK Try.prog 66 (.pure F66) ∧ Callable Try.prog 66) := by
  refine pure_ok (E := E66) (mkE_cons s83 (mkE_nil tab_ok)) mix (O := O66) (F := F66) Try.func66 rfl (by rfl) (by kernel_rfl) (fun args o v h => ?_) (fun args o v h => ?_) (fun args o v h hbd hp K hK => ?_)
  · unfold F66 at h; split at h <;> cases h; first | trivial | (simp [v66, Scalar, Scalar2, Scalar1, stC, ndC, itC, chC, nwC])
  · unfold F66 at h; split at h <;> cases h; exact Nat.le_of_ble_eq_true rfl
  · unfold F66 at h; split at h
    case h_2 => cases h
    cases h
    exact a66 ⟨_, _, ⟨_, _, _, _, _⟩, _⟩ _ (by exact hbd) trivial K hK
noncomputable def v31 (l : List Nws) (c : Int) : AV := .bool (areNewsM l c)
noncomputable def o31 (l : List Nws) (c : Int) : Prop := True
noncomputable def F31 : List AV → QR
  | [.ps .nws l, .int .i64 c] => some (none, v31 l c)
  | _ => none
noncomputable def E31 : Ctx := mkE tab [(66, .pure F66)]
noncomputable def O31 : Nat → List DI := ordL []
theorem a31 (l : List Nws) (c : Int) (hb : BdAs [.ps .nws l, .int .i64 c]) (ho : o31 l c) (K : AV → List AV → Prop) (hK : K (v31 l c) []) : abody E31 O31 .ps Try.f31 (Try.f31.body.getD .skip) [.ps .nws l, .int .i64 c] K := by
  simp only [BdAs, BdA, BdL, BdC, MX, ndC, shC, itC, stC, opC, chC, nwC, flC, rqC, rsC, enc, List.cons_append, List.nil_append, and_true, true_and] at hb
  unfold v31 at hK
  conv => whnf
  repeat' first|(refine Cnd.mk (fun h=>?_) (fun h=>?_)<;>(try simp [etas,elDef,-List.getD_eq_getElem?_getD] at h)<;>conv=>whnf)|(refine Obl.mk (by first|omega|rfl|exact inK_byte _|(simp only [inK,Int.toNat_natCast,etas,elDef]<;>first|omega|grind)|grind [inK]) ?_<;>conv=>whnf)|(refine OblG.mk (by ((conv=>whnf);(repeat (first|(refine Bx.mk ?_)|(intro h;(try simp [etas,elDef,-List.getD_eq_getElem?_getD] at h);conv=>whnf)));(first|omega|rfl|exact inK_byte _|(simp only [inK,Int.toNat_natCast,etas,elDef]<;>first|omega|grind)|grind [inK]))) ?_<;>conv=>whnf)|(refine Gd.mk (fun h=>?_)<;>(try simp [etas,elDef,-List.getD_eq_getElem?_getD] at h)<;>conv=>whnf)|(refine And.intro ?_ ?_<;>conv=>whnf)|exact True.intro|(intro;conv=>whnf)
  · exact leafB hK (by grind [areNewsM])
  refine aloop_intro Nat (fun k => k ≤ l.length ∧ feedOk c (l.take k) = true) (fun k => l.length - k) (fun k => [(12, .int .i64 k), (1, .int .i64 (clockF c (l.take k)))]) (fun _ => []) [] 0 [] [] ⟨Nat.zero_le _, rfl⟩ ?_ (by exact sgOk_of (by rfl)) ?_
  · iterate 2 ((all_goals (conv=>whnf));(repeat' (first|exact trivial|rfl|(refine nilEq ?_;first|rfl|(simp only [*];done)|(simp [*];done)|grind)|apply And.intro|((first|refine intEq ?_|refine boolEq ?_|refine strEq ?_|refine psEq ?_|refine nilEq ?_|refine arrEq ?_);(try simp only [Int.toNat_natCast,etas,elDef]);first | done | omega | grind | (simp only [*]; done) | (simp [*]; done)))));(all_goals ((try simp only [Int.toNat_natCast,etas,elDef]);first | done | omega | grind | (simp only [*]; done) | (simp [*]; done)))
  rintro i ⟨hi, hj⟩
  have hst := fun h => feedOk_take (c := c) (l := l) (i := i) h
  have hct := fun h => clockF_take (c := c) (l := l) (i := i) h
  conv => whnf
  repeat' first|(refine Cnd.mk (fun h=>?_) (fun h=>?_)<;>(try simp [etas,elDef,-List.getD_eq_getElem?_getD] at h)<;>conv=>whnf)|(refine Obl.mk (by first|omega|rfl|exact inK_byte _|(simp only [inK,Int.toNat_natCast,etas,elDef]<;>first|omega|grind)|grind [inK]) ?_<;>conv=>whnf)|(refine OblG.mk (by ((conv=>whnf);(repeat (first|(refine Bx.mk ?_)|(intro h;(try simp [etas,elDef,-List.getD_eq_getElem?_getD] at h);conv=>whnf)));(first|omega|rfl|exact inK_byte _|(simp only [inK,Int.toNat_natCast,etas,elDef]<;>first|omega|grind)|grind [inK]))) ?_<;>conv=>whnf)|(refine Gd.mk (fun h=>?_)<;>(try simp [etas,elDef,-List.getD_eq_getElem?_getD] at h)<;>conv=>whnf)|(refine And.intro ?_ ?_<;>conv=>whnf)|exact True.intro|(intro;conv=>whnf)
  · have hs := hst (by assumption)
    rw [hj, Bool.true_and] at hs
    have e : feedOk c l = false := feedOk_no (i := i + 1) (by rw [hs]; assumption)
    exact leafB hK (by simp [areNewsM, e])
  · have hs := hst (by assumption)
    rw [hj, Bool.true_and] at hs
    exact ⟨i + 1, [], [], ⟨by omega, by rw [hs]; assumption⟩, by omega, by iterate 2 ((all_goals (conv=>whnf));(repeat' (first|exact trivial|rfl|(refine nilEq ?_;first|rfl|(simp only [*];done)|(simp [*];done)|grind)|apply And.intro|((first|refine intEq ?_|refine boolEq ?_|refine strEq ?_|refine psEq ?_|refine nilEq ?_|refine arrEq ?_);(try simp only [Int.toNat_natCast,etas,elDef]);first | omega | exact (hct (by assumption)).symm))));(all_goals ((try simp only [Int.toNat_natCast,etas,elDef]);first | omega | exact (hct (by assumption)).symm)), (by exact sgOk_of (by rfl))⟩
  · rw [List.take_of_length_le (by omega)] at hj
    exact leafB hK (by grind [areNewsM])
theorem s31 : (CtrOK Try.prog 31 (.pure F31) ∧ Callable Try.prog 31) := by
  refine pure_ok (E := E31) (mkE_cons s66 (mkE_nil tab_ok)) mix (O := O31) (F := F31) Try.func31 rfl (by rfl) (by kernel_rfl) (fun args o v h => ?_) (fun args o v h => ?_) (fun args o v h hbd hp K hK => ?_)
  · unfold F31 at h; split at h <;> cases h; first | trivial | (simp [v31, Scalar, Scalar2, Scalar1, stC, ndC, itC, chC, nwC])
  · unfold F31 at h; split at h <;> cases h; exact Nat.le_of_ble_eq_true rfl
  · unfold F31 at h; split at h
    case h_2 => cases h
    cases h
    exact a31 _ _ (by exact hbd) trivial K hK
noncomputable def v26 (s : Sto) (l : List Nws) : AV := .bool (areNewsM l s.clock)
noncomputable def o26 (s : Sto) (l : List Nws) : Prop := -9223372036854775808 ≤ s.clock ∧ s.clock ≤ 1000000
noncomputable def F26 : List AV → QR
  | [.st [.ps .item s_0, .int .i64 s_1], .ps .nws l] => some (some (o26 ⟨s_0, s_1⟩ l), v26 ⟨s_0, s_1⟩ l)
  | _ => none
noncomputable def E26 : Ctx := mkE tab [(46, .pure F46), (58, .pure F58)]
noncomputable def O26 : Nat → List DI := ordL [(5, [.q 0, .q 1, .q 2, .q 3, .q 4, .q 5, .q 6, .q 7, .q 8, .q 9, .q 10, .q 11, .q 12, .q 13, .q 14, .q 15, .q 16, .q 17, .q 18, .q 19, .q 20, .q 21, .q 22, .q 23, .q 24, .q 25, .q 26, .q 27, .q 28, .q 29, .q 30, .q 31, .q 32])]
theorem a26 (s : Sto) (l : List Nws) (hb : BdAs [.st (stC s), .ps .nws l]) (ho : o26 s l) (K : AV → List AV → Prop) (hK : K (v26 s l) []) : abody E26 O26 .ps Try.f26 (Try.f26.body.getD .skip) [.st (stC s), .ps .nws l] K := by
  simp only [BdAs, BdA, BdL, BdC, MX, ndC, shC, itC, stC, opC, chC, nwC, flC, rqC, rsC, enc, List.cons_append, List.nil_append, and_true, true_and] at hb
  unfold o26 at ho
  unfold v26 at hK
  have h00 : feedOk s.clock [] = true := rfl
  conv => whnf
  refine aloop_intro Nat (fun k => k ≤ l.length ∧ feedOk s.clock (l.take k) = true) (fun k => l.length - k) (fun k => [(5, .int .i64 k)]) (fun k => []) [2] 0 [] [] ?_ ?_ (by exact sgOk_of (by rfl)) ?_
  · first | (simp; done) | (simp; assumption)
  · iterate 2 ((all_goals (conv=>whnf));(repeat' (first|exact trivial|rfl|(refine nilEq ?_;first|rfl|(simp only [*];done)|(simp [*];done)|grind)|apply And.intro|((first|refine intEq ?_|refine boolEq ?_|refine strEq ?_|refine psEq ?_|refine nilEq ?_|refine arrEq ?_);(try simp only [Int.toNat_natCast,etas,elDef]);first | done | omega | grind | (simp only [*]; done) | (simp [*]; done)))));(all_goals ((try simp only [Int.toNat_natCast,etas,elDef]);first | done | omega | grind | (simp only [*]; done) | (simp [*]; done)))
  rintro i ⟨hi, hj⟩
  conv => whnf
  have hst := fun h => feedAt_step (c := s.clock) (l := l) (i := i) h hj
  repeat' first|(refine Cnd.mk (fun h=>?_) (fun h=>?_)<;>(try simp [etas,elDef,-List.getD_eq_getElem?_getD] at h)<;>conv=>whnf)|(refine Obl.mk (by first|omega|rfl|exact inK_byte _|(simp only [inK,Int.toNat_natCast,etas,elDef]<;>first|omega|grind)|grind [inK]) ?_<;>conv=>whnf)|(refine OblG.mk (by ((conv=>whnf);(repeat (first|(refine Bx.mk ?_)|(intro h;(try simp [etas,elDef,-List.getD_eq_getElem?_getD] at h);conv=>whnf)));(first|omega|rfl|exact inK_byte _|(simp only [inK,Int.toNat_natCast,etas,elDef]<;>first|omega|grind)|grind [inK]))) ?_<;>conv=>whnf)|(refine Gd.mk (fun h=>?_)<;>(try simp [etas,elDef,-List.getD_eq_getElem?_getD] at h)<;>conv=>whnf)|(refine And.intro ?_ ?_<;>conv=>whnf)|exact True.intro|(intro;conv=>whnf)
  · have e : feedAt s.clock l i = false := by unfold feedAt; grind
    have e2 : feedOk s.clock l = false := feedOk_no (i := i + 1) (by rw [hst (by assumption)]; exact e)
    exact leafB hK (by simp [areNewsM, e2])
  · have e : feedAt s.clock l i = true := by unfold feedAt; grind
    exact ⟨i + 1, [], [], ⟨by omega, by exact (hst (by assumption)).trans e⟩, by omega, by iterate 2 ((all_goals (conv=>whnf));(repeat' (first|exact trivial|rfl|(refine nilEq ?_;first|rfl|(simp only [*];done)|(simp [*];done)|grind)|apply And.intro|((first|refine intEq ?_|refine boolEq ?_|refine strEq ?_|refine psEq ?_|refine nilEq ?_|refine arrEq ?_);(try simp only [Int.toNat_natCast,etas,elDef]);first | done | omega | grind | (simp only [*]; done) | (simp [*]; done)))));(all_goals ((try simp only [Int.toNat_natCast,etas,elDef]);first | done | omega | grind | (simp only [*]; done) | (simp [*]; done))), (by exact sgOk_of (by rfl))⟩
  · rw [List.take_of_length_le (by omega)] at hj
    exact leafB hK (by simp only [areNewsM, hj, Bool.and_true]; rw [Bool.eq_iff_iff]; simp; omega)
theorem s26 : (CtrOK Try.prog 26 (.pure F26) ∧ Callable Try.prog 26) := by
  refine pure_ok (E := E26) (mkE_cons s46 (mkE_cons s58 (mkE_nil tab_ok))) mix (O := O26) (F := F26) Try.func26 rfl (by rfl) (by kernel_rfl) (fun args o v h => ?_) (fun args o v h => ?_) (fun args o v h hbd hp K hK => ?_)
  · unfold F26 at h; split at h <;> cases h; first | trivial | (simp [v26, Scalar, Scalar2, Scalar1, stC, ndC, itC, chC, nwC])
  · unfold F26 at h; split at h <;> cases h; exact Nat.le_of_ble_eq_true rfl
  · unfold F26 at h; split at h
    case h_2 => cases h
    cases h
    exact a26 ⟨_, _⟩ _ (by exact hbd) (hp _ rfl) K hK
noncomputable def c27 (s : Sto) (l : List Nws) (K : AV → List AV → Prop) : Prop :=
    Obl ((storeM s && areNewsM l s.clock) = true) (K (.st [.ps .item (followM s l).items, .int .i64 (followM s l).clock]) [])
noncomputable def C27 : List AV → (AV → List AV → Prop) → Prop
  | [.st [.ps .item s_0, .int .i64 s_1], .ps .nws l], K => c27 ⟨s_0, s_1⟩ l K
  | _, _ => False
noncomputable def E27 : Ctx := mkE tab [(59, .gen .ln C59), (60, .gen .ln C60), (61, .gen .ln C61)]
noncomputable def O27 : Nat → List DI := ordL [(5, [.q 0, .q 1, .q 2, .q 3, .q 4, .q 5, .q 6, .q 7, .q 8, .a 9, .l 10 []]), (7, [.q 0, .q 1, .q 2, .q 3, .q 4, .q 5, .l 6 [], .l 7 []]), (8, [.q 0, .q 1, .q 2, .q 3, .q 4, .q 5, .q 6, .q 7, .q 8, .q 9, .q 10, .l 11 [], .l 12 []])]
theorem a27 (s : Sto) (l : List Nws) (hb : BdAs [.st (stC s), .ps .nws l]) (K : AV → List AV → Prop) (h : c27 s l K) : abody E27 O27 .ow Try.f27 (Try.f27.body.getD .skip) [.st (stC s), .ps .nws l] K := by
  simp only [BdAs, BdA, BdL, BdC, MX, ndC, shC, itC, stC, opC, chC, nwC, flC, rqC, rsC, enc, List.cons_append, List.nil_append, and_true, true_and] at hb
  unfold c27 at h
  obtain ⟨ho, hK⟩ := h
  have hf := ff_facts ho
  have hs := storeM_sm (by simp only [Bool.and_eq_true] at ho; exact ho.1)
  conv => whnf
  repeat' first|(refine Cnd.mk (fun h=>?_) (fun h=>?_)<;>(try simp [etas,elDef,-List.getD_eq_getElem?_getD] at h)<;>conv=>whnf)|(refine Obl.mk (by first|omega|rfl|exact inK_byte _|(simp only [inK,Int.toNat_natCast,etas,elDef]<;>first|omega|grind)|grind [inK]) ?_<;>conv=>whnf)|(refine OblG.mk (by ((conv=>whnf);(repeat (first|(refine Bx.mk ?_)|(intro h;(try simp [etas,elDef,-List.getD_eq_getElem?_getD] at h);conv=>whnf)));(first|omega|rfl|exact inK_byte _|(simp only [inK,Int.toNat_natCast,etas,elDef]<;>first|omega|grind)|grind [inK]))) ?_<;>conv=>whnf)|(refine Gd.mk (fun h=>?_)<;>(try simp [etas,elDef,-List.getD_eq_getElem?_getD] at h)<;>conv=>whnf)|(refine And.intro ?_ ?_<;>conv=>whnf)|exact True.intro|(intro;conv=>whnf)
  refine aloop_intro Nat (fun k => k ≤ l.length ∧ True) (fun k => l.length - k) (fun k => [(6, .int .i64 k)]) (fun k => [(5, .box (stC (followM s (l.take k))))]) [2, 4] 0 [] [] ?_ ?_ (by exact sgOk_of (by rfl)) ?_
  · first | (simp; done) | (simp; assumption)
  · iterate 2 ((all_goals (conv=>whnf));(repeat' (first|exact trivial|rfl|(refine nilEq ?_;first|rfl|(simp only [*];done)|(simp [*];done)|grind)|apply And.intro|((first|refine intEq ?_|refine boolEq ?_|refine strEq ?_|refine psEq ?_|refine nilEq ?_|refine arrEq ?_);(try simp only [Int.toNat_natCast,etas,elDef]);first | done | omega | grind | (simp only [*]; done) | (simp [*]; done)))));(all_goals ((try simp only [Int.toNat_natCast,etas,elDef]);first | done | omega | grind | (simp only [*]; done) | (simp [*]; done)))
  rintro i ⟨hi, hj⟩
  conv => whnf
  obtain ⟨f1, f2, f3, f4, f5⟩ := hf i
  have hsm := wide_small f1 f3
  have hsm1 : smS ⟨(followM s (l.take i)).items, (l.getD i default).version - 1⟩ := hsm
  rcases Nat.lt_or_ge i l.length with hil | hil
  · have hft := followM_take (s := s) hil
    have hn := (feedOk_ge f5).2 _ (getD_mem (d := default) hil)
    have hok : newsM (l.getD i default) (followM s (l.take i)).clock = true := by
      have := feedOk_pre f5 (i + 1)
      rw [feedOk_take hil, Bool.and_eq_true] at this
      rw [f2]; exact this.2
    have hnode : smN (l.getD i default).node := by
      simp only [newsM, changeM, Bool.and_eq_true] at hok
      exact validM_sm hok.1.1.1.2
    have hc0 := (storeM_clock (by simp only [Bool.and_eq_true] at ho; exact ho.1)).1
    have hs1 : (stepN (followM s (l.take i)) (l.getD i default)).clock = (l.getD i default).version := rfl
    conv => whnf
    repeat' first|(refine Cnd.mk (fun h=>?_) (fun h=>?_)<;>(try simp [etas,elDef,-List.getD_eq_getElem?_getD] at h)<;>conv=>whnf)|(refine Obl.mk (by first|omega|rfl|exact inK_byte _|(simp only [inK,Int.toNat_natCast,etas,elDef]<;>first|omega|grind)|grind [inK]) ?_<;>conv=>whnf)|(refine OblG.mk (by ((conv=>whnf);(repeat (first|(refine Bx.mk ?_)|(intro h;(try simp [etas,elDef,-List.getD_eq_getElem?_getD] at h);conv=>whnf)));(first|omega|rfl|exact inK_byte _|(simp only [inK,Int.toNat_natCast,etas,elDef]<;>first|omega|grind)|grind [inK]))) ?_<;>conv=>whnf)|(refine Gd.mk (fun h=>?_)<;>(try simp [etas,elDef,-List.getD_eq_getElem?_getD] at h)<;>conv=>whnf)|(refine And.intro ?_ ?_<;>conv=>whnf)|exact True.intro|(intro;conv=>whnf)
    · have hit : dropL (followM s (l.take i)).items (l.getD i default).name = (followM s (l.take (i + 1))).items := by rw [hft]; simp only [stepN, h, if_true, if_false, Bool.false_eq_true]
      have hck : (l.getD i default).version - 1 + 1 = (followM s (l.take (i + 1))).clock := by rw [hft, hs1]; omega
      exact ⟨i + 1, [], [37000], ⟨by omega, trivial⟩, by omega, by iterate 2 ((all_goals (conv=>whnf));(repeat' (first|exact trivial|rfl|(refine nilEq ?_;first|rfl|(simp only [*];done)|(simp [*];done)|grind)|apply And.intro|((first|refine intEq ?_|refine boolEq ?_|refine strEq ?_|refine psEq ?_|refine nilEq ?_|refine arrEq ?_);(try simp only [Int.toNat_natCast,etas,elDef]);first | exact hit | exact hck | omega))));(all_goals ((try simp only [Int.toNat_natCast,etas,elDef]);first | exact hit | exact hck | omega)), (by exact sgOk_of (by rfl))⟩
    · have hit : (putS ⟨(followM s (l.take i)).items, (l.getD i default).version - 1⟩ (l.getD i default).name (l.getD i default).node).items = (followM s (l.take (i + 1))).items := by rw [hft]; simp only [stepN, putS, h, if_false, Bool.false_eq_true, Int.sub_add_cancel]
      have hck : (putS ⟨(followM s (l.take i)).items, (l.getD i default).version - 1⟩ (l.getD i default).name (l.getD i default).node).clock = (followM s (l.take (i + 1))).clock := by rw [hft]; simp only [stepN, putS, Int.sub_add_cancel]
      exact ⟨i + 1, [], [49000], ⟨by omega, trivial⟩, by omega, by iterate 2 ((all_goals (conv=>whnf));(repeat' (first|exact trivial|rfl|(refine nilEq ?_;first|rfl|(simp only [*];done)|(simp [*];done)|grind)|apply And.intro|((first|refine intEq ?_|refine boolEq ?_|refine strEq ?_|refine psEq ?_|refine nilEq ?_|refine arrEq ?_);(try simp only [Int.toNat_natCast,etas,elDef]);first | exact hit | exact hck | omega))));(all_goals ((try simp only [Int.toNat_natCast,etas,elDef]);first | exact hit | exact hck | omega)), (by exact sgOk_of (by rfl))⟩
    · exfalso; omega
  · conv => whnf
    repeat' first|(refine Cnd.mk (fun h=>?_) (fun h=>?_)<;>(try simp [etas,elDef,-List.getD_eq_getElem?_getD] at h)<;>conv=>whnf)|(refine Obl.mk (by first|omega|rfl|exact inK_byte _|(simp only [inK,Int.toNat_natCast,etas,elDef]<;>first|omega|grind)|grind [inK]) ?_<;>conv=>whnf)|(refine OblG.mk (by ((conv=>whnf);(repeat (first|(refine Bx.mk ?_)|(intro h;(try simp [etas,elDef,-List.getD_eq_getElem?_getD] at h);conv=>whnf)));(first|omega|rfl|exact inK_byte _|(simp only [inK,Int.toNat_natCast,etas,elDef]<;>first|omega|grind)|grind [inK]))) ?_<;>conv=>whnf)|(refine Gd.mk (fun h=>?_)<;>(try simp [etas,elDef,-List.getD_eq_getElem?_getD] at h)<;>conv=>whnf)|(refine And.intro ?_ ?_<;>conv=>whnf)|exact True.intro|(intro;conv=>whnf)
    · exfalso; omega
    · exfalso; omega
    · exact leafV hK (by rw [List.take_of_length_le (by omega)])
theorem s27 : (CtrOK Try.prog 27 (.gen .ow C27) ∧ Callable Try.prog 27) := by
  refine gen_ok (E := E27) (mkE_cons s59 (mkE_cons s60 (mkE_cons s61 (mkE_nil tab_ok)))) mix (O := O27) (C := C27) (own := .ow) Try.func27 rfl (by rfl) (by kernel_rfl) (fun args K h hbd => ?_)
  unfold C27 at h; split at h
  case h_2 => exact h.elim
  exact ⟨Nat.le_of_ble_eq_true rfl, a27 ⟨_, _⟩ _ (by exact hbd) _ h⟩
noncomputable def c7 (s : Sto) (l : List Nws) (K : AV → List AV → Prop) : Prop :=
    K (optS (ffM s l)) []
noncomputable def C7 : List AV → (AV → List AV → Prop) → Prop
  | [.st [.ps .item s_0, .int .i64 s_1], .ps .nws l], K => c7 ⟨s_0, s_1⟩ l K
  | _, _ => False
noncomputable def E7 : Ctx := mkE tab [(25, .pure F25), (26, .pure F26), (27, .gen .ow C27)]
noncomputable def O7 : Nat → List DI := ordL []
theorem a7 (s : Sto) (l : List Nws) (hb : BdAs [.st (stC s), .ps .nws l]) (K : AV → List AV → Prop) (h : c7 s l K) : abody E7 O7 .ps Try.f7 (Try.f7.body.getD .skip) [.st (stC s), .ps .nws l] K := by
  simp only [BdAs, BdA, BdL, BdC, MX, ndC, shC, itC, stC, opC, chC, nwC, flC, rqC, rsC, enc, List.cons_append, List.nil_append, and_true, true_and] at hb
  unfold c7 at h
  have hK := h
  have h8 : storeM s = true → 0 ≤ s.clock ∧ s.clock ≤ 999 ∧ s.items.length ≤ 10 := storeM_clock
  have h7 := fun h => ff_store (s := s) (l := l) h
  conv => whnf
  repeat' first|(refine Cnd.mk (fun h=>?_) (fun h=>?_)<;>(try simp [etas,elDef,-List.getD_eq_getElem?_getD] at h)<;>conv=>whnf)|(refine Obl.mk (by first|omega|rfl|exact inK_byte _|(simp only [inK,Int.toNat_natCast,etas,elDef,o26]<;>first|omega|grind)|grind [inK,o26]) ?_<;>conv=>whnf)|(refine OblG.mk (by ((conv=>whnf);(repeat (first|(refine Bx.mk ?_)|(intro h;(try simp [etas,elDef,-List.getD_eq_getElem?_getD] at h);conv=>whnf)));(first|omega|rfl|exact inK_byte _|(simp only [inK,Int.toNat_natCast,etas,elDef,o26]<;>first|omega|grind)|grind [inK,o26]))) ?_<;>conv=>whnf)|(refine Gd.mk (fun h=>?_)<;>(try simp [etas,elDef,-List.getD_eq_getElem?_getD] at h)<;>conv=>whnf)|(refine And.intro ?_ ?_<;>conv=>whnf)|exact True.intro|(intro;conv=>whnf)
  · have e : ffM s l = none := by grind [ffM]
    exact leafV hK (by rw [e]; (try simp only [etas, elDef, Int.toNat_natCast]); (first | done | rfl | simp [optS, stC]))
  · have e : ffM s l = none := by grind [ffM]
    exact leafV hK (by rw [e]; (try simp only [etas, elDef, Int.toNat_natCast]); (first | done | rfl | simp [optS, stC]))
  · have e : ffM s l = some (followM s l) := by grind [ffM]
    exact leafV hK (by rw [e]; (try simp only [etas, elDef, Int.toNat_natCast]); (first | done | rfl | simp [optS, stC]))
theorem s7 : (CtrOK Try.prog 7 (.gen .ps C7) ∧ Callable Try.prog 7) := by
  refine gen_ok (E := E7) (mkE_cons s25 (mkE_cons s26 (mkE_cons s27 (mkE_nil tab_ok)))) mix (O := O7) (C := C7) (own := .ps) Try.func7 rfl (by rfl) (by kernel_rfl) (fun args K h hbd => ?_)
  unfold C7 at h; split at h
  case h_2 => exact h.elim
  exact ⟨Nat.le_of_ble_eq_true rfl, a7 ⟨_, _⟩ _ (by exact hbd) _ h⟩
noncomputable def v47 (l : List Chg) (k : Int) : AV := .bool (lastM l k.toNat)
noncomputable def o47 (l : List Chg) (k : Int) : Prop := 0 ≤ k ∧ k < l.length ∧ l.length ≤ 1000000
noncomputable def F47 : List AV → QR
  | [.ps .chg l, .int .i64 k] => some (some (o47 l k), v47 l k)
  | _ => none
noncomputable def E47 : Ctx := mkE tab []
noncomputable def O47 : Nat → List DI := ordL [(4, [.q 0, .q 1, .q 2, .q 3, .q 4, .q 5, .q 6, .q 7, .q 8, .q 9, .q 10])]
theorem a47 (l : List Chg) (k : Int) (hb : BdAs [.ps .chg l, .int .i64 k]) (ho : o47 l k) (K : AV → List AV → Prop) (hK : K (v47 l k) []) : abody E47 O47 .ps Try.f47 (Try.f47.body.getD .skip) [.ps .chg l, .int .i64 k] K := by
  simp only [BdAs, BdA, BdL, BdC, MX, ndC, shC, itC, stC, opC, chC, nwC, flC, rqC, rsC, enc, List.cons_append, List.nil_append, and_true, true_and] at hb
  unfold o47 at ho
  unfold v47 at hK
  have hl := lastM_iff l k.toNat
  conv => whnf
  repeat' first|(refine Cnd.mk (fun h=>?_) (fun h=>?_)<;>(try simp [etas,elDef,-List.getD_eq_getElem?_getD] at h)<;>conv=>whnf)|(refine Obl.mk (by first|omega|rfl|exact inK_byte _|(simp only [inK,Int.toNat_natCast,etas,elDef]<;>first|omega|grind)|grind [inK]) ?_<;>conv=>whnf)|(refine OblG.mk (by ((conv=>whnf);(repeat (first|(refine Bx.mk ?_)|(intro h;(try simp [etas,elDef,-List.getD_eq_getElem?_getD] at h);conv=>whnf)));(first|omega|rfl|exact inK_byte _|(simp only [inK,Int.toNat_natCast,etas,elDef]<;>first|omega|grind)|grind [inK]))) ?_<;>conv=>whnf)|(refine Gd.mk (fun h=>?_)<;>(try simp [etas,elDef,-List.getD_eq_getElem?_getD] at h)<;>conv=>whnf)|(refine And.intro ?_ ?_<;>conv=>whnf)|exact True.intro|(intro;conv=>whnf)
  refine aloop_intro Nat (fun j => k.toNat + 1 ≤ j ∧ j ≤ l.length ∧ ∀ i, k.toNat < i → i < j → (l.getD i default).name ≠ (l.getD k.toNat default).name) (fun j => l.length - j) (fun j => [(5, .int .i64 j)]) (fun _ => []) [] (k.toNat + 1) [] [] ⟨Nat.le_refl _, by omega, fun i h1 h2 => by omega⟩ ?_ (by exact sgOk_of (by rfl)) ?_
  · iterate 2 ((all_goals (conv=>whnf));(repeat' (first|exact trivial|rfl|(refine nilEq ?_;first|rfl|(simp only [*];done)|(simp [*];done)|grind)|apply And.intro|((first|refine intEq ?_|refine boolEq ?_|refine strEq ?_|refine psEq ?_|refine nilEq ?_|refine arrEq ?_);(try simp only [Int.toNat_natCast,etas,elDef]);first | done | omega | grind | (simp only [*]; done) | (simp [*]; done)))));(all_goals ((try simp only [Int.toNat_natCast,etas,elDef]);first | done | omega | grind | (simp only [*]; done) | (simp [*]; done)))
  rintro j ⟨h1, h2, h3⟩
  conv => whnf
  repeat' first|(refine Cnd.mk (fun h=>?_) (fun h=>?_)<;>(try simp [etas,elDef,-List.getD_eq_getElem?_getD] at h)<;>conv=>whnf)|(refine Obl.mk (by first|omega|rfl|exact inK_byte _|(simp only [inK,Int.toNat_natCast,etas,elDef]<;>first|omega|grind)|grind [inK]) ?_<;>conv=>whnf)|(refine OblG.mk (by ((conv=>whnf);(repeat (first|(refine Bx.mk ?_)|(intro h;(try simp [etas,elDef,-List.getD_eq_getElem?_getD] at h);conv=>whnf)));(first|omega|rfl|exact inK_byte _|(simp only [inK,Int.toNat_natCast,etas,elDef]<;>first|omega|grind)|grind [inK]))) ?_<;>conv=>whnf)|(refine Gd.mk (fun h=>?_)<;>(try simp [etas,elDef,-List.getD_eq_getElem?_getD] at h)<;>conv=>whnf)|(refine And.intro ?_ ?_<;>conv=>whnf)|exact True.intro|(intro;conv=>whnf)
  · have e : lastM l k.toNat = false := by
      rw [Bool.eq_false_iff]; intro e; exact (hl.1 e) j (by omega) (by omega) (of_decide_eq_true h)
    exact leafB hK e
  · exact ⟨j + 1, [], [], ⟨by omega, by omega, fun i hi1 hi2 => (Nat.lt_or_eq_of_le (Nat.le_of_lt_succ hi2)).elim (h3 i hi1) (fun e => e ▸ of_decide_eq_false h)⟩, by omega, by iterate 2 ((all_goals (conv=>whnf));(repeat' (first|exact trivial|rfl|(refine nilEq ?_;first|rfl|(simp only [*];done)|(simp [*];done)|grind)|apply And.intro|((first|refine intEq ?_|refine boolEq ?_|refine strEq ?_|refine psEq ?_|refine nilEq ?_|refine arrEq ?_);(try simp only [Int.toNat_natCast,etas,elDef]);first | done | omega | grind | (simp only [*]; done) | (simp [*]; done)))));(all_goals ((try simp only [Int.toNat_natCast,etas,elDef]);first | done | omega | grind | (simp only [*]; done) | (simp [*]; done))), (by exact sgOk_of (by rfl))⟩
  · exact leafB hK (hl.2 fun i hi1 hi2 => h3 i hi1 (by omega))
theorem s47 : (CtrOK Try.prog 47 (.pure F47) ∧ Callable Try.prog 47) := by
  refine pure_ok (E := E47) (mkE_nil tab_ok) mix (O := O47) (F := F47) Try.func47 rfl (by rfl) (by kernel_rfl) (fun args o v h => ?_) (fun args o v h => ?_) (fun args o v h hbd hp K hK => ?_)
  · unfold F47 at h; split at h <;> cases h; first | trivial | (simp [v47, Scalar, Scalar2, Scalar1, stC, ndC, itC, chC, nwC])
  · unfold F47 at h; split at h <;> cases h; exact Nat.le_of_ble_eq_true rfl
  · unfold F47 at h; split at h
    case h_2 => cases h
    cases h
    exact a47 _ _ (by exact hbd) (hp _ rfl) K hK
end Go.Rs

