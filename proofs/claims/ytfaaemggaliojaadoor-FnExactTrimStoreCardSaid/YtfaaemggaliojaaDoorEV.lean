import Derived.Test.YtfaaemggaliojaaDoorEU
import Derived.Test.YtfaaemggaliojaaDoorCS
import Derived.Test.YtfaaemggaliojaaDoorEC
set_option linter.all false
set_option linter.unusedSimpArgs false
set_option linter.unusedVariables false
namespace Go.Rs
open Go.Proofs Go.RowKit
set_option maxRecDepth 100000
noncomputable def c10o (s : Sto) (l : List Flt) (K : AV → List AV → Prop) : Prop :=
    K (.own .str (namesI (selM s l).items)) []
noncomputable def C10o : List AV → (AV → List AV → Prop) → Prop
  | [.st [.ps .item s_0, .int .i64 s_1], .ps .flt l], K => c10o ⟨s_0, s_1⟩ l K
  | _, _ => False
noncomputable def E10o : Ctx := mkE tab [(28, .gen .ps C28)]
noncomputable def O10o : Nat → List DI := ordL []
theorem a10o (s : Sto) (l : List Flt) (hb : BdAs [.st (stC s), .ps .flt l]) (K : AV → List AV → Prop) (h : c10o s l K) : abody E10o O10o .ow Tryd.f10 (Tryd.f10.body.getD .skip) [.st (stC s), .ps .flt l] K := by
  simp only [BdAs, BdA, BdL, BdC, MX, ndC, shC, itC, stC, opC, chC, nwC, flC, rqC, rsC, enc, List.cons_append, List.nil_append, and_true, true_and] at hb
  unfold c10o at h
  have hK := h
  have hlen : (selM s l).items.length ≤ 10 := by
    unfold selM
    split
    · rename_i hv
      simp only [Bool.and_eq_true] at hv
      exact (storeM_clock (sel_store (l := l) hv.1)).2.2
    · simp
  conv => whnf
  repeat' first|((first|refine Cnd.mk (fun h=>?_) (fun h=>?_)|refine Gd.mk (fun h=>?_))<;>(try simp [etas,elDef,-List.getD_eq_getElem?_getD] at h)<;>conv=>whnf)|((first|refine Obl.mk (by first|omega|rfl|exact inK_byte _|(simp only [inK,Int.toNat_natCast,etas,elDef]<;>first|omega|grind)|grind [inK]) ?_|refine OblG.mk (by ((conv=>whnf);(repeat (first|refine Bx.mk ?_|(intro h;(try simp [etas,elDef,-List.getD_eq_getElem?_getD] at h);conv=>whnf)));(first|omega|rfl|exact inK_byte _|(simp only [inK,Int.toNat_natCast,etas,elDef]<;>first|omega|grind)|grind [inK]))) ?_|refine And.intro ?_ ?_)<;>conv=>whnf)|exact True.intro|(intro;conv=>whnf)
  refine aloop_intro (Nat × List Bs) (fun q => q.1 ≤ (selM s l).items.length ∧ q.2 = namesI ((selM s l).items.take q.1)) (fun q => (selM s l).items.length - q.1) (fun q => [(13, .int .i64 q.1), (5, nlV .str q.2)]) (fun q => nlL .str q.2) [] (0, []) [] [] ⟨Nat.zero_le _, rfl⟩ ?_ (by exact sgOk_of (by rfl)) ?_
  · iterate 2 ((all_goals (conv=>whnf));(repeat' (first|exact trivial|rfl|(refine nilEq ?_;first|rfl|(simp only [*];done)|(simp [*];done)|grind)|apply And.intro|((first|apply intEq|apply boolEq|apply strEq|apply psEq|apply nilEq|apply arrEq);(try simp only [Int.toNat_natCast,etas,elDef]);first | done | omega | grind | (simp only [*]; done) | (simp [*]; done)))));(all_goals ((try simp only [Int.toNat_natCast,etas,elDef]);first | done | omega | grind | (simp only [*]; done) | (simp [*]; done)))
  rintro ⟨i, _ | ⟨a, r⟩⟩ ⟨hi, hj⟩
  · dsimp only at hi hj
    have htk := fun h => namesI_take (l := (selM s l).items) (i := i) h
    conv => whnf
    repeat' first|((first|refine Cnd.mk (fun h=>?_) (fun h=>?_)|refine Gd.mk (fun h=>?_))<;>(try simp [etas,elDef,-List.getD_eq_getElem?_getD] at h)<;>conv=>whnf)|((first|refine Obl.mk (by first|omega|rfl|exact inK_byte _|(simp only [inK,Int.toNat_natCast,etas,elDef]<;>first|omega|grind)|grind [inK]) ?_|refine OblG.mk (by ((conv=>whnf);(repeat (first|refine Bx.mk ?_|(intro h;(try simp [etas,elDef,-List.getD_eq_getElem?_getD] at h);conv=>whnf)));(first|omega|rfl|exact inK_byte _|(simp only [inK,Int.toNat_natCast,etas,elDef]<;>first|omega|grind)|grind [inK]))) ?_|refine And.intro ?_ ?_)<;>conv=>whnf)|exact True.intro|(intro;conv=>whnf)
    · exact ⟨(i + 1, [((selM s l).items.getD i default).name]), [(900, 21)], [], ⟨by simp only; omega, by simp only; rw [htk (by assumption), ← hj]; rfl⟩, by simp only; omega, by iterate 2 ((all_goals (conv=>whnf));(repeat' (first|exact trivial|rfl|(refine nilEq ?_;first|rfl|(simp only [*];done)|(simp [*];done)|grind)|apply And.intro|((first|apply intEq|apply boolEq|apply strEq|apply psEq|apply nilEq|apply arrEq);(try simp only [Int.toNat_natCast,etas,elDef]);first | done | omega | grind | (simp only [*]; done) | (simp [*]; done)))));(all_goals ((try simp only [Int.toNat_natCast,etas,elDef]);first | done | omega | grind | (simp only [*]; done) | (simp [*]; done))), (by exact sgOk_of (by rfl))⟩
    · exact leafV hK (by rw [List.take_of_length_le (by omega)] at hj; rw [← hj])
  · dsimp only at hi hj
    have htk := fun h => namesI_take (l := (selM s l).items) (i := i) h
    have hln : (a :: r).length = i := by rw [hj]; simp [namesI]; omega
    have hl2 : (a :: r).length + [((selM s l).items.getD i default).name].length ≤ 1073741824 := by simp at hln ⊢; omega
    conv => whnf
    repeat' first|((first|refine Cnd.mk (fun h=>?_) (fun h=>?_)|refine Gd.mk (fun h=>?_))<;>(try simp [etas,elDef,-List.getD_eq_getElem?_getD] at h)<;>conv=>whnf)|((first|refine Obl.mk (by first|omega|rfl|exact inK_byte _|(simp only [inK,Int.toNat_natCast,etas,elDef]<;>first|omega|grind)|grind [inK]) ?_|refine OblG.mk (by ((conv=>whnf);(repeat (first|refine Bx.mk ?_|(intro h;(try simp [etas,elDef,-List.getD_eq_getElem?_getD] at h);conv=>whnf)));(first|omega|rfl|exact inK_byte _|(simp only [inK,Int.toNat_natCast,etas,elDef]<;>first|omega|grind)|grind [inK]))) ?_|refine And.intro ?_ ?_)<;>conv=>whnf)|exact True.intro|(intro;conv=>whnf)
    · exact ⟨(i + 1, a :: r ++ [((selM s l).items.getD i default).name]), [(900, 21)], [], ⟨by simp only; omega, by simp only; rw [htk (by assumption), ← hj]⟩, by simp only; omega, by iterate 2 ((all_goals (conv=>whnf));(repeat' (first|exact trivial|rfl|(refine nilEq ?_;first|rfl|(simp only [*];done)|(simp [*];done)|grind)|apply And.intro|((first|apply intEq|apply boolEq|apply strEq|apply psEq|apply nilEq|apply arrEq);(try simp only [Int.toNat_natCast,etas,elDef]);first | done | omega | grind | (simp only [*]; done) | (simp [*]; done)))));(all_goals ((try simp only [Int.toNat_natCast,etas,elDef]);first | done | omega | grind | (simp only [*]; done) | (simp [*]; done))), (by exact sgOk_of (by rfl))⟩
    · exact leafV hK (by rw [List.take_of_length_le (by omega)] at hj; rw [← hj])
theorem s10o : (CtrOK Tryd.prog 10 (.gen .ow C10o) ∧ Callable Tryd.prog 10) := by
  refine gen_ok (E := E10o) (mkE_cons s28 (mkE_nil tab_ok)) mix (O := O10o) (C := C10o) (own := .ow) Tryd.func10 rfl (by rfl) (by kernel_rfl) (fun args K h hbd => ?_)
  unfold C10o at h; split at h
  case h_2 => exact h.elim
  exact ⟨Nat.le_of_ble_eq_true rfl, a10o ⟨_, _⟩ _ (by exact hbd) _ h⟩
noncomputable def c19d (s : Sto) (m : Int) (K : AV → List AV → Prop) : Prop :=
    K (.tup [.st (stD (trimS s m).1), .own .str (trimS s m).2]) []
noncomputable def D19d : List AV → (AV → List AV → Prop) → Prop
  | [.st [.ps .item s_0, .int .i64 s_1], .int .i64 m], K => c19d ⟨s_0, s_1⟩ m K
  | _, _ => False
noncomputable def C19d (args : List AV) (K : AV → List AV → Prop) : Prop := D19d (fixAs args) K
noncomputable def E19d : Ctx := mkE tab [(38, .pure F38), (39, .gen .ow C39d), (40, .pure F40), (41, .pure F41), (42, .pure F42), (43, .gen .ow C43d)]
noncomputable def O19d : Nat → List DI := ordL []
theorem a19d (s : Sto) (m : Int) (hb : BdAs [.st (stC s), .int .i64 m]) (K : AV → List AV → Prop) (h : c19d s m K) : abodyD E19d O19d .ow Tryd.f19 (Tryd.f19.body.getD .skip) [.st (stC s), .int .i64 m] (fun r rs => K (fixR r) (fixAs rs)) := by
  simp only [BdAs, BdA, BdL, BdC, MX, ndC, shC, itC, stC, opC, chC, nwC, flC, rqC, rsC, enc, List.cons_append, List.nil_append, and_true, true_and] at hb
  unfold c19d at h
  have hK9 := h
  have hsm := fun (h : storeM s = true) => storeM_sm h
  conv => whnf
  repeat' first|((first|refine Cnd.mk (fun h=>?_) (fun h=>?_)|refine Gd.mk (fun h=>?_))<;>(try simp [etas,elDef,-List.getD_eq_getElem?_getD] at h)<;>conv=>whnf)|((first|refine Obl.mk (by first|omega|rfl|exact inK_byte _|(simp only [inK,Int.toNat_natCast,etas,elDef,o41,o42]<;>first|omega|grind)|grind [inK,o41,o42]) ?_|refine OblG.mk (by ((conv=>whnf);(repeat (first|refine Bx.mk ?_|(intro h;(try simp [etas,elDef,-List.getD_eq_getElem?_getD] at h);conv=>whnf)));(first|omega|rfl|exact inK_byte _|(simp only [inK,Int.toNat_natCast,etas,elDef,o41,o42]<;>first|omega|grind)|grind [inK,o41,o42]))) ?_|refine And.intro ?_ ?_)<;>conv=>whnf)|exact True.intro|(intro;conv=>whnf)
  · exact leafV hK9 (by unfold trimS; rw [if_neg (by rcases h with h | h <;> simp [h])]; rfl)
  obtain ⟨hs, hm⟩ := h
  have hz : stSzM s = sizeM s.items := by unfold stSzM; rw [if_pos hs]
  have hT : trimS s m = (⟨(trimF m s.items).1, s.clock⟩, (trimF m s.items).2) := by unfold trimS; rw [if_pos ⟨hs, hm⟩]
  rw [hT] at hK9
  refine aloop_intro (List It × List Bs) (fun q => storeM ⟨q.1, s.clock⟩ = true ∧ q.2.length + q.1.length = s.items.length ∧ trimF m s.items = ((trimF m q.1).1, q.2 ++ (trimF m q.1).2)) (fun q => q.1.length) (fun q => [(8, .int .i64 (sizeM q.1)), (7, nlV .str q.2)]) (fun q => (6, .box [.ls 901, .int .i64 s.clock]) :: (901, .tree .item q.1) :: nlL .str q.2) [4] (s.items, []) [(901, 20000)] [] ?_ ?_ (by exact sgOk_of (by rfl)) ?_
  · exact ⟨hs, by simp, by simp⟩
  · iterate 2 ((all_goals (conv=>whnf));(repeat' (first|exact trivial|rfl|(refine nilEq ?_;first|rfl|(simp only [*];done)|(simp [*];done)|grind)|apply And.intro|((first|apply intEq|apply boolEq|apply strEq|apply psEq|apply nilEq|apply arrEq);(try simp only [Int.toNat_natCast,etas,elDef]);first | done | omega | grind | (simp only [*]; done) | (simp [*]; done)))));(all_goals ((try simp only [Int.toNat_natCast,etas,elDef]);first | done | omega | grind | (simp only [*]; done) | (simp [*]; done)))
  have h10 := (storeM_iff.1 hs).1
  rintro ⟨l, _ | ⟨a, r⟩⟩ ⟨hi1, hi2, hi3⟩
  · dsimp only at hi1 hi2 hi3
    obtain ⟨r1, r2, r3⟩ := trim_room hi1 hm
    have hst := fun (h : m < sizeM l) => trimF_step h (size_pos hm h)
    have hsp := fun (h : (sizeM l : Int) ≤ m) => trimF_stop h
    conv => whnf
    repeat' first|((first|refine Cnd.mk (fun h=>?_) (fun h=>?_)|refine Gd.mk (fun h=>?_))<;>(try simp [etas,elDef,-List.getD_eq_getElem?_getD] at h)<;>conv=>whnf)|((first|refine Obl.mk (by first|omega|rfl|exact inK_byte _|(simp only [inK,Int.toNat_natCast,etas,elDef,o41,o42]<;>first|omega|grind)|grind [inK,o41,o42]) ?_|refine OblG.mk (by ((conv=>whnf);(repeat (first|refine Bx.mk ?_|(intro h;(try simp [etas,elDef,-List.getD_eq_getElem?_getD] at h);conv=>whnf)));(first|omega|rfl|exact inK_byte _|(simp only [inK,Int.toNat_natCast,etas,elDef,o41,o42]<;>first|omega|grind)|grind [inK,o41,o42]))) ?_|refine And.intro ?_ ?_)<;>conv=>whnf)|exact True.intro|(intro;conv=>whnf)
    · obtain ⟨q1, q2, q3, q4, q5, q6, q7⟩ := r3 h
      exact ⟨(l.eraseIdx (oldI l), [(l.getD (oldI l) default).name]), [(901, 51000), (900, 44)], [], ⟨erase_store hi1 _, by simp at hi2 ⊢; omega, by rw [hi3, hst h]; simp⟩, by simp only; omega, by iterate 2 ((all_goals (conv=>whnf));(repeat' (first|exact trivial|rfl|(refine nilEq ?_;first|rfl|(simp only [*];done)|(simp [*];done)|grind)|apply And.intro|((first|apply intEq|apply boolEq|apply strEq|apply psEq|apply nilEq|apply arrEq);(try simp only [Int.toNat_natCast,etas,elDef]);first | done | omega | simp))));(all_goals ((try simp only [Int.toNat_natCast,etas,elDef]);first | done | omega | simp)), (by exact sgOk_of (by rfl))⟩
    · exact leafV hK9 (by rw [hi3, hsp h]; rfl)
  · dsimp only at hi1 hi2 hi3
    obtain ⟨r1, r2, r3⟩ := trim_room hi1 hm
    have hst := fun (h : m < sizeM l) => trimF_step h (size_pos hm h)
    have hsp := fun (h : (sizeM l : Int) ≤ m) => trimF_stop h
    have hr2 : (a :: r).length + [(l.getD (oldI l) default).name].length ≤ 1073741824 := by simp at hi2 ⊢; omega
    conv => whnf
    repeat' first|((first|refine Cnd.mk (fun h=>?_) (fun h=>?_)|refine Gd.mk (fun h=>?_))<;>(try simp [etas,elDef,-List.getD_eq_getElem?_getD] at h)<;>conv=>whnf)|((first|refine Obl.mk (by first|omega|rfl|exact inK_byte _|(simp only [inK,Int.toNat_natCast,etas,elDef,o41,o42]<;>first|omega|grind)|grind [inK,o41,o42]) ?_|refine OblG.mk (by ((conv=>whnf);(repeat (first|refine Bx.mk ?_|(intro h;(try simp [etas,elDef,-List.getD_eq_getElem?_getD] at h);conv=>whnf)));(first|omega|rfl|exact inK_byte _|(simp only [inK,Int.toNat_natCast,etas,elDef,o41,o42]<;>first|omega|grind)|grind [inK,o41,o42]))) ?_|refine And.intro ?_ ?_)<;>conv=>whnf)|exact True.intro|(intro;conv=>whnf)
    · obtain ⟨q1, q2, q3, q4, q5, q6, q7⟩ := r3 h
      exact ⟨(l.eraseIdx (oldI l), a :: r ++ [(l.getD (oldI l) default).name]), [(901, 51000), (900, 44)], [], ⟨erase_store hi1 _, by simp at hi2 ⊢; omega, by rw [hi3, hst h]; simp⟩, by simp only; omega, by iterate 2 ((all_goals (conv=>whnf));(repeat' (first|exact trivial|rfl|(refine nilEq ?_;first|rfl|(simp only [*];done)|(simp [*];done)|grind)|apply And.intro|((first|apply intEq|apply boolEq|apply strEq|apply psEq|apply nilEq|apply arrEq);(try simp only [Int.toNat_natCast,etas,elDef]);first | done | omega | simp))));(all_goals ((try simp only [Int.toNat_natCast,etas,elDef]);first | done | omega | simp)), (by exact sgOk_of (by rfl))⟩
    · exact leafV hK9 (by rw [hi3, hsp h]; simp; rfl)
theorem s19d : (CtrOK Tryd.prog 19 (.gen .ow C19d) ∧ Callable Tryd.prog 19) := by
  refine gen_okD (E := E19d) (mkE_cons s38 (mkE_cons s39d (mkE_cons s40 (mkE_cons s41 (mkE_cons s42 (mkE_cons s43d (mkE_nil tab_ok))))))) mix (O := O19d) (D := D19d) (own := .ow) Tryd.func19 rfl (by rfl) (by kernel_rfl) (fun args K h hbd => ?_)
  unfold D19d at h; split at h
  case h_2 => exact h.elim
  exact ⟨Nat.le_of_ble_eq_true rfl, a19d ⟨_, _⟩ _ (by exact hbd) _ h⟩
noncomputable def c10r (l : List It) (c : Int) (q : List Flt) (K : AV → List AV → Prop) : Prop :=
    K (.own .str (namesI (selM ⟨l, c⟩ q).items)) [.wr .item l, .wr .flt q]
noncomputable def C10r : List AV → (AV → List AV → Prop) → Prop
  | [.tup [.st [.wr .item l, .int .i64 c]], .tup [.wr .flt q]], K => c10r l c q K
  | _, _ => False
theorem s10r : CtrOK Tryd.prog 10 (.gen .ln C10r) ∧ Callable Tryd.prog 10 := by
  refine ⟨Snd.of (Snd.lend s10o.1) fun vs K h => ?_, s10o.2⟩
  unfold C10r at h
  split at h
  case h_2 => exact h.elim
  unfold c10r at h
  exact ⟨rfl, rfl, rfl, h⟩
noncomputable def c19r (l : List It) (c : Int) (m : Int) (K : AV → List AV → Prop) : Prop :=
    K (.tup [.st (stW (trimS ⟨l, c⟩ m).1), .own .str (trimS ⟨l, c⟩ m).2]) [.wr .item l]
noncomputable def C19r : List AV → (AV → List AV → Prop) → Prop
  | [.tup [.st [.wr .item l, .int .i64 c]], .int .i64 m], K => c19r l c m K
  | _, _ => False
theorem s19r : CtrOK Tryd.prog 19 (.gen .ln C19r) ∧ Callable Tryd.prog 19 := by
  refine ⟨Snd.of (Snd.lend s19d.1) fun vs K h => ?_, s19d.2⟩
  unfold C19r at h
  split at h
  case h_2 => exact h.elim
  unfold c19r at h
  exact ⟨rfl, rfl, rfl, h⟩
end Go.Rs

