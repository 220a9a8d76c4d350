import Derived.Test.YtfaaemggaliojaaDoorCP
set_option linter.all false
set_option linter.unusedSimpArgs false
set_option linter.unusedVariables false
namespace Go.Rs
open Go.Proofs
set_option maxRecDepth 100000
noncomputable def c90 (n : Nd) (p : List Bs) (K : AV → List AV → Prop) : Prop :=
    Obl (okN n) (K (optN (findM n p)) [])
noncomputable def C90 : List AV → (AV → List AV → Prop) → Prop
  | [.st [.int .i64 n_0, .int .i64 n_1, .str n_2, .ps .str n_3, .ps .node n_4], .ps .str p], K => c90 ⟨n_0, n_1, n_2, n_3, n_4⟩ p K
  | _, _ => False
noncomputable def E90 : Ctx := mkE tab [(97, .pure F97)]
noncomputable def O90 : Nat → List DI := ordL []
theorem a90 (n : Nd) (p : List Bs) (hb : BdAs [.st (ndC n), .ps .str p]) (K : AV → List AV → Prop) (h : c90 n p K) : abody E90 O90 .ps Tryd.f90 (Tryd.f90.body.getD .skip) [.st (ndC n), .ps .str p] K := by
  simp only [BdAs, BdA, BdL, BdC, MX, ndC, shC, itC, stC, opC, chC, nwC, flC, rqC, rsC, enc, List.cons_append, List.nil_append, and_true, true_and] at hb
  unfold c90 at h
  obtain ⟨ho, hK⟩ := h
  conv => whnf
  repeat' first|((first|refine Cnd.mk (fun h=>?_) (fun h=>?_)|refine Gd.mk (fun h=>?_))<;>(try simp [etas,elDef,-List.getD_eq_getElem?_getD] at h)<;>conv=>whnf)|((first|refine Obl.mk (by first|omega|rfl|exact inK_byte _|(simp only [inK,Int.toNat_natCast,etas,elDef,o97]<;>first|omega|grind)|grind [inK,o97]) ?_|refine OblG.mk (by ((conv=>whnf);(repeat (first|refine Bx.mk ?_|(intro h;(try simp [etas,elDef,-List.getD_eq_getElem?_getD] at h);conv=>whnf)));(first|omega|rfl|exact inK_byte _|(simp only [inK,Int.toNat_natCast,etas,elDef,o97]<;>first|omega|grind)|grind [inK,o97]))) ?_|refine And.intro ?_ ?_)<;>conv=>whnf)|exact True.intro|(intro;conv=>whnf)
  refine aloop_intro (Nat × Nd) (fun q => q.1 ≤ p.length ∧ okN q.2 ∧ findM n p = findM q.2 (p.drop q.1)) (fun q => p.length - q.1) (fun q => [(12, .int .i64 q.1)]) (fun q => [(2, .box (ndC q.2))]) [4] (0, n) [] [] ⟨Nat.zero_le _, ho, rfl⟩ ?_ (by exact sgOk_of (by rfl)) ?_
  · iterate 2 ((all_goals (conv=>whnf));(repeat' (first|exact trivial|rfl|(refine nilEq ?_;first|rfl|(simp only [*];done)|(simp [*];done)|grind)|apply And.intro|((first|apply intEq|apply boolEq|apply strEq|apply psEq|apply nilEq|apply arrEq);(try simp only [Int.toNat_natCast,etas,elDef]);first | done | omega | grind | (simp only [*]; done) | (simp [*]; done)))));(all_goals ((try simp only [Int.toNat_natCast,etas,elDef]);first | done | omega | grind | (simp only [*]; done) | (simp [*]; done)))
  rintro ⟨i, m⟩ ⟨hi, hm, hj⟩
  dsimp only at hi hm hj
  have hst := fun h => findM_drop (n := m) (p := p) (i := i) h
  have hk := kidM_ok (b := p.getD i []) hm
  have hpl := placeM_ge m (p.getD i [])
  conv => whnf
  repeat' first|((first|refine Cnd.mk (fun h=>?_) (fun h=>?_)|refine Gd.mk (fun h=>?_))<;>(try simp [etas,elDef,-List.getD_eq_getElem?_getD] at h)<;>conv=>whnf)|((first|refine Obl.mk (by first|omega|rfl|exact inK_byte _|(simp only [inK,Int.toNat_natCast,etas,elDef,o97]<;>first|omega|grind)|grind [inK,o97]) ?_|refine OblG.mk (by ((conv=>whnf);(repeat (first|refine Bx.mk ?_|(intro h;(try simp [etas,elDef,-List.getD_eq_getElem?_getD] at h);conv=>whnf)));(first|omega|rfl|exact inK_byte _|(simp only [inK,Int.toNat_natCast,etas,elDef,o97]<;>first|omega|grind)|grind [inK,o97]))) ?_|refine And.intro ?_ ?_)<;>conv=>whnf)|exact True.intro|(intro;conv=>whnf)
  · have hp : placeM m (p.getD i []) < 0 := by have := hk.1; grind
    have e : findM n p = none := by rw [hj, hst (by assumption), if_pos hp]
    exact leafV hK (by rw [e]; rfl)
  · have hp : ¬ placeM m (p.getD i []) < 0 := by have := hk.1; grind
    have e1 := hk.2 (by assumption)
    have e : findM n p = findM (m.kids.getD (kidM m (p.getD i [])).1.toNat default) (p.drop (i + 1)) := by rw [hj, hst (by assumption), if_neg hp, e1]
    exact ⟨(i + 1, m.kids.getD (kidM m (p.getD i [])).1.toNat default), [], [], ⟨by simp only; omega, okN_kid hm (by omega), e⟩, by simp only; omega, by iterate 2 ((all_goals (conv=>whnf));(repeat' (first|exact trivial|rfl|(refine nilEq ?_;first|rfl|(simp only [*];done)|(simp [*];done)|grind)|apply And.intro|((first|apply intEq|apply boolEq|apply strEq|apply psEq|apply nilEq|apply arrEq);(try simp only [Int.toNat_natCast,etas,elDef]);first | done | omega | grind | (simp only [*]; done) | (simp [*]; done)))));(all_goals ((try simp only [Int.toNat_natCast,etas,elDef]);first | done | omega | grind | (simp only [*]; done) | (simp [*]; done))), (by exact sgOk_of (by rfl))⟩
  · have e : findM n p = some m := by rw [hj, List.drop_of_length_le (by omega)]; rfl
    exact leafV hK (by rw [e]; rfl)
theorem s90 : (CtrOK Tryd.prog 90 (.gen .ps C90) ∧ Callable Tryd.prog 90) := by
  refine gen_ok (E := E90) (mkE_cons s97 (mkE_nil tab_ok)) mix (O := O90) (C := C90) (own := .ps) Tryd.func90 rfl (by rfl) (by kernel_rfl) (fun args K h hbd => ?_)
  unfold C90 at h; split at h
  case h_2 => exact h.elim
  exact ⟨Nat.le_of_ble_eq_true rfl, a90 ⟨_, _, _, _, _⟩ _ (by exact hbd) _ h⟩
noncomputable def c71 (n : Nd) (p : List Bs) (K : AV → List AV → Prop) : Prop :=
    Obl (okN n) (K (optN (findM n p)) [])
noncomputable def C71 : List AV → (AV → List AV → Prop) → Prop
  | [.st [.int .i64 n_0, .int .i64 n_1, .str n_2, .ps .str n_3, .ps .node n_4], .ps .str p], K => c71 ⟨n_0, n_1, n_2, n_3, n_4⟩ p K
  | _, _ => False
noncomputable def E71 : Ctx := mkE tab [(61, .gen .ps C61), (86, .pure F86)]
noncomputable def O71 : Nat → List DI := ordL [(4, [.q 0, .q 1, .q 2, .q 3, .q 4, .q 5, .q 6])]
theorem a71 (n : Nd) (p : List Bs) (hb : BdAs [.st (ndC n), .ps .str p]) (K : AV → List AV → Prop) (h : c71 n p K) : abody E71 O71 .ps Tryd.f71 (Tryd.f71.body.getD .skip) [.st (ndC n), .ps .str p] K := by
  simp only [BdAs, BdA, BdL, BdC, MX, ndC, shC, itC, stC, opC, chC, nwC, flC, rqC, rsC, enc, List.cons_append, List.nil_append, and_true, true_and] at hb
  unfold c71 at h
  obtain ⟨ho, hK⟩ := h
  conv => whnf
  repeat' first|((first|refine Cnd.mk (fun h=>?_) (fun h=>?_)|refine Gd.mk (fun h=>?_))<;>(try simp [etas,elDef,-List.getD_eq_getElem?_getD] at h)<;>conv=>whnf)|((first|refine Obl.mk (by first|omega|rfl|exact inK_byte _|(simp only [inK,Int.toNat_natCast,etas,elDef,m61,o86]<;>first|omega|grind)|grind [inK,m61,o86]) ?_|refine OblG.mk (by ((conv=>whnf);(repeat (first|refine Bx.mk ?_|(intro h;(try simp [etas,elDef,-List.getD_eq_getElem?_getD] at h);conv=>whnf)));(first|omega|rfl|exact inK_byte _|(simp only [inK,Int.toNat_natCast,etas,elDef,m61,o86]<;>first|omega|grind)|grind [inK,m61,o86]))) ?_|refine And.intro ?_ ?_)<;>conv=>whnf)|exact True.intro|(intro;conv=>whnf)
  refine aloop_intro (Nat × Nd) (fun q => q.1 ≤ p.length ∧ okN q.2 ∧ findM n p = findM q.2 (p.drop q.1)) (fun q => p.length - q.1) (fun q => [(6, .int .i64 q.1)]) (fun q => [(2, .box (ndC q.2))]) [4] (0, n) [] [] ⟨Nat.zero_le _, ho, rfl⟩ ?_ (by exact sgOk_of (by rfl)) ?_
  · iterate 2 ((all_goals (conv=>whnf));(repeat' (first|exact trivial|rfl|(refine nilEq ?_;first|rfl|(simp only [*];done)|(simp [*];done)|grind)|apply And.intro|((first|apply intEq|apply boolEq|apply strEq|apply psEq|apply nilEq|apply arrEq);(try simp only [Int.toNat_natCast,etas,elDef]);first | done | omega | grind | (simp only [*]; done) | (simp [*]; done)))));(all_goals ((try simp only [Int.toNat_natCast,etas,elDef]);first | done | omega | grind | (simp only [*]; done) | (simp [*]; done)))
  rintro ⟨i, m⟩ ⟨hi, hm, hj⟩
  dsimp only at hi hm hj
  have hst := fun h => findM_drop (n := m) (p := p) (i := i) h
  have hpl := placeM_ge m (p.getD i [])
  have h6 := okN_kids hm
  have h5 := (okN_names hm).2.1
  have hsm := hm.sm
  conv => whnf
  repeat' first|((first|refine Cnd.mk (fun h=>?_) (fun h=>?_)|refine Gd.mk (fun h=>?_))<;>(try simp [etas,elDef,-List.getD_eq_getElem?_getD] at h)<;>conv=>whnf)|((first|refine Obl.mk (by first|omega|rfl|exact inK_byte _|(simp only [inK,Int.toNat_natCast,etas,elDef,m61,o86]<;>first|omega|grind)|grind [inK,m61,o86]) ?_|refine OblG.mk (by ((conv=>whnf);(repeat (first|refine Bx.mk ?_|(intro h;(try simp [etas,elDef,-List.getD_eq_getElem?_getD] at h);conv=>whnf)));(first|omega|rfl|exact inK_byte _|(simp only [inK,Int.toNat_natCast,etas,elDef,m61,o86]<;>first|omega|grind)|grind [inK,m61,o86]))) ?_|refine And.intro ?_ ?_)<;>conv=>whnf)|exact True.intro|(intro;conv=>whnf)
  · have e : findM n p = none := by rw [hj, hst (by assumption), if_pos h]
    exact leafV hK (by rw [e]; rfl)
  · have e : findM n p = findM (m.kids.getD (placeM m (p.getD i [])).toNat default) (p.drop (i + 1)) := by rw [hj, hst (by assumption), if_neg (by omega)]
    exact ⟨(i + 1, m.kids.getD (placeM m (p.getD i [])).toNat default), [], [], ⟨by simp only; omega, okN_kid hm (by omega), e⟩, by simp only; omega, by iterate 2 ((all_goals (conv=>whnf));(repeat' (first|exact trivial|rfl|(refine nilEq ?_;first|rfl|(simp only [*];done)|(simp [*];done)|grind)|apply And.intro|((first|apply intEq|apply boolEq|apply strEq|apply psEq|apply nilEq|apply arrEq);(try simp only [Int.toNat_natCast,etas,elDef]);first | done | omega | grind | (simp only [*]; done) | (simp [*]; done)))));(all_goals ((try simp only [Int.toNat_natCast,etas,elDef]);first | done | omega | grind | (simp only [*]; done) | (simp [*]; done))), (by exact sgOk_of (by rfl))⟩
  · have e : findM n p = some m := by rw [hj, List.drop_of_length_le (by omega)]; rfl
    exact leafV hK (by rw [e]; rfl)
theorem s71 : (CtrOK Tryd.prog 71 (.gen .ps C71) ∧ Callable Tryd.prog 71) := by
  refine gen_ok (E := E71) (mkE_cons s61 (mkE_cons s86 (mkE_nil tab_ok))) mix (O := O71) (C := C71) (own := .ps) Tryd.func71 rfl (by rfl) (by kernel_rfl) (fun args K h hbd => ?_)
  unfold C71 at h; split at h
  case h_2 => exact h.elim
  exact ⟨Nat.le_of_ble_eq_true rfl, a71 ⟨_, _, _, _, _⟩ _ (by exact hbd) _ h⟩
end Go.Rs

