import Derived.Test.YtmkgadogaefkaaaDoorCP
set_option linter.all false
set_option linter.unusedSimpArgs false
set_option linter.unusedVariables false
namespace Go.Rs
open Go.Proofs
set_option maxRecDepth 100000
noncomputable def c37 (n : Nd) (p : List Bs) (K : AV → List AV → Prop) : Prop :=
    Obl (okN n) (K (optN (findM n p)) [])
noncomputable def C37 : List AV → (AV → List AV → Prop) → Prop
  | [.st [.int .i64 n_0, .int .i64 n_1, .str n_2, .ps .str n_3, .ps .node n_4], .ps .str p], K => c37 ⟨n_0, n_1, n_2, n_3, n_4⟩ p K
  | _, _ => False
noncomputable def E37 : Ctx := mkE tab [(36, .gen .ps C36), (49, .pure F49)]
noncomputable def O37 : Nat → List DI := ordL [(4, [.q 0, .q 1, .q 2, .q 3, .q 4, .q 5, .q 6])]
theorem a37 (n : Nd) (p : List Bs) (hb : BdAs [.st (ndC n), .ps .str p]) (K : AV → List AV → Prop) (h : c37 n p K) : abody E37 O37 .ps Tryd.f37 (Tryd.f37.body.getD .skip) [.st (ndC n), .ps .str p] K := by
  simp only [BdAs, BdA, BdL, BdC, MX, ndC, shC, itC, stC, opC, chC, nwC, flC, rqC, rsC, enc, List.cons_append, List.nil_append, and_true, true_and] at hb
  unfold c37 at h
  obtain ⟨ho, hK⟩ := h
  conv => whnf
  repeat' first|(refine Cnd.mk (fun h=>?_) (fun h=>?_)<;>(try simp [etas,elDef,-List.getD_eq_getElem?_getD] at h)<;>conv=>whnf)|(refine Obl.mk (by first|omega|rfl|exact inK_byte _|(simp only [inK,Int.toNat_natCast,etas,elDef,m36,o49]<;>first|omega|grind)|grind [inK,m36,o49]) ?_<;>conv=>whnf)|(refine OblG.mk (by ((conv=>whnf);(repeat (first|(refine Bx.mk ?_)|(intro h;(try simp [etas,elDef,-List.getD_eq_getElem?_getD] at h);conv=>whnf)));(first|omega|rfl|exact inK_byte _|(simp only [inK,Int.toNat_natCast,etas,elDef,m36,o49]<;>first|omega|grind)|grind [inK,m36,o49]))) ?_<;>conv=>whnf)|(refine Gd.mk (fun h=>?_)<;>(try simp [etas,elDef,-List.getD_eq_getElem?_getD] at h)<;>conv=>whnf)|(refine And.intro ?_ ?_<;>conv=>whnf)|exact True.intro|(intro;conv=>whnf)
  refine aloop_intro (Nat × Nd) (fun q => q.1 ≤ p.length ∧ okN q.2 ∧ findM n p = findM q.2 (p.drop q.1)) (fun q => p.length - q.1) (fun q => [(6, .int .i64 q.1)]) (fun q => [(2, .box (ndC q.2))]) [4] (0, n) [] [] ⟨Nat.zero_le _, ho, rfl⟩ ?_ (by exact sgOk_of (by rfl)) ?_
  · iterate 2 ((all_goals (conv=>whnf));(repeat' (first|exact trivial|rfl|(refine nilEq ?_;first|rfl|(simp only [*];done)|(simp [*];done)|grind)|apply And.intro|((first|refine intEq ?_|refine boolEq ?_|refine strEq ?_|refine psEq ?_|refine nilEq ?_|refine arrEq ?_);(try simp only [Int.toNat_natCast,etas,elDef]);first | done | omega | grind | (simp only [*]; done) | (simp [*]; done)))));(all_goals ((try simp only [Int.toNat_natCast,etas,elDef]);first | done | omega | grind | (simp only [*]; done) | (simp [*]; done)))
  rintro ⟨i, m⟩ ⟨hi, hm, hj⟩
  dsimp only at hi hm hj
  have hst := fun h => findM_drop (n := m) (p := p) (i := i) h
  have hpl := placeM_ge m (p.getD i [])
  have h6 := okN_kids hm
  have h5 := (okN_names hm).2.1
  have hsm := hm.sm
  conv => whnf
  repeat' first|(refine Cnd.mk (fun h=>?_) (fun h=>?_)<;>(try simp [etas,elDef,-List.getD_eq_getElem?_getD] at h)<;>conv=>whnf)|(refine Obl.mk (by first|omega|rfl|exact inK_byte _|(simp only [inK,Int.toNat_natCast,etas,elDef,m36,o49]<;>first|omega|grind)|grind [inK,m36,o49]) ?_<;>conv=>whnf)|(refine OblG.mk (by ((conv=>whnf);(repeat (first|(refine Bx.mk ?_)|(intro h;(try simp [etas,elDef,-List.getD_eq_getElem?_getD] at h);conv=>whnf)));(first|omega|rfl|exact inK_byte _|(simp only [inK,Int.toNat_natCast,etas,elDef,m36,o49]<;>first|omega|grind)|grind [inK,m36,o49]))) ?_<;>conv=>whnf)|(refine Gd.mk (fun h=>?_)<;>(try simp [etas,elDef,-List.getD_eq_getElem?_getD] at h)<;>conv=>whnf)|(refine And.intro ?_ ?_<;>conv=>whnf)|exact True.intro|(intro;conv=>whnf)
  · have e : findM n p = none := by rw [hj, hst (by assumption), if_pos h]
    exact leafV hK (by rw [e]; rfl)
  · have e : findM n p = findM (m.kids.getD (placeM m (p.getD i [])).toNat default) (p.drop (i + 1)) := by rw [hj, hst (by assumption), if_neg (by omega)]
    exact ⟨(i + 1, m.kids.getD (placeM m (p.getD i [])).toNat default), [], [], ⟨by simp only; omega, okN_kid hm (by omega), e⟩, by simp only; omega, by iterate 2 ((all_goals (conv=>whnf));(repeat' (first|exact trivial|rfl|(refine nilEq ?_;first|rfl|(simp only [*];done)|(simp [*];done)|grind)|apply And.intro|((first|refine intEq ?_|refine boolEq ?_|refine strEq ?_|refine psEq ?_|refine nilEq ?_|refine arrEq ?_);(try simp only [Int.toNat_natCast,etas,elDef]);first | done | omega | grind | (simp only [*]; done) | (simp [*]; done)))));(all_goals ((try simp only [Int.toNat_natCast,etas,elDef]);first | done | omega | grind | (simp only [*]; done) | (simp [*]; done))), (by exact sgOk_of (by rfl))⟩
  · have e : findM n p = some m := by rw [hj, List.drop_of_length_le (by omega)]; rfl
    exact leafV hK (by rw [e]; rfl)
theorem s37 : (CtrOK Tryd.prog 37 (.gen .ps C37) ∧ Callable Tryd.prog 37) := by
  refine gen_ok (E := E37) (mkE_cons s36 (mkE_cons s49 (mkE_nil tab_ok))) mix (O := O37) (C := C37) (own := .ps) Tryd.func37 rfl (by rfl) (by kernel_rfl) (fun args K h hbd => ?_)
  unfold C37 at h; split at h
  case h_2 => exact h.elim
  exact ⟨Nat.le_of_ble_eq_true rfl, a37 ⟨_, _, _, _, _⟩ _ (by exact hbd) _ h⟩
end Go.Rs

