import Derived.Test.YtmgheiagnleeiaaDoorCA
import Derived.Test.YtmgheiagnleeiaaDoorMA
set_option linter.all false
set_option linter.unusedSimpArgs false
set_option linter.unusedVariables false
namespace Go.Rs
open Go.Proofs
set_option maxRecDepth 100000
noncomputable def v35 (n : Nd) : AV := .int .i64 (countM n)
noncomputable def o35 (n : Nd) : Prop := okN n
noncomputable def m35 (n : Nd) : Nat := SizeOf.sizeOf n
noncomputable def F35 : List AV → QR
  | [.st [.int .i64 n_0, .int .i64 n_1, .str n_2, .ps .str n_3, .ps .node n_4]] => some (some (o35 ⟨n_0, n_1, n_2, n_3, n_4⟩), v35 ⟨n_0, n_1, n_2, n_3, n_4⟩)
  | _ => none
noncomputable def Fk35 (k : Nat) : List AV → QR
  | [.st [.int .i64 n_0, .int .i64 n_1, .str n_2, .ps .str n_3, .ps .node n_4]] => some (some (m35 ⟨n_0, n_1, n_2, n_3, n_4⟩ < k ∧ o35 ⟨n_0, n_1, n_2, n_3, n_4⟩), v35 ⟨n_0, n_1, n_2, n_3, n_4⟩)
  | _ => none
noncomputable def E35 (k : Nat) : Ctx := mkE tab [(35, .pure (Fk35 k))]
noncomputable def O35 : Nat → List DI := ordL []
theorem a35 (k : Nat) (n : Nd) (hm : m35 n < k + 1) (hb : BdAs [.st (ndC n)]) (ho : o35 n) (K : AV → List AV → Prop) (hK : K (v35 n) []) : abody (E35 k) O35 .ps Tryd.f35 (Tryd.f35.body.getD .skip) [.st (ndC n)] K := by
  simp only [BdAs, BdA, BdL, BdC, MX, ndC, shC, itC, stC, opC, chC, nwC, flC, rqC, rsC, enc, List.cons_append, List.nil_append, and_true, true_and] at hb
  unfold o35 at ho
  unfold v35 at hK
  unfold m35 at hm
  have hc := okN_count ho
  have hle : ∀ k, sumN countM (n.kids.take k) ≤ sumN countM n.kids := fun k => sumN_take_le
  have hkid : ∀ j, j < n.kids.length → SizeOf.sizeOf (n.kids.getD j default) < k ∧ okN (n.kids.getD j default) := fun j hj => ⟨by have := kid_size hj; omega, okN_kid ho hj⟩
  rw [countM_eq] at hK hc
  conv => whnf
  refine aloop_intro Nat (fun k => k ≤ n.kids.length) (fun k => n.kids.length - k) (fun k => [(3, .int .i64 (1 + sumN countM (n.kids.take k) : Nat)), (4, .int .i64 k)]) (fun _ => []) [1] 0 [] [] (by simp) ?_ (by exact sgOk_of (by rfl)) ?_
  · iterate 2 ((all_goals (conv=>whnf));(repeat' (first|exact trivial|rfl|(refine nilEq ?_;first|rfl|(simp only [*];done)|(simp [*];done)|grind)|apply And.intro|((first|apply intEq|apply boolEq|apply strEq|apply psEq|apply nilEq|apply arrEq);(try simp only [Int.toNat_natCast,etas,elDef]);first | done | omega | grind | (simp only [*]; done) | (simp [*]; done)))));(all_goals ((try simp only [Int.toNat_natCast,etas,elDef]);first | done | omega | grind | (simp only [*]; done) | (simp [*]; done)))
  rintro i hi
  have hli := hle i
  have hli1 := hle (i + 1)
  have hst := fun h => sumN_take (f := countM) (l := n.kids) (k := i) h
  conv => whnf
  repeat' first|((first|refine Cnd.mk (fun h=>?_) (fun h=>?_)|refine Gd.mk (fun h=>?_))<;>(try simp [etas,elDef,-List.getD_eq_getElem?_getD] at h)<;>conv=>whnf)|((first|refine Obl.mk (by first|omega|rfl|exact inK_byte _|(simp only [inK,Int.toNat_natCast,etas,elDef,m35,o35,m35]<;>first|omega|grind)|grind [inK,m35,o35,m35]) ?_|refine OblG.mk (by ((conv=>whnf);(repeat (first|refine Bx.mk ?_|(intro h;(try simp [etas,elDef,-List.getD_eq_getElem?_getD] at h);conv=>whnf)));(first|omega|rfl|exact inK_byte _|(simp only [inK,Int.toNat_natCast,etas,elDef,m35,o35,m35]<;>first|omega|grind)|grind [inK,m35,o35,m35]))) ?_|refine And.intro ?_ ?_)<;>conv=>whnf)|exact True.intro|(intro;conv=>whnf)
  · exact ⟨i + 1, [], [], by omega, by omega, by iterate 2 ((all_goals (conv=>whnf));(repeat' (first|exact trivial|rfl|(refine nilEq ?_;first|rfl|(simp only [*];done)|(simp [*];done)|grind)|apply And.intro|((first|apply intEq|apply boolEq|apply strEq|apply psEq|apply nilEq|apply arrEq);(try simp only [Int.toNat_natCast,etas,elDef]);first | done | omega | grind | (simp only [*]; done) | (simp [*]; done)))));(all_goals ((try simp only [Int.toNat_natCast,etas,elDef]);first | done | omega | grind | (simp only [*]; done) | (simp [*]; done))), (by exact sgOk_of (by rfl))⟩
  · refine leafI hK ?_
    rw [List.take_of_length_le (by omega)]
theorem r35 : ∀ k, (CtrOK Tryd.prog 35 (.pure (Fk35 k)) ∧ Callable Tryd.prog 35) := by
  intro k
  induction k with
  | zero =>
    exact ⟨⟨fun args o v h => by unfold Fk35 at h; split at h <;> cases h; first | trivial | (simp [v35, Scalar, Scalar2, Scalar1, stC, ndC, itC, chC, nwC]), fun args K h => by
        unfold pureC Fk35 at h; split at h
        · rename_i h1; split at h1 <;> cases h1; exact absurd (h.1 _ rfl).1 (Nat.not_lt_zero _)
        · exact h.elim⟩, callable Tryd.func35 rfl (by rfl)⟩
  | succ k ih =>
    refine pure_ok (E := E35 k) (mkE_cons ih (mkE_nil tab_ok)) mix (O := O35) (F := (Fk35 (k + 1))) Tryd.func35 rfl (by rfl) (by kernel_rfl) (fun args o v h => ?_) (fun args o v h => ?_) (fun args o v h hbd hp K hK => ?_)
    · unfold Fk35 at h; split at h <;> cases h; first | trivial | (simp [v35, Scalar, Scalar2, Scalar1, stC, ndC, itC, chC, nwC])
    · unfold Fk35 at h; split at h <;> cases h; exact Nat.le_of_ble_eq_true rfl
    · unfold Fk35 at h; split at h
      case h_2 => cases h
      cases h
      exact a35 k ⟨_, _, _, _, _⟩ (hp _ rfl).1 (by exact hbd) (hp _ rfl).2 K hK
theorem s35 : (CtrOK Tryd.prog 35 (.pure F35) ∧ Callable Tryd.prog 35) := by
  refine ⟨⟨fun args o v h => ?_, fun args K h => ?_⟩, (r35 0).2⟩
  · unfold F35 at h; split at h <;> cases h; first | trivial | (simp [v35, Scalar, Scalar2, Scalar1, stC, ndC, itC, chC, nwC])
  · unfold pureC F35 at h; split at h
    · rename_i h1; split at h1 <;> cases h1
      exact (r35 (m35 ⟨_, _, _, _, _⟩ + 1)).1.2 _ K ⟨fun p hp => by cases hp; exact ⟨Nat.lt_succ_self _, (h.1 _ rfl)⟩, h.2⟩
    · exact h.elim
noncomputable def v13 (n : Nd) : AV := .bool (validM n)
noncomputable def o13 (n : Nd) : Prop := True
noncomputable def F13 : List AV → QR
  | [.st [.int .i64 n_0, .int .i64 n_1, .str n_2, .ps .str n_3, .ps .node n_4]] => some (none, v13 ⟨n_0, n_1, n_2, n_3, n_4⟩)
  | _ => none
noncomputable def E13 : Ctx := mkE tab [(34, .pure F34), (35, .pure F35)]
noncomputable def O13 : Nat → List DI := ordL []
theorem a13 (n : Nd) (hb : BdAs [.st (ndC n)]) (ho : o13 n) (K : AV → List AV → Prop) (hK : K (v13 n) []) : abody E13 O13 .ps Tryd.f13 (Tryd.f13.body.getD .skip) [.st (ndC n)] K := by
  simp only [BdAs, BdA, BdL, BdC, MX, ndC, shC, itC, stC, opC, chC, nwC, flC, rqC, rsC, enc, List.cons_append, List.nil_append, and_true, true_and] at hb
  unfold v13 at hK
  have h5 : shapeM 5 n = true → okN n := fun h => ⟨5, by omega, h⟩
  conv => whnf
  repeat' first|((first|refine Cnd.mk (fun h=>?_) (fun h=>?_)|refine Gd.mk (fun h=>?_))<;>(try simp [etas,elDef,-List.getD_eq_getElem?_getD] at h)<;>conv=>whnf)|((first|refine Obl.mk (by first|omega|rfl|exact inK_byte _|(simp only [inK,Int.toNat_natCast,etas,elDef,o34,m34,o35,m35]<;>first|omega|grind)|grind [inK,o34,m34,o35,m35]) ?_|refine OblG.mk (by ((conv=>whnf);(repeat (first|refine Bx.mk ?_|(intro h;(try simp [etas,elDef,-List.getD_eq_getElem?_getD] at h);conv=>whnf)));(first|omega|rfl|exact inK_byte _|(simp only [inK,Int.toNat_natCast,etas,elDef,o34,m34,o35,m35]<;>first|omega|grind)|grind [inK,o34,m34,o35,m35]))) ?_|refine And.intro ?_ ?_)<;>conv=>whnf)|exact True.intro|(intro;conv=>whnf)
  exact leafB hK (by simp only [validM, nd_eta]; grind)
theorem s13 : (CtrOK Tryd.prog 13 (.pure F13) ∧ Callable Tryd.prog 13) := by
  refine pure_ok (E := E13) (mkE_cons s34 (mkE_cons s35 (mkE_nil tab_ok))) mix (O := O13) (F := F13) Tryd.func13 rfl (by rfl) (by kernel_rfl) (fun args o v h => ?_) (fun args o v h => ?_) (fun args o v h hbd hp K hK => ?_)
  · unfold F13 at h; split at h <;> cases h; first | trivial | (simp [v13, Scalar, Scalar2, Scalar1, stC, ndC, itC, chC, nwC])
  · unfold F13 at h; split at h <;> cases h; exact Nat.le_of_ble_eq_true rfl
  · unfold F13 at h; split at h
    case h_2 => cases h
    cases h
    exact a13 ⟨_, _, _, _, _⟩ (by exact hbd) trivial K hK
end Go.Rs

