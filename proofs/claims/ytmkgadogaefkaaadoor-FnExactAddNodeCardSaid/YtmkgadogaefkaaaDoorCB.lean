import Derived.Test.YtmkgadogaefkaaaDoorCA
import Derived.Test.YtmkgadogaefkaaaDoorMA
set_option linter.all false
set_option linter.unusedSimpArgs false
set_option linter.unusedVariables false
namespace Go.Rs
open Go.Proofs
set_option maxRecDepth 100000
noncomputable def v34 (n : Nd) : AV := .int .i64 (countM n)
noncomputable def o34 (n : Nd) : Prop := okN n
noncomputable def m34 (n : Nd) : Nat := SizeOf.sizeOf n
noncomputable def F34 : List AV → QR
  | [.st [.int .i64 n_0, .int .i64 n_1, .str n_2, .ps .str n_3, .ps .node n_4]] => some (some (o34 ⟨n_0, n_1, n_2, n_3, n_4⟩), v34 ⟨n_0, n_1, n_2, n_3, n_4⟩)
  | _ => none
noncomputable def Fk34 (k : Nat) : List AV → QR
  | [.st [.int .i64 n_0, .int .i64 n_1, .str n_2, .ps .str n_3, .ps .node n_4]] => some (some (m34 ⟨n_0, n_1, n_2, n_3, n_4⟩ < k ∧ o34 ⟨n_0, n_1, n_2, n_3, n_4⟩), v34 ⟨n_0, n_1, n_2, n_3, n_4⟩)
  | _ => none
noncomputable def E34 (k : Nat) : Ctx := mkE tab [(34, .pure (Fk34 k))]
noncomputable def O34 : Nat → List DI := ordL []
theorem a34 (k : Nat) (n : Nd) (hm : m34 n < k + 1) (hb : BdAs [.st (ndC n)]) (ho : o34 n) (K : AV → List AV → Prop) (hK : K (v34 n) []) : abody (E34 k) O34 .ps Tryd.f34 (Tryd.f34.body.getD .skip) [.st (ndC n)] K := by
  simp only [BdAs, BdA, BdL, BdC, MX, ndC, shC, itC, stC, opC, chC, nwC, flC, rqC, rsC, enc, List.cons_append, List.nil_append, and_true, true_and] at hb
  unfold o34 at ho
  unfold v34 at hK
  unfold m34 at hm
  have hc := okN_count ho
  have hle : ∀ k, sumN countM (n.kids.take k) ≤ sumN countM n.kids := fun k => sumN_take_le
  have hkid : ∀ j, j < n.kids.length → SizeOf.sizeOf (n.kids.getD j default) < k ∧ okN (n.kids.getD j default) := fun j hj => ⟨by have := kid_size hj; omega, okN_kid ho hj⟩
  rw [countM_eq] at hK hc
  conv => whnf
  refine aloop_intro Nat (fun k => k ≤ n.kids.length) (fun k => n.kids.length - k) (fun k => [(3, .int .i64 (1 + sumN countM (n.kids.take k) : Nat)), (4, .int .i64 k)]) (fun _ => []) [1] 0 [] [] (by simp) ?_ (by exact sgOk_of (by rfl)) ?_
  · iterate 2 ((all_goals (conv=>whnf));(repeat' (first|exact trivial|rfl|(refine nilEq ?_;first|rfl|(simp only [*];done)|(simp [*];done)|grind)|apply And.intro|((first|refine intEq ?_|refine boolEq ?_|refine strEq ?_|refine psEq ?_|refine nilEq ?_|refine arrEq ?_);(try simp only [Int.toNat_natCast,etas,elDef]);first | done | omega | grind | (simp only [*]; done) | (simp [*]; done)))));(all_goals ((try simp only [Int.toNat_natCast,etas,elDef]);first | done | omega | grind | (simp only [*]; done) | (simp [*]; done)))
  rintro i hi
  have hli := hle i
  have hli1 := hle (i + 1)
  have hst := fun h => sumN_take (f := countM) (l := n.kids) (k := i) h
  conv => whnf
  repeat' first|(refine Cnd.mk (fun h=>?_) (fun h=>?_)<;>(try simp [etas,elDef,-List.getD_eq_getElem?_getD] at h)<;>conv=>whnf)|(refine Obl.mk (by first|omega|rfl|exact inK_byte _|(simp only [inK,Int.toNat_natCast,etas,elDef,m34,o34,m34]<;>first|omega|grind)|grind [inK,m34,o34,m34]) ?_<;>conv=>whnf)|(refine OblG.mk (by ((conv=>whnf);(repeat (first|(refine Bx.mk ?_)|(intro h;(try simp [etas,elDef,-List.getD_eq_getElem?_getD] at h);conv=>whnf)));(first|omega|rfl|exact inK_byte _|(simp only [inK,Int.toNat_natCast,etas,elDef,m34,o34,m34]<;>first|omega|grind)|grind [inK,m34,o34,m34]))) ?_<;>conv=>whnf)|(refine Gd.mk (fun h=>?_)<;>(try simp [etas,elDef,-List.getD_eq_getElem?_getD] at h)<;>conv=>whnf)|(refine And.intro ?_ ?_<;>conv=>whnf)|exact True.intro|(intro;conv=>whnf)
  · exact ⟨i + 1, [], [], by omega, by omega, by iterate 2 ((all_goals (conv=>whnf));(repeat' (first|exact trivial|rfl|(refine nilEq ?_;first|rfl|(simp only [*];done)|(simp [*];done)|grind)|apply And.intro|((first|refine intEq ?_|refine boolEq ?_|refine strEq ?_|refine psEq ?_|refine nilEq ?_|refine arrEq ?_);(try simp only [Int.toNat_natCast,etas,elDef]);first | done | omega | grind | (simp only [*]; done) | (simp [*]; done)))));(all_goals ((try simp only [Int.toNat_natCast,etas,elDef]);first | done | omega | grind | (simp only [*]; done) | (simp [*]; done))), (by exact sgOk_of (by rfl))⟩
  · refine leafI hK ?_
    rw [List.take_of_length_le (by omega)]
theorem r34 : ∀ k, (CtrOK Tryd.prog 34 (.pure (Fk34 k)) ∧ Callable Tryd.prog 34) := by
  intro k
  induction k with
  | zero =>
    exact ⟨⟨fun args o v h => by unfold Fk34 at h; split at h <;> cases h; first | trivial | (simp [v34, Scalar, Scalar2, Scalar1, stC, ndC, itC, chC, nwC]), fun args K h => by
        unfold pureC Fk34 at h; split at h
        · rename_i h1; split at h1 <;> cases h1; exact absurd (h.1 _ rfl).1 (Nat.not_lt_zero _)
        · exact h.elim⟩, callable Tryd.func34 rfl (by rfl)⟩
  | succ k ih =>
    refine pure_ok (E := E34 k) (mkE_cons ih (mkE_nil tab_ok)) mix (O := O34) (F := (Fk34 (k + 1))) Tryd.func34 rfl (by rfl) (by kernel_rfl) (fun args o v h => ?_) (fun args o v h => ?_) (fun args o v h hbd hp K hK => ?_)
    · unfold Fk34 at h; split at h <;> cases h; first | trivial | (simp [v34, Scalar, Scalar2, Scalar1, stC, ndC, itC, chC, nwC])
    · unfold Fk34 at h; split at h <;> cases h; exact Nat.le_of_ble_eq_true rfl
    · unfold Fk34 at h; split at h
      case h_2 => cases h
      cases h
      exact a34 k ⟨_, _, _, _, _⟩ (hp _ rfl).1 (by exact hbd) (hp _ rfl).2 K hK
theorem s34 : (CtrOK Tryd.prog 34 (.pure F34) ∧ Callable Tryd.prog 34) := by
  refine ⟨⟨fun args o v h => ?_, fun args K h => ?_⟩, (r34 0).2⟩
  · unfold F34 at h; split at h <;> cases h; first | trivial | (simp [v34, Scalar, Scalar2, Scalar1, stC, ndC, itC, chC, nwC])
  · unfold pureC F34 at h; split at h
    · rename_i h1; split at h1 <;> cases h1
      exact (r34 (m34 ⟨_, _, _, _, _⟩ + 1)).1.2 _ K ⟨fun p hp => by cases hp; exact ⟨Nat.lt_succ_self _, (h.1 _ rfl)⟩, h.2⟩
    · exact h.elim
noncomputable def v16 (n : Nd) : AV := .bool (validM n)
noncomputable def o16 (n : Nd) : Prop := True
noncomputable def F16 : List AV → QR
  | [.st [.int .i64 n_0, .int .i64 n_1, .str n_2, .ps .str n_3, .ps .node n_4]] => some (none, v16 ⟨n_0, n_1, n_2, n_3, n_4⟩)
  | _ => none
noncomputable def E16 : Ctx := mkE tab [(33, .pure F33), (34, .pure F34)]
noncomputable def O16 : Nat → List DI := ordL []
theorem a16 (n : Nd) (hb : BdAs [.st (ndC n)]) (ho : o16 n) (K : AV → List AV → Prop) (hK : K (v16 n) []) : abody E16 O16 .ps Tryd.f16 (Tryd.f16.body.getD .skip) [.st (ndC n)] K := by
  simp only [BdAs, BdA, BdL, BdC, MX, ndC, shC, itC, stC, opC, chC, nwC, flC, rqC, rsC, enc, List.cons_append, List.nil_append, and_true, true_and] at hb
  unfold v16 at hK
  have h5 : shapeM 5 n = true → okN n := fun h => ⟨5, by omega, h⟩
  conv => whnf
  repeat' first|(refine Cnd.mk (fun h=>?_) (fun h=>?_)<;>(try simp [etas,elDef,-List.getD_eq_getElem?_getD] at h)<;>conv=>whnf)|(refine Obl.mk (by first|omega|rfl|exact inK_byte _|(simp only [inK,Int.toNat_natCast,etas,elDef,o33,m33,o34,m34]<;>first|omega|grind)|grind [inK,o33,m33,o34,m34]) ?_<;>conv=>whnf)|(refine OblG.mk (by ((conv=>whnf);(repeat (first|(refine Bx.mk ?_)|(intro h;(try simp [etas,elDef,-List.getD_eq_getElem?_getD] at h);conv=>whnf)));(first|omega|rfl|exact inK_byte _|(simp only [inK,Int.toNat_natCast,etas,elDef,o33,m33,o34,m34]<;>first|omega|grind)|grind [inK,o33,m33,o34,m34]))) ?_<;>conv=>whnf)|(refine Gd.mk (fun h=>?_)<;>(try simp [etas,elDef,-List.getD_eq_getElem?_getD] at h)<;>conv=>whnf)|(refine And.intro ?_ ?_<;>conv=>whnf)|exact True.intro|(intro;conv=>whnf)
  exact leafB hK (by simp only [validM, nd_eta]; grind)
theorem s16 : (CtrOK Tryd.prog 16 (.pure F16) ∧ Callable Tryd.prog 16) := by
  refine pure_ok (E := E16) (mkE_cons s33 (mkE_cons s34 (mkE_nil tab_ok))) mix (O := O16) (F := F16) Tryd.func16 rfl (by rfl) (by kernel_rfl) (fun args o v h => ?_) (fun args o v h => ?_) (fun args o v h hbd hp K hK => ?_)
  · unfold F16 at h; split at h <;> cases h; first | trivial | (simp [v16, Scalar, Scalar2, Scalar1, stC, ndC, itC, chC, nwC])
  · unfold F16 at h; split at h <;> cases h; exact Nat.le_of_ble_eq_true rfl
  · unfold F16 at h; split at h
    case h_2 => cases h
    cases h
    exact a16 ⟨_, _, _, _, _⟩ (by exact hbd) trivial K hK
end Go.Rs

