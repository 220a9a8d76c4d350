import Derived.Test.YtmgheiagnleeiaaCA
import Derived.Test.YtmgheiagnleeiaaMA
set_option linter.all false
set_option linter.unusedSimpArgs false
set_option linter.unusedVariables false
namespace Go.Rs
open Go.Proofs
set_option maxRecDepth 100000
noncomputable def v65 (n : Nd) : AV := .int .i64 (countM n)
noncomputable def o65 (n : Nd) : Prop := okN n
noncomputable def m65 (n : Nd) : Nat := SizeOf.sizeOf n
noncomputable def F65 : List AV → QR
  | [.st [.int .i64 n_0, .int .i64 n_1, .str n_2, .ps .str n_3, .ps .node n_4]] => some (some (o65 ⟨n_0, n_1, n_2, n_3, n_4⟩), v65 ⟨n_0, n_1, n_2, n_3, n_4⟩)
  | _ => none
noncomputable def Fk65 (k : Nat) : List AV → QR
  | [.st [.int .i64 n_0, .int .i64 n_1, .str n_2, .ps .str n_3, .ps .node n_4]] => some (some (m65 ⟨n_0, n_1, n_2, n_3, n_4⟩ < k ∧ o65 ⟨n_0, n_1, n_2, n_3, n_4⟩), v65 ⟨n_0, n_1, n_2, n_3, n_4⟩)
  | _ => none
noncomputable def E65 (k : Nat) : Ctx := mkE tab [(65, .pure (Fk65 k))]
noncomputable def O65 : Nat → List DI := ordL []
theorem a65 (k : Nat) (n : Nd) (hm : m65 n < k + 1) (hb : BdAs [.st (ndC n)]) (ho : o65 n) (K : AV → List AV → Prop) (hK : K (v65 n) []) : abody (E65 k) O65 .ps Try.f65 (Try.f65.body.getD .skip) [.st (ndC n)] K := by
  simp only [BdAs, BdA, BdL, BdC, MX, ndC, shC, itC, stC, opC, chC, nwC, flC, rqC, rsC, enc, List.cons_append, List.nil_append, and_true, true_and] at hb
  unfold o65 at ho
  unfold v65 at hK
  unfold m65 at hm
  have hc := okN_count ho
  have hle : ∀ k, sumN countM (n.kids.take k) ≤ sumN countM n.kids := fun k => sumN_take_le
  have hkid : ∀ j, j < n.kids.length → SizeOf.sizeOf (n.kids.getD j default) < k ∧ okN (n.kids.getD j default) := fun j hj => ⟨by have := kid_size hj; omega, okN_kid ho hj⟩
  rw [countM_eq] at hK hc
  conv => whnf
  refine aloop_intro Nat (fun k => k ≤ n.kids.length) (fun k => n.kids.length - k) (fun k => [(3, .int .i64 (1 + sumN countM (n.kids.take k) : Nat)), (4, .int .i64 k)]) (fun _ => []) [1] 0 [] [] (by simp) ?_ (by exact sgOk_of (by rfl)) ?_
  · iterate 2 ((all_goals (conv=>whnf));(repeat' (first|exact trivial|rfl|(refine nilEq ?_;first|rfl|(simp only [*];done)|(simp [*];done)|grind)|apply And.intro|((first|apply intEq|apply boolEq|apply strEq|apply psEq|apply nilEq|apply arrEq);(try simp only [Int.toNat_natCast,etas,elDef]);first | done | omega | grind | (simp only [*]; done) | (simp [*]; done)))));(all_goals ((try simp only [Int.toNat_natCast,etas,elDef]);first | done | omega | grind | (simp only [*]; done) | (simp [*]; done)))
  rintro i hi
  have hli := hle i
  have hli1 := hle (i + 1)
  have hst := fun h => sumN_take (f := countM) (l := n.kids) (k := i) h
  conv => whnf
  repeat' first|((first|refine Cnd.mk (fun h=>?_) (fun h=>?_)|refine Gd.mk (fun h=>?_))<;>(try simp [etas,elDef,-List.getD_eq_getElem?_getD] at h)<;>conv=>whnf)|((first|refine Obl.mk (by first|omega|rfl|exact inK_byte _|(simp only [inK,Int.toNat_natCast,etas,elDef,m65,o65,m65]<;>first|omega|grind)|grind [inK,m65,o65,m65]) ?_|refine OblG.mk (by ((conv=>whnf);(repeat (first|refine Bx.mk ?_|(intro h;(try simp [etas,elDef,-List.getD_eq_getElem?_getD] at h);conv=>whnf)));(first|omega|rfl|exact inK_byte _|(simp only [inK,Int.toNat_natCast,etas,elDef,m65,o65,m65]<;>first|omega|grind)|grind [inK,m65,o65,m65]))) ?_|refine And.intro ?_ ?_)<;>conv=>whnf)|exact True.intro|(intro;conv=>whnf)
  · exact ⟨i + 1, [], [], by omega, by omega, by iterate 2 ((all_goals (conv=>whnf));(repeat' (first|exact trivial|rfl|(refine nilEq ?_;first|rfl|(simp only [*];done)|(simp [*];done)|grind)|apply And.intro|((first|apply intEq|apply boolEq|apply strEq|apply psEq|apply nilEq|apply arrEq);(try simp only [Int.toNat_natCast,etas,elDef]);first | done | omega | grind | (simp only [*]; done) | (simp [*]; done)))));(all_goals ((try simp only [Int.toNat_natCast,etas,elDef]);first | done | omega | grind | (simp only [*]; done) | (simp [*]; done))), (by exact sgOk_of (by rfl))⟩
  · refine leafI hK ?_
    rw [List.take_of_length_le (by omega)]
theorem r65 : ∀ k, (CtrOK Try.prog 65 (.pure (Fk65 k)) ∧ Callable Try.prog 65) := by
  intro k
  induction k with
  | zero =>
    exact ⟨⟨fun args o v h => by unfold Fk65 at h; split at h <;> cases h; first | trivial | (simp [v65, Scalar, Scalar2, Scalar1, stC, ndC, itC, chC, nwC]), fun args K h => by
        unfold pureC Fk65 at h; split at h
        · rename_i h1; split at h1 <;> cases h1; exact absurd (h.1 _ rfl).1 (Nat.not_lt_zero _)
        · exact h.elim⟩, callable Try.func65 rfl (by rfl)⟩
  | succ k ih =>
    refine pure_ok (E := E65 k) (mkE_cons ih (mkE_nil tab_ok)) mix (O := O65) (F := (Fk65 (k + 1))) Try.func65 rfl (by rfl) (by kernel_rfl) (fun args o v h => ?_) (fun args o v h => ?_) (fun args o v h hbd hp K hK => ?_)
    · unfold Fk65 at h; split at h <;> cases h; first | trivial | (simp [v65, Scalar, Scalar2, Scalar1, stC, ndC, itC, chC, nwC])
    · unfold Fk65 at h; split at h <;> cases h; exact Nat.le_of_ble_eq_true rfl
    · unfold Fk65 at h; split at h
      case h_2 => cases h
      cases h
      exact a65 k ⟨_, _, _, _, _⟩ (hp _ rfl).1 (by exact hbd) (hp _ rfl).2 K hK
theorem s65 : (CtrOK Try.prog 65 (.pure F65) ∧ Callable Try.prog 65) := by
  refine ⟨⟨fun args o v h => ?_, fun args K h => ?_⟩, (r65 0).2⟩
  · unfold F65 at h; split at h <;> cases h; first | trivial | (simp [v65, Scalar, Scalar2, Scalar1, stC, ndC, itC, chC, nwC])
  · unfold pureC F65 at h; split at h
    · rename_i h1; split at h1 <;> cases h1
      exact (r65 (m65 ⟨_, _, _, _, _⟩ + 1)).1.2 _ K ⟨fun p hp => by cases hp; exact ⟨Nat.lt_succ_self _, (h.1 _ rfl)⟩, h.2⟩
    · exact h.elim
noncomputable def v42 (n : Nd) : AV := .bool (validM n)
noncomputable def o42 (n : Nd) : Prop := True
noncomputable def F42 : List AV → QR
  | [.st [.int .i64 n_0, .int .i64 n_1, .str n_2, .ps .str n_3, .ps .node n_4]] => some (none, v42 ⟨n_0, n_1, n_2, n_3, n_4⟩)
  | _ => none
noncomputable def E42 : Ctx := mkE tab [(64, .pure F64), (65, .pure F65)]
noncomputable def O42 : Nat → List DI := ordL []
theorem a42 (n : Nd) (hb : BdAs [.st (ndC n)]) (ho : o42 n) (K : AV → List AV → Prop) (hK : K (v42 n) []) : abody E42 O42 .ps Try.f42 (Try.f42.body.getD .skip) [.st (ndC n)] K := by
  simp only [BdAs, BdA, BdL, BdC, MX, ndC, shC, itC, stC, opC, chC, nwC, flC, rqC, rsC, enc, List.cons_append, List.nil_append, and_true, true_and] at hb
  unfold v42 at hK
  have h5 : shapeM 5 n = true → okN n := fun h => ⟨5, by omega, h⟩
  conv => whnf
  repeat' first|((first|refine Cnd.mk (fun h=>?_) (fun h=>?_)|refine Gd.mk (fun h=>?_))<;>(try simp [etas,elDef,-List.getD_eq_getElem?_getD] at h)<;>conv=>whnf)|((first|refine Obl.mk (by first|omega|rfl|exact inK_byte _|(simp only [inK,Int.toNat_natCast,etas,elDef,o64,m64,o65,m65]<;>first|omega|grind)|grind [inK,o64,m64,o65,m65]) ?_|refine OblG.mk (by ((conv=>whnf);(repeat (first|refine Bx.mk ?_|(intro h;(try simp [etas,elDef,-List.getD_eq_getElem?_getD] at h);conv=>whnf)));(first|omega|rfl|exact inK_byte _|(simp only [inK,Int.toNat_natCast,etas,elDef,o64,m64,o65,m65]<;>first|omega|grind)|grind [inK,o64,m64,o65,m65]))) ?_|refine And.intro ?_ ?_)<;>conv=>whnf)|exact True.intro|(intro;conv=>whnf)
  exact leafB hK (by simp only [validM, nd_eta]; grind)
theorem s42 : (CtrOK Try.prog 42 (.pure F42) ∧ Callable Try.prog 42) := by
  refine pure_ok (E := E42) (mkE_cons s64 (mkE_cons s65 (mkE_nil tab_ok))) mix (O := O42) (F := F42) Try.func42 rfl (by rfl) (by kernel_rfl) (fun args o v h => ?_) (fun args o v h => ?_) (fun args o v h hbd hp K hK => ?_)
  · unfold F42 at h; split at h <;> cases h; first | trivial | (simp [v42, Scalar, Scalar2, Scalar1, stC, ndC, itC, chC, nwC])
  · unfold F42 at h; split at h <;> cases h; exact Nat.le_of_ble_eq_true rfl
  · unfold F42 at h; split at h
    case h_2 => cases h
    cases h
    exact a42 ⟨_, _, _, _, _⟩ (by exact hbd) trivial K hK
end Go.Rs

