import Derived.Test.YtfaaemggaliojaaDoorCA
import Derived.Test.YtfaaemggaliojaaDoorMA
set_option linter.all false
set_option linter.unusedSimpArgs false
set_option linter.unusedVariables false
namespace Go.Rs
open Go.Proofs
set_option maxRecDepth 100000
noncomputable def v69 (n : Nd) : AV := .int .i64 (countM n)
noncomputable def o69 (n : Nd) : Prop := okN n
noncomputable def m69 (n : Nd) : Nat := SizeOf.sizeOf n
noncomputable def F69 : List AV → QR
  | [.st [.int .i64 n_0, .int .i64 n_1, .str n_2, .ps .str n_3, .ps .node n_4]] => some (some (o69 ⟨n_0, n_1, n_2, n_3, n_4⟩), v69 ⟨n_0, n_1, n_2, n_3, n_4⟩)
  | _ => none
noncomputable def Fk69 (k : Nat) : List AV → QR
  | [.st [.int .i64 n_0, .int .i64 n_1, .str n_2, .ps .str n_3, .ps .node n_4]] => some (some (m69 ⟨n_0, n_1, n_2, n_3, n_4⟩ < k ∧ o69 ⟨n_0, n_1, n_2, n_3, n_4⟩), v69 ⟨n_0, n_1, n_2, n_3, n_4⟩)
  | _ => none
noncomputable def E69 (k : Nat) : Ctx := mkE tab [(69, .pure (Fk69 k))]
noncomputable def O69 : Nat → List DI := ordL []
theorem a69 (k : Nat) (n : Nd) (hm : m69 n < k + 1) (hb : BdAs [.st (ndC n)]) (ho : o69 n) (K : AV → List AV → Prop) (hK : K (v69 n) []) : abody (E69 k) O69 .ps Tryd.f69 (Tryd.f69.body.getD .skip) [.st (ndC n)] K := by
  simp only [BdAs, BdA, BdL, BdC, MX, ndC, shC, itC, stC, opC, chC, nwC, flC, rqC, rsC, enc, List.cons_append, List.nil_append, and_true, true_and] at hb
  unfold o69 at ho
  unfold v69 at hK
  unfold m69 at hm
  have hc := okN_count ho
  have hle : ∀ k, sumN countM (n.kids.take k) ≤ sumN countM n.kids := fun k => sumN_take_le
  have hkid : ∀ j, j < n.kids.length → SizeOf.sizeOf (n.kids.getD j default) < k ∧ okN (n.kids.getD j default) := fun j hj => ⟨by have := kid_size hj; omega, okN_kid ho hj⟩
  rw [countM_eq] at hK hc
  conv => whnf
  refine aloop_intro Nat (fun k => k ≤ n.kids.length) (fun k => n.kids.length - k) (fun k => [(3, .int .i64 (1 + sumN countM (n.kids.take k) : Nat)), (4, .int .i64 k)]) (fun _ => []) [1] 0 [] [] (by simp) ?_ (by exact sgOk_of (by rfl)) ?_
  · iterate 2 ((all_goals (conv=>whnf));(repeat' (first|exact trivial|rfl|(refine nilEq ?_;first|rfl|(simp only [*];done)|(simp [*];done)|grind)|apply And.intro|((first|apply intEq|apply boolEq|apply strEq|apply psEq|apply nilEq|apply arrEq);(try simp only [Int.toNat_natCast,etas,elDef]);first | done | omega | grind | (simp only [*]; done) | (simp [*]; done)))));(all_goals ((try simp only [Int.toNat_natCast,etas,elDef]);first | done | omega | grind | (simp only [*]; done) | (simp [*]; done)))
  rintro i hi
  have hli := hle i
  have hli1 := hle (i + 1)
  have hst := fun h => sumN_take (f := countM) (l := n.kids) (k := i) h
  conv => whnf
  repeat' first|((first|refine Cnd.mk (fun h=>?_) (fun h=>?_)|refine Gd.mk (fun h=>?_))<;>(try simp [etas,elDef,-List.getD_eq_getElem?_getD] at h)<;>conv=>whnf)|((first|refine Obl.mk (by first|omega|rfl|exact inK_byte _|(simp only [inK,Int.toNat_natCast,etas,elDef,m69,o69,m69]<;>first|omega|grind)|grind [inK,m69,o69,m69]) ?_|refine OblG.mk (by ((conv=>whnf);(repeat (first|refine Bx.mk ?_|(intro h;(try simp [etas,elDef,-List.getD_eq_getElem?_getD] at h);conv=>whnf)));(first|omega|rfl|exact inK_byte _|(simp only [inK,Int.toNat_natCast,etas,elDef,m69,o69,m69]<;>first|omega|grind)|grind [inK,m69,o69,m69]))) ?_|refine And.intro ?_ ?_)<;>conv=>whnf)|exact True.intro|(intro;conv=>whnf)
  · exact ⟨i + 1, [], [], by omega, by omega, by iterate 2 ((all_goals (conv=>whnf));(repeat' (first|exact trivial|rfl|(refine nilEq ?_;first|rfl|(simp only [*];done)|(simp [*];done)|grind)|apply And.intro|((first|apply intEq|apply boolEq|apply strEq|apply psEq|apply nilEq|apply arrEq);(try simp only [Int.toNat_natCast,etas,elDef]);first | done | omega | grind | (simp only [*]; done) | (simp [*]; done)))));(all_goals ((try simp only [Int.toNat_natCast,etas,elDef]);first | done | omega | grind | (simp only [*]; done) | (simp [*]; done))), (by exact sgOk_of (by rfl))⟩
  · refine leafI hK ?_
    rw [List.take_of_length_le (by omega)]
theorem r69 : ∀ k, (CtrOK Tryd.prog 69 (.pure (Fk69 k)) ∧ Callable Tryd.prog 69) := by
  intro k
  induction k with
  | zero =>
    exact ⟨⟨fun args o v h => by unfold Fk69 at h; split at h <;> cases h; first | trivial | (simp [v69, Scalar, Scalar2, Scalar1, stC, ndC, itC, chC, nwC]), fun args K h => by
        unfold pureC Fk69 at h; split at h
        · rename_i h1; split at h1 <;> cases h1; exact absurd (h.1 _ rfl).1 (Nat.not_lt_zero _)
        · exact h.elim⟩, callable Tryd.func69 rfl (by rfl)⟩
  | succ k ih =>
    refine pure_ok (E := E69 k) (mkE_cons ih (mkE_nil tab_ok)) mix (O := O69) (F := (Fk69 (k + 1))) Tryd.func69 rfl (by rfl) (by kernel_rfl) (fun args o v h => ?_) (fun args o v h => ?_) (fun args o v h hbd hp K hK => ?_)
    · unfold Fk69 at h; split at h <;> cases h; first | trivial | (simp [v69, Scalar, Scalar2, Scalar1, stC, ndC, itC, chC, nwC])
    · unfold Fk69 at h; split at h <;> cases h; exact Nat.le_of_ble_eq_true rfl
    · unfold Fk69 at h; split at h
      case h_2 => cases h
      cases h
      exact a69 k ⟨_, _, _, _, _⟩ (hp _ rfl).1 (by exact hbd) (hp _ rfl).2 K hK
theorem s69 : (CtrOK Tryd.prog 69 (.pure F69) ∧ Callable Tryd.prog 69) := by
  refine ⟨⟨fun args o v h => ?_, fun args K h => ?_⟩, (r69 0).2⟩
  · unfold F69 at h; split at h <;> cases h; first | trivial | (simp [v69, Scalar, Scalar2, Scalar1, stC, ndC, itC, chC, nwC])
  · unfold pureC F69 at h; split at h
    · rename_i h1; split at h1 <;> cases h1
      exact (r69 (m69 ⟨_, _, _, _, _⟩ + 1)).1.2 _ K ⟨fun p hp => by cases hp; exact ⟨Nat.lt_succ_self _, (h.1 _ rfl)⟩, h.2⟩
    · exact h.elim
noncomputable def v49 (n : Nd) : AV := .bool (validM n)
noncomputable def o49 (n : Nd) : Prop := True
noncomputable def F49 : List AV → QR
  | [.st [.int .i64 n_0, .int .i64 n_1, .str n_2, .ps .str n_3, .ps .node n_4]] => some (none, v49 ⟨n_0, n_1, n_2, n_3, n_4⟩)
  | _ => none
noncomputable def E49 : Ctx := mkE tab [(68, .pure F68), (69, .pure F69)]
noncomputable def O49 : Nat → List DI := ordL []
theorem a49 (n : Nd) (hb : BdAs [.st (ndC n)]) (ho : o49 n) (K : AV → List AV → Prop) (hK : K (v49 n) []) : abody E49 O49 .ps Tryd.f49 (Tryd.f49.body.getD .skip) [.st (ndC n)] K := by
  simp only [BdAs, BdA, BdL, BdC, MX, ndC, shC, itC, stC, opC, chC, nwC, flC, rqC, rsC, enc, List.cons_append, List.nil_append, and_true, true_and] at hb
  unfold v49 at hK
  have h5 : shapeM 5 n = true → okN n := fun h => ⟨5, by omega, h⟩
  conv => whnf
  repeat' first|((first|refine Cnd.mk (fun h=>?_) (fun h=>?_)|refine Gd.mk (fun h=>?_))<;>(try simp [etas,elDef,-List.getD_eq_getElem?_getD] at h)<;>conv=>whnf)|((first|refine Obl.mk (by first|omega|rfl|exact inK_byte _|(simp only [inK,Int.toNat_natCast,etas,elDef,o68,m68,o69,m69]<;>first|omega|grind)|grind [inK,o68,m68,o69,m69]) ?_|refine OblG.mk (by ((conv=>whnf);(repeat (first|refine Bx.mk ?_|(intro h;(try simp [etas,elDef,-List.getD_eq_getElem?_getD] at h);conv=>whnf)));(first|omega|rfl|exact inK_byte _|(simp only [inK,Int.toNat_natCast,etas,elDef,o68,m68,o69,m69]<;>first|omega|grind)|grind [inK,o68,m68,o69,m69]))) ?_|refine And.intro ?_ ?_)<;>conv=>whnf)|exact True.intro|(intro;conv=>whnf)
  exact leafB hK (by simp only [validM, nd_eta]; grind)
theorem s49 : (CtrOK Tryd.prog 49 (.pure F49) ∧ Callable Tryd.prog 49) := by
  refine pure_ok (E := E49) (mkE_cons s68 (mkE_cons s69 (mkE_nil tab_ok))) mix (O := O49) (F := F49) Tryd.func49 rfl (by rfl) (by kernel_rfl) (fun args o v h => ?_) (fun args o v h => ?_) (fun args o v h hbd hp K hK => ?_)
  · unfold F49 at h; split at h <;> cases h; first | trivial | (simp [v49, Scalar, Scalar2, Scalar1, stC, ndC, itC, chC, nwC])
  · unfold F49 at h; split at h <;> cases h; exact Nat.le_of_ble_eq_true rfl
  · unfold F49 at h; split at h
    case h_2 => cases h
    cases h
    exact a49 ⟨_, _, _, _, _⟩ (by exact hbd) trivial K hK
end Go.Rs

