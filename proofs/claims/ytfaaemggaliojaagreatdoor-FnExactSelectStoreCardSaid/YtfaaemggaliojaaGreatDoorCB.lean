import Derived.Test.YtfaaemggaliojaaGreatDoorCA
import Derived.Test.YtfaaemggaliojaaGreatDoorMA
set_option linter.all false
set_option linter.unusedSimpArgs false
set_option linter.unusedVariables false
namespace Go.Rs
open Go.Proofs
set_option maxRecDepth 100000
noncomputable def v58 (n : Nd) : AV := .int .i64 (countM n)
noncomputable def o58 (n : Nd) : Prop := okN n
noncomputable def m58 (n : Nd) : Nat := SizeOf.sizeOf n
noncomputable def F58 : List AV → QR
  | [.st [.int .i64 n_0, .int .i64 n_1, .str n_2, .ps .str n_3, .ps .node n_4]] => some (some (o58 ⟨n_0, n_1, n_2, n_3, n_4⟩), v58 ⟨n_0, n_1, n_2, n_3, n_4⟩)
  | _ => none
noncomputable def Fk58 (k : Nat) : List AV → QR
  | [.st [.int .i64 n_0, .int .i64 n_1, .str n_2, .ps .str n_3, .ps .node n_4]] => some (some (m58 ⟨n_0, n_1, n_2, n_3, n_4⟩ < k ∧ o58 ⟨n_0, n_1, n_2, n_3, n_4⟩), v58 ⟨n_0, n_1, n_2, n_3, n_4⟩)
  | _ => none
noncomputable def E58 (k : Nat) : Ctx := mkE tab [(58, .pure (Fk58 k))]
noncomputable def O58 : Nat → List DI := ordL []
theorem a58 (k : Nat) (n : Nd) (hm : m58 n < k + 1) (hb : BdAs [.st (ndC n)]) (ho : o58 n) (K : AV → List AV → Prop) (hK : K (v58 n) []) : abody (E58 k) O58 .ps Tryz.f58 (Tryz.f58.body.getD .skip) [.st (ndC n)] K := by
  simp only [BdAs, BdA, BdL, BdC, MX, ndC, shC, itC, stC, opC, chC, nwC, flC, rqC, rsC, enc, List.cons_append, List.nil_append, and_true, true_and] at hb
  unfold o58 at ho
  unfold v58 at hK
  unfold m58 at hm
  have hc := okN_count ho
  have hle : ∀ k, sumN countM (n.kids.take k) ≤ sumN countM n.kids := fun k => sumN_take_le
  have hkid : ∀ j, j < n.kids.length → SizeOf.sizeOf (n.kids.getD j default) < k ∧ okN (n.kids.getD j default) := fun j hj => ⟨by have := kid_size hj; omega, okN_kid ho hj⟩
  rw [countM_eq] at hK hc
  conv => whnf
  refine aloop_intro Nat (fun k => k ≤ n.kids.length) (fun k => n.kids.length - k) (fun k => [(3, .int .i64 (1 + sumN countM (n.kids.take k) : Nat)), (4, .int .i64 k)]) (fun _ => []) [1] 0 [] [] (by simp) ?_ (by exact sgOk_of (by rfl)) ?_
  · iterate 2 ((all_goals (conv=>whnf));(repeat' (first|exact trivial|rfl|(refine nilEq ?_;first|rfl|(simp only [*];done)|(simp [*];done)|grind)|apply And.intro|((first|refine intEq ?_|refine boolEq ?_|refine strEq ?_|refine psEq ?_|refine nilEq ?_|refine arrEq ?_);(try simp only [Int.toNat_natCast,etas,elDef]);first | done | omega | grind | (simp only [*]; done) | (simp [*]; done)))));(all_goals ((try simp only [Int.toNat_natCast,etas,elDef]);first | done | omega | grind | (simp only [*]; done) | (simp [*]; done)))
  rintro i hi
  have hli := hle i
  have hli1 := hle (i + 1)
  have hst := fun h => sumN_take (f := countM) (l := n.kids) (k := i) h
  conv => whnf
  repeat' first|(refine Cnd.mk (fun h=>?_) (fun h=>?_)<;>(try simp [etas,elDef,-List.getD_eq_getElem?_getD] at h)<;>conv=>whnf)|(refine Obl.mk (by first|omega|rfl|exact inK_byte _|(simp only [inK,Int.toNat_natCast,etas,elDef,m58,o58,m58]<;>first|omega|grind)|grind [inK,m58,o58,m58]) ?_<;>conv=>whnf)|(refine OblG.mk (by ((conv=>whnf);(repeat (first|(refine Bx.mk ?_)|(intro h;(try simp [etas,elDef,-List.getD_eq_getElem?_getD] at h);conv=>whnf)));(first|omega|rfl|exact inK_byte _|(simp only [inK,Int.toNat_natCast,etas,elDef,m58,o58,m58]<;>first|omega|grind)|grind [inK,m58,o58,m58]))) ?_<;>conv=>whnf)|(refine Gd.mk (fun h=>?_)<;>(try simp [etas,elDef,-List.getD_eq_getElem?_getD] at h)<;>conv=>whnf)|(refine And.intro ?_ ?_<;>conv=>whnf)|exact True.intro|(intro;conv=>whnf)
  · exact ⟨i + 1, [], [], by omega, by omega, by iterate 2 ((all_goals (conv=>whnf));(repeat' (first|exact trivial|rfl|(refine nilEq ?_;first|rfl|(simp only [*];done)|(simp [*];done)|grind)|apply And.intro|((first|refine intEq ?_|refine boolEq ?_|refine strEq ?_|refine psEq ?_|refine nilEq ?_|refine arrEq ?_);(try simp only [Int.toNat_natCast,etas,elDef]);first | done | omega | grind | (simp only [*]; done) | (simp [*]; done)))));(all_goals ((try simp only [Int.toNat_natCast,etas,elDef]);first | done | omega | grind | (simp only [*]; done) | (simp [*]; done))), (by exact sgOk_of (by rfl))⟩
  · refine leafI hK ?_
    rw [List.take_of_length_le (by omega)]
theorem r58 : ∀ k, (CtrOK Tryz.prog 58 (.pure (Fk58 k)) ∧ Callable Tryz.prog 58) := by
  intro k
  induction k with
  | zero =>
    exact ⟨⟨fun args o v h => by unfold Fk58 at h; split at h <;> cases h; first | trivial | (simp [v58, Scalar, Scalar2, Scalar1, stC, ndC, itC, chC, nwC]), fun args K h => by
        unfold pureC Fk58 at h; split at h
        · rename_i h1; split at h1 <;> cases h1; exact absurd (h.1 _ rfl).1 (Nat.not_lt_zero _)
        · exact h.elim⟩, callable Tryz.func58 rfl (by rfl)⟩
  | succ k ih =>
    refine pure_ok (E := E58 k) (mkE_cons ih (mkE_nil tab_ok)) mix (O := O58) (F := (Fk58 (k + 1))) Tryz.func58 rfl (by rfl) (by kernel_rfl) (fun args o v h => ?_) (fun args o v h => ?_) (fun args o v h hbd hp K hK => ?_)
    · unfold Fk58 at h; split at h <;> cases h; first | trivial | (simp [v58, Scalar, Scalar2, Scalar1, stC, ndC, itC, chC, nwC])
    · unfold Fk58 at h; split at h <;> cases h; exact Nat.le_of_ble_eq_true rfl
    · unfold Fk58 at h; split at h
      case h_2 => cases h
      cases h
      exact a58 k ⟨_, _, _, _, _⟩ (hp _ rfl).1 (by exact hbd) (hp _ rfl).2 K hK
theorem s58 : (CtrOK Tryz.prog 58 (.pure F58) ∧ Callable Tryz.prog 58) := by
  refine ⟨⟨fun args o v h => ?_, fun args K h => ?_⟩, (r58 0).2⟩
  · unfold F58 at h; split at h <;> cases h; first | trivial | (simp [v58, Scalar, Scalar2, Scalar1, stC, ndC, itC, chC, nwC])
  · unfold pureC F58 at h; split at h
    · rename_i h1; split at h1 <;> cases h1
      exact (r58 (m58 ⟨_, _, _, _, _⟩ + 1)).1.2 _ K ⟨fun p hp => by cases hp; exact ⟨Nat.lt_succ_self _, (h.1 _ rfl)⟩, h.2⟩
    · exact h.elim
noncomputable def v38 (n : Nd) : AV := .bool (validM n)
noncomputable def o38 (n : Nd) : Prop := True
noncomputable def F38 : List AV → QR
  | [.st [.int .i64 n_0, .int .i64 n_1, .str n_2, .ps .str n_3, .ps .node n_4]] => some (none, v38 ⟨n_0, n_1, n_2, n_3, n_4⟩)
  | _ => none
noncomputable def E38 : Ctx := mkE tab [(57, .pure F57), (58, .pure F58)]
noncomputable def O38 : Nat → List DI := ordL []
theorem a38 (n : Nd) (hb : BdAs [.st (ndC n)]) (ho : o38 n) (K : AV → List AV → Prop) (hK : K (v38 n) []) : abody E38 O38 .ps Tryz.f38 (Tryz.f38.body.getD .skip) [.st (ndC n)] K := by
  simp only [BdAs, BdA, BdL, BdC, MX, ndC, shC, itC, stC, opC, chC, nwC, flC, rqC, rsC, enc, List.cons_append, List.nil_append, and_true, true_and] at hb
  unfold v38 at hK
  have h5 : shapeM 5 n = true → okN n := fun h => ⟨5, by omega, h⟩
  conv => whnf
  repeat' first|(refine Cnd.mk (fun h=>?_) (fun h=>?_)<;>(try simp [etas,elDef,-List.getD_eq_getElem?_getD] at h)<;>conv=>whnf)|(refine Obl.mk (by first|omega|rfl|exact inK_byte _|(simp only [inK,Int.toNat_natCast,etas,elDef,o57,m57,o58,m58]<;>first|omega|grind)|grind [inK,o57,m57,o58,m58]) ?_<;>conv=>whnf)|(refine OblG.mk (by ((conv=>whnf);(repeat (first|(refine Bx.mk ?_)|(intro h;(try simp [etas,elDef,-List.getD_eq_getElem?_getD] at h);conv=>whnf)));(first|omega|rfl|exact inK_byte _|(simp only [inK,Int.toNat_natCast,etas,elDef,o57,m57,o58,m58]<;>first|omega|grind)|grind [inK,o57,m57,o58,m58]))) ?_<;>conv=>whnf)|(refine Gd.mk (fun h=>?_)<;>(try simp [etas,elDef,-List.getD_eq_getElem?_getD] at h)<;>conv=>whnf)|(refine And.intro ?_ ?_<;>conv=>whnf)|exact True.intro|(intro;conv=>whnf)
  exact leafB hK (by simp only [validM, nd_eta]; grind)
theorem s38 : (CtrOK Tryz.prog 38 (.pure F38) ∧ Callable Tryz.prog 38) := by
  refine pure_ok (E := E38) (mkE_cons s57 (mkE_cons s58 (mkE_nil tab_ok))) mix (O := O38) (F := F38) Tryz.func38 rfl (by rfl) (by kernel_rfl) (fun args o v h => ?_) (fun args o v h => ?_) (fun args o v h hbd hp K hK => ?_)
  · unfold F38 at h; split at h <;> cases h; first | trivial | (simp [v38, Scalar, Scalar2, Scalar1, stC, ndC, itC, chC, nwC])
  · unfold F38 at h; split at h <;> cases h; exact Nat.le_of_ble_eq_true rfl
  · unfold F38 at h; split at h
    case h_2 => cases h
    cases h
    exact a38 ⟨_, _, _, _, _⟩ (by exact hbd) trivial K hK
end Go.Rs

