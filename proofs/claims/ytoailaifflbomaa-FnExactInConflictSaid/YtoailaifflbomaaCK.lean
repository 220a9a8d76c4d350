import Derived.Test.YtoailaifflbomaaInsF
import Derived.Test.YtoailaifflbomaaCF
import Derived.Test.YtoailaifflbomaaMB
import Derived.Test.YtoailaifflbomaaCD
set_option linter.all false
section
section
section
set_option linter.unusedSimpArgs false
set_option linter.unusedVariables false
namespace Go.Rs
open Go.Proofs Go.RowKit Go.Lib
end Go.Rs
end
section
set_option linter.unusedSimpArgs false
set_option linter.unusedVariables false
namespace Go.Rs
open Go.Proofs Go.RowKit Go.Lib
end Go.Rs
end
end
section
section
set_option linter.unusedSimpArgs false
set_option linter.unusedVariables false
namespace Go.Rs
open Go.Proofs
set_option maxRecDepth 100000
end Go.Rs
end
section
section
set_option linter.unusedSimpArgs false
set_option linter.unusedVariables false
namespace Go.Rs
open Go.Proofs Go.RowKit Go.Lib
end Go.Rs
end
section
set_option linter.unusedSimpArgs false
set_option linter.unusedVariables false
namespace Go.Rs
open Go.Proofs
set_option maxRecDepth 100000
noncomputable def c19 (l : List Chg) (K : AV → List AV → Prop) : Prop :=
    K (optS (logM l)) []
end Go.Rs
end
end
end
end
section
section
set_option linter.unusedSimpArgs false
set_option linter.unusedVariables false
namespace Go.Rs
open Go.Proofs
set_option maxRecDepth 100000
end Go.Rs
end
section
set_option linter.unusedSimpArgs false
set_option linter.unusedVariables false
namespace Go.Rs
open Go.Proofs
set_option maxRecDepth 100000
noncomputable def v131 (n : Int) : AV := .str (decM n.toNat)
noncomputable def o131 (n : Int) : Prop := 0 ≤ n ∧ n ≤ 1000000000000
noncomputable def m131 (n : Int) : Nat := n.toNat
noncomputable def F131 : List AV → QR
  | [.int .i64 n] => some (some (o131 n), v131 n)
  | _ => none
noncomputable def Fk131 (k : Nat) : List AV → QR
  | [.int .i64 n] => some (some (m131 n < k ∧ o131 n), v131 n)
  | _ => none
noncomputable def E131 (k : Nat) : Ctx := mkE tab [(131, .pure (Fk131 k))]
noncomputable def O131 : Nat → List DI := ordL [(7, [.q 0, .q 1, .q 2, .q 3, .q 4, .q 5, .q 6, .l 7 [2], .q 8, .q 9, .q 10])]
theorem a131 (k : Nat) (n : Int) (hm : m131 n < k + 1) (hb : BdAs [.int .i64 n]) (ho : o131 n) (K : AV → List AV → Prop) (hK : K (v131 n) []) : abody (E131 k) O131 .ps Try.f131 (Try.f131.body.getD .skip) [.int .i64 n] K := by
  simp only [BdAs, BdA, BdL, BdC, MX, ndC, shC, itC, stC, opC, chC, nwC, flC, rqC, rsC, enc, List.cons_append, List.nil_append, and_true, true_and] at hb
  unfold o131 at ho
  unfold v131 at hK
  unfold m131 at hm
  have h1 := fun h => decM_lt (n := n.toNat) h
  have h2 := fun h => decM_ge (n := n.toNat) h
  have h3 := decM_len (n / 10).toNat
  conv => whnf
  repeat' first|((first|refine Cnd.mk (fun h=>?_) (fun h=>?_)|refine Gd.mk (fun h=>?_))<;>(try simp [etas,elDef,-List.getD_eq_getElem?_getD] at h)<;>conv=>whnf)|((first|refine Obl.mk (by first|omega|rfl|exact inK_byte _|(simp only [inK,Int.toNat_natCast,etas,elDef,m131,o131,m131]<;>first|omega|grind)|grind [inK,m131,o131,m131]) ?_|refine OblG.mk (by ((conv=>whnf);(repeat (first|refine Bx.mk ?_|(intro h;(try simp [etas,elDef,-List.getD_eq_getElem?_getD] at h);conv=>whnf)));(first|omega|rfl|exact inK_byte _|(simp only [inK,Int.toNat_natCast,etas,elDef,m131,o131,m131]<;>first|omega|grind)|grind [inK,m131,o131,m131]))) ?_|refine And.intro ?_ ?_)<;>conv=>whnf)|exact True.intro|(intro;conv=>whnf)
  · exfalso; omega
  · exfalso; omega
  · exact leafS hK (by rw [h1 (by omega)]; simp only [List.map_cons, List.map_nil]; rw [show (48 + n).toNat = 48 + n.toNat by omega])
  · exact leafS hK (by rw [h2 (by omega)]; simp only [List.map_cons, List.map_nil]; rw [show (48 + n % 10).toNat = 48 + n.toNat % 10 by omega, show (n / 10).toNat = n.toNat / 10 by omega])
theorem r131 : ∀ k, (CtrOK Try.prog 131 (.pure (Fk131 k)) ∧ Callable Try.prog 131) := by
  intro k
  induction k with
  | zero =>
    exact ⟨⟨fun args o v h => by unfold Fk131 at h; split at h <;> cases h; first | trivial | (simp [v131, Scalar, Scalar2, Scalar1, stC, ndC, itC, chC, nwC]), fun args K h => by
        unfold pureC Fk131 at h; split at h
        · rename_i h1; split at h1 <;> cases h1; exact absurd (h.1 _ rfl).1 (Nat.not_lt_zero _)
        · exact h.elim⟩, callable Try.func131 rfl (by rfl)⟩
  | succ k ih =>
    refine pure_ok (E := E131 k) (mkE_cons ih (mkE_nil tab_ok)) mix (O := O131) (F := (Fk131 (k + 1))) Try.func131 rfl (by rfl) (by kernel_rfl) (fun args o v h => ?_) (fun args o v h => ?_) (fun args o v h hbd hp K hK => ?_)
    · unfold Fk131 at h; split at h <;> cases h; first | trivial | (simp [v131, Scalar, Scalar2, Scalar1, stC, ndC, itC, chC, nwC])
    · unfold Fk131 at h; split at h <;> cases h; exact Nat.le_of_ble_eq_true rfl
    · unfold Fk131 at h; split at h
      case h_2 => cases h
      cases h
      exact a131 k _ (hp _ rfl).1 (by exact hbd) (hp _ rfl).2 K hK
theorem s131 : (CtrOK Try.prog 131 (.pure F131) ∧ Callable Try.prog 131) := by
  refine ⟨⟨fun args o v h => ?_, fun args K h => ?_⟩, (r131 0).2⟩
  · unfold F131 at h; split at h <;> cases h; first | trivial | (simp [v131, Scalar, Scalar2, Scalar1, stC, ndC, itC, chC, nwC])
  · unfold pureC F131 at h; split at h
    · rename_i h1; split at h1 <;> cases h1
      exact (r131 (m131 _ + 1)).1.2 _ K ⟨fun p hp => by cases hp; exact ⟨Nat.lt_succ_self _, (h.1 _ rfl)⟩, h.2⟩
    · exact h.elim
noncomputable def v113 (n : Nd) (b : Bs) : AV := .int .i64 (placeM n b)
noncomputable def o113 (n : Nd) (b : Bs) : Prop := n.kids.length ≤ 1000000000 ∧ (n.kind = 4 → n.names.length = n.kids.length)
noncomputable def F113 : List AV → QR
  | [.st [.int .i64 n_0, .int .i64 n_1, .str n_2, .ps .str n_3, .ps .node n_4], .str b] => some (some (o113 ⟨n_0, n_1, n_2, n_3, n_4⟩ b), v113 ⟨n_0, n_1, n_2, n_3, n_4⟩ b)
  | _ => none
noncomputable def E113 : Ctx := mkE tab [(131, .pure F131)]
noncomputable def O113 : Nat → List DI := ordL []
theorem a113 (n : Nd) (b : Bs) (hb : BdAs [.st (ndC n), .str b]) (ho : o113 n b) (K : AV → List AV → Prop) (hK : K (v113 n b) []) : abody E113 O113 .ps Try.f113 (Try.f113.body.getD .skip) [.st (ndC n), .str b] K := by
  simp only [BdAs, BdA, BdL, BdC, MX, ndC, shC, itC, stC, opC, chC, nwC, flC, rqC, rsC, enc, List.cons_append, List.nil_append, and_true, true_and] at hb
  unfold o113 at ho
  unfold v113 at hK
  obtain ⟨ho1, ho2⟩ := ho
  conv => whnf
  refine aloop_intro Nat (fun k => k ≤ n.kids.length ∧ ∀ j, j < k → hitM n b j = false) (fun k => n.kids.length - k) (fun k => [(5, .int .i64 k)]) (fun k => []) [2] 0 [] [] ?_ ?_ (by exact sgOk_of (by rfl)) ?_
  · first | (simp; done) | (simp; assumption)
  · iterate 2 ((all_goals (conv=>whnf));(repeat' (first|exact trivial|rfl|(refine nilEq ?_;first|rfl|(simp only [*];done)|(simp [*];done)|grind)|apply And.intro|((first|apply intEq|apply boolEq|apply strEq|apply psEq|apply nilEq|apply arrEq);(try simp only [Int.toNat_natCast,etas,elDef]);first | done | omega | grind | (simp only [*]; done) | (simp [*]; done)))));(all_goals ((try simp only [Int.toNat_natCast,etas,elDef]);first | done | omega | grind | (simp only [*]; done) | (simp [*]; done)))
  rintro i ⟨hi, hj⟩
  conv => whnf
  repeat' first|((first|refine Cnd.mk (fun h=>?_) (fun h=>?_)|refine Gd.mk (fun h=>?_))<;>(try simp [etas,elDef,-List.getD_eq_getElem?_getD] at h)<;>conv=>whnf)|((first|refine Obl.mk (by first|omega|rfl|exact inK_byte _|(simp only [inK,Int.toNat_natCast,etas,elDef,o131,m131]<;>first|omega|grind)|grind [inK,o131,m131]) ?_|refine OblG.mk (by ((conv=>whnf);(repeat (first|refine Bx.mk ?_|(intro h;(try simp [etas,elDef,-List.getD_eq_getElem?_getD] at h);conv=>whnf)));(first|omega|rfl|exact inK_byte _|(simp only [inK,Int.toNat_natCast,etas,elDef,o131,m131]<;>first|omega|grind)|grind [inK,o131,m131]))) ?_|refine And.intro ?_ ?_)<;>conv=>whnf)|exact True.intro|(intro;conv=>whnf)
  · exact leafI hK (placeM_at (by omega) (hitM_iff.2 (h.imp (fun h => ⟨h.1, of_decide_eq_true h.2⟩) id)) hj)
  · have hi : hitM n b i = false := hitM_no ⟨fun e => of_decide_eq_false (h.1 e), h.2⟩
    have hj' : ∀ j, j < i + 1 → hitM n b j = false := fun j h => (Nat.lt_or_eq_of_le (Nat.le_of_lt_succ h)).elim (hj j) (fun e => e ▸ hi)
    exact ⟨i + 1, [], [], ⟨by omega, by grind⟩, by omega, by iterate 2 ((all_goals (conv=>whnf));(repeat' (first|exact trivial|rfl|(refine nilEq ?_;first|rfl|(simp only [*];done)|(simp [*];done)|grind)|apply And.intro|((first|apply intEq|apply boolEq|apply strEq|apply psEq|apply nilEq|apply arrEq);(try simp only [Int.toNat_natCast,etas,elDef]);exact hj'))));(all_goals ((try simp only [Int.toNat_natCast,etas,elDef]);exact hj')), (by exact sgOk_of (by rfl))⟩
  · exact leafI hK (placeM_none (by grind))
theorem s113 : (CtrOK Try.prog 113 (.pure F113) ∧ Callable Try.prog 113) := by
  refine pure_ok (E := E113) (mkE_cons s131 (mkE_nil tab_ok)) mix (O := O113) (F := F113) Try.func113 rfl (by rfl) (by kernel_rfl) (fun args o v h => ?_) (fun args o v h => ?_) (fun args o v h hbd hp K hK => ?_)
  · unfold F113 at h; split at h <;> cases h; first | trivial | (simp [v113, Scalar, Scalar2, Scalar1, stC, ndC, itC, chC, nwC])
  · unfold F113 at h; split at h <;> cases h; exact Nat.le_of_ble_eq_true rfl
  · unfold F113 at h; split at h
    case h_2 => cases h
    cases h
    exact a113 ⟨_, _, _, _, _⟩ _ (by exact hbd) (hp _ rfl) K hK
noncomputable def v114 (n : Nd) (b : Bs) : AV := .tup [.int .i64 (slotM n b).1, .bool (slotM n b).2]
noncomputable def o114 (n : Nd) (b : Bs) : Prop := n.kids.length ≤ 1000000000 ∧ (n.kind = 4 → n.names.length = n.kids.length)
noncomputable def F114 : List AV → QR
  | [.st [.int .i64 n_0, .int .i64 n_1, .str n_2, .ps .str n_3, .ps .node n_4], .str b] => some (some (o114 ⟨n_0, n_1, n_2, n_3, n_4⟩ b), v114 ⟨n_0, n_1, n_2, n_3, n_4⟩ b)
  | _ => none
noncomputable def E114 : Ctx := mkE tab [(113, .pure F113), (131, .pure F131)]
noncomputable def O114 : Nat → List DI := ordL [(3, [.q 0, .q 1, .q 2, .q 3, .q 4, .q 5])]
theorem a114 (n : Nd) (b : Bs) (hb : BdAs [.st (ndC n), .str b]) (ho : o114 n b) (K : AV → List AV → Prop) (hK : K (v114 n b) []) : abody E114 O114 .ps Try.f114 (Try.f114.body.getD .skip) [.st (ndC n), .str b] K := by
  simp only [BdAs, BdA, BdL, BdC, MX, ndC, shC, itC, stC, opC, chC, nwC, flC, rqC, rsC, enc, List.cons_append, List.nil_append, and_true, true_and] at hb
  unfold o114 at ho
  unfold v114 at hK
  obtain ⟨ho1, ho2⟩ := ho
  conv => whnf
  repeat' first|((first|refine Cnd.mk (fun h=>?_) (fun h=>?_)|refine Gd.mk (fun h=>?_))<;>(try simp [etas,elDef,-List.getD_eq_getElem?_getD] at h)<;>conv=>whnf)|((first|refine Obl.mk (by first|omega|rfl|exact inK_byte _|(simp only [inK,Int.toNat_natCast,etas,elDef,o113,o131,m131]<;>first|omega|grind)|grind [inK,o113,o131,m131]) ?_|refine OblG.mk (by ((conv=>whnf);(repeat (first|refine Bx.mk ?_|(intro h;(try simp [etas,elDef,-List.getD_eq_getElem?_getD] at h);conv=>whnf)));(first|omega|rfl|exact inK_byte _|(simp only [inK,Int.toNat_natCast,etas,elDef,o113,o131,m131]<;>first|omega|grind)|grind [inK,o113,o131,m131]))) ?_|refine And.intro ?_ ?_)<;>conv=>whnf)|exact True.intro|(intro;conv=>whnf)
  · have e : slotM n b = (placeM n b, decide (n.kind = 4)) := by unfold slotM; rw [if_pos h]
    rw [e] at hK
    exact hK
  · have e : slotM n b = ((n.kids.length : Int), false) := by unfold slotM; rw [if_neg (by omega), if_pos h]
    rw [e] at hK
    exact hK
  · refine aloop_intro Nat (fun k => k ≤ n.kids.length + 1 ∧ (∀ j, j < k → ltS b (n.names.getD j []) = false) ∧ (n.kind = 4 → k ≤ n.kids.length)) (fun k => n.kids.length + 1 - k) (fun k => [(7, .int .i64 k)]) (fun k => []) [2] 0 [] [] ?_ ?_ (by exact sgOk_of (by rfl)) ?_
    · first | (simp; done) | (simp; assumption)
    · iterate 2 ((all_goals (conv=>whnf));(repeat' (first|exact trivial|rfl|(refine nilEq ?_;first|rfl|(simp only [*];done)|(simp [*];done)|grind)|apply And.intro|((first|apply intEq|apply boolEq|apply strEq|apply psEq|apply nilEq|apply arrEq);(try simp only [Int.toNat_natCast,etas,elDef]);first | done | omega | grind | (simp only [*]; done) | (simp [*]; done)))));(all_goals ((try simp only [Int.toNat_natCast,etas,elDef]);first | done | omega | grind | (simp only [*]; done) | (simp [*]; done)))
    rintro i ⟨hi, hj⟩
    conv => whnf
    repeat' first|((first|refine Cnd.mk (fun h=>?_) (fun h=>?_)|refine Gd.mk (fun h=>?_))<;>(try simp [etas,elDef,-List.getD_eq_getElem?_getD] at h)<;>conv=>whnf)|((first|refine Obl.mk (by first|omega|rfl|exact inK_byte _|(simp only [inK,Int.toNat_natCast,etas,elDef,o113,o131,m131]<;>first|omega|grind)|grind [inK,o113,o131,m131]) ?_|refine OblG.mk (by ((conv=>whnf);(repeat (first|refine Bx.mk ?_|(intro h;(try simp [etas,elDef,-List.getD_eq_getElem?_getD] at h);conv=>whnf)));(first|omega|rfl|exact inK_byte _|(simp only [inK,Int.toNat_natCast,etas,elDef,o113,o131,m131]<;>first|omega|grind)|grind [inK,o113,o131,m131]))) ?_|refine And.intro ?_ ?_)<;>conv=>whnf)|exact True.intro|(intro;conv=>whnf)
    · have e1 := slotI_at (n := n) (b := b) (i := i) (by omega) (fun hl => by rcases h with h | h <;> first | omega | exact h) hj.1
      have e : slotM n b = ((i : Int), false) := by unfold slotM; rw [if_neg (by omega), if_neg (by grind), if_pos (by omega), e1]
      rw [e] at hK
      exact hK
    · have hj' : ∀ j, j < i + 1 → ltS b (n.names.getD j []) = false := fun j hl => (Nat.lt_or_eq_of_le (Nat.le_of_lt_succ hl)).elim (hj.1 j) (fun e => e ▸ h.2)
      exact ⟨i + 1, [], [], ⟨by omega, by grind⟩, by omega, by iterate 2 ((all_goals (conv=>whnf));(repeat' (first|exact trivial|rfl|(refine nilEq ?_;first|rfl|(simp only [*];done)|(simp [*];done)|grind)|apply And.intro|((first|apply intEq|apply boolEq|apply strEq|apply psEq|apply nilEq|apply arrEq);(try simp only [Int.toNat_natCast,etas,elDef]);exact ⟨hj', by omega⟩))));(all_goals ((try simp only [Int.toNat_natCast,etas,elDef]);exact ⟨hj', by omega⟩)), (by exact sgOk_of (by rfl))⟩
    · have e4 : ¬ n.kind = 4 := by omega
      have e : slotM n b = (-1, false) := by unfold slotM; rw [if_neg (by omega), if_neg (by grind), if_neg e4]
      rw [e] at hK
      exact hK
theorem s114 : (CtrOK Try.prog 114 (.pure F114) ∧ Callable Try.prog 114) := by
  refine pure_ok (E := E114) (mkE_cons s113 (mkE_cons s131 (mkE_nil tab_ok))) mix (O := O114) (F := F114) Try.func114 rfl (by rfl) (by kernel_rfl) (fun args o v h => ?_) (fun args o v h => ?_) (fun args o v h hbd hp K hK => ?_)
  · unfold F114 at h; split at h <;> cases h; first | trivial | (simp [v114, Scalar, Scalar2, Scalar1, stC, ndC, itC, chC, nwC])
  · unfold F114 at h; split at h <;> cases h; exact Nat.le_of_ble_eq_true rfl
  · unfold F114 at h; split at h
    case h_2 => cases h
    cases h
    exact a114 ⟨_, _, _, _, _⟩ _ (by exact hbd) (hp _ rfl) K hK
end Go.Rs
end
end
