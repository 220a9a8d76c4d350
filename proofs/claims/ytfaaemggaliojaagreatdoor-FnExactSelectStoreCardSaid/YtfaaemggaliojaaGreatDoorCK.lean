import Derived.Test.YtfaaemggaliojaaGreatDoorCG
import Derived.Test.YtfaaemggaliojaaGreatDoorMB
import Derived.Test.YtfaaemggaliojaaGreatDoorDelB
import Derived.Test.YtfaaemggaliojaaGreatDoorCD
set_option linter.all false
set_option linter.unusedSimpArgs false
set_option linter.unusedVariables false
namespace Go.Rs
open Go.Proofs
set_option maxRecDepth 100000
noncomputable def v80 (n : Int) : AV := .str (decM n.toNat)
noncomputable def o80 (n : Int) : Prop := 0 ≤ n ∧ n ≤ 1000000000000
noncomputable def m80 (n : Int) : Nat := n.toNat
noncomputable def F80 : List AV → QR
  | [.int .i64 n] => some (some (o80 n), v80 n)
  | _ => none
noncomputable def Fk80 (k : Nat) : List AV → QR
  | [.int .i64 n] => some (some (m80 n < k ∧ o80 n), v80 n)
  | _ => none
noncomputable def E80 (k : Nat) : Ctx := mkE tab [(80, .pure (Fk80 k))]
noncomputable def O80 : Nat → List DI := ordL [(7, [.q 0, .q 1, .q 2, .q 3, .q 4, .q 5, .q 6, .l 7 [2], .q 8, .q 9, .q 10])]
theorem a80 (k : Nat) (n : Int) (hm : m80 n < k + 1) (hb : BdAs [.int .i64 n]) (ho : o80 n) (K : AV → List AV → Prop) (hK : K (v80 n) []) : abody (E80 k) O80 .ps Tryz.f80 (Tryz.f80.body.getD .skip) [.int .i64 n] K := by
  simp only [BdAs, BdA, BdL, BdC, MX, ndC, shC, itC, stC, opC, chC, nwC, flC, rqC, rsC, enc, List.cons_append, List.nil_append, and_true, true_and] at hb
  unfold o80 at ho
  unfold v80 at hK
  unfold m80 at hm
  have h1 := fun h => decM_lt (n := n.toNat) h
  have h2 := fun h => decM_ge (n := n.toNat) h
  have h3 := decM_len (n / 10).toNat
  conv => whnf
  repeat' first|(refine Cnd.mk (fun h=>?_) (fun h=>?_)<;>(try simp [etas,elDef,-List.getD_eq_getElem?_getD] at h)<;>conv=>whnf)|(refine Obl.mk (by first|omega|rfl|exact inK_byte _|(simp only [inK,Int.toNat_natCast,etas,elDef,m80,o80,m80]<;>first|omega|grind)|grind [inK,m80,o80,m80]) ?_<;>conv=>whnf)|(refine OblG.mk (by ((conv=>whnf);(repeat (first|(refine Bx.mk ?_)|(intro h;(try simp [etas,elDef,-List.getD_eq_getElem?_getD] at h);conv=>whnf)));(first|omega|rfl|exact inK_byte _|(simp only [inK,Int.toNat_natCast,etas,elDef,m80,o80,m80]<;>first|omega|grind)|grind [inK,m80,o80,m80]))) ?_<;>conv=>whnf)|(refine Gd.mk (fun h=>?_)<;>(try simp [etas,elDef,-List.getD_eq_getElem?_getD] at h)<;>conv=>whnf)|(refine And.intro ?_ ?_<;>conv=>whnf)|exact True.intro|(intro;conv=>whnf)
  · exfalso; omega
  · exfalso; omega
  · exact leafS hK (by rw [h1 (by omega)]; simp only [List.map_cons, List.map_nil]; rw [show (48 + n).toNat = 48 + n.toNat by omega])
  · exact leafS hK (by rw [h2 (by omega)]; simp only [List.map_cons, List.map_nil]; rw [show (48 + n % 10).toNat = 48 + n.toNat % 10 by omega, show (n / 10).toNat = n.toNat / 10 by omega])
theorem r80 : ∀ k, (CtrOK Tryz.prog 80 (.pure (Fk80 k)) ∧ Callable Tryz.prog 80) := by
  intro k
  induction k with
  | zero =>
    exact ⟨⟨fun args o v h => by unfold Fk80 at h; split at h <;> cases h; first | trivial | (simp [v80, Scalar, Scalar2, Scalar1, stC, ndC, itC, chC, nwC]), fun args K h => by
        unfold pureC Fk80 at h; split at h
        · rename_i h1; split at h1 <;> cases h1; exact absurd (h.1 _ rfl).1 (Nat.not_lt_zero _)
        · exact h.elim⟩, callable Tryz.func80 rfl (by rfl)⟩
  | succ k ih =>
    refine pure_ok (E := E80 k) (mkE_cons ih (mkE_nil tab_ok)) mix (O := O80) (F := (Fk80 (k + 1))) Tryz.func80 rfl (by rfl) (by kernel_rfl) (fun args o v h => ?_) (fun args o v h => ?_) (fun args o v h hbd hp K hK => ?_)
    · unfold Fk80 at h; split at h <;> cases h; first | trivial | (simp [v80, Scalar, Scalar2, Scalar1, stC, ndC, itC, chC, nwC])
    · unfold Fk80 at h; split at h <;> cases h; exact Nat.le_of_ble_eq_true rfl
    · unfold Fk80 at h; split at h
      case h_2 => cases h
      cases h
      exact a80 k _ (hp _ rfl).1 (by exact hbd) (hp _ rfl).2 K hK
theorem s80 : (CtrOK Tryz.prog 80 (.pure F80) ∧ Callable Tryz.prog 80) := by
  refine ⟨⟨fun args o v h => ?_, fun args K h => ?_⟩, (r80 0).2⟩
  · unfold F80 at h; split at h <;> cases h; first | trivial | (simp [v80, Scalar, Scalar2, Scalar1, stC, ndC, itC, chC, nwC])
  · unfold pureC F80 at h; split at h
    · rename_i h1; split at h1 <;> cases h1
      exact (r80 (m80 _ + 1)).1.2 _ K ⟨fun p hp => by cases hp; exact ⟨Nat.lt_succ_self _, (h.1 _ rfl)⟩, h.2⟩
    · exact h.elim
noncomputable def v72 (n : Nd) (b : Bs) : AV := .int .i64 (placeM n b)
noncomputable def o72 (n : Nd) (b : Bs) : Prop := n.kids.length ≤ 1000000000 ∧ (n.kind = 4 → n.names.length = n.kids.length)
noncomputable def F72 : List AV → QR
  | [.st [.int .i64 n_0, .int .i64 n_1, .str n_2, .ps .str n_3, .ps .node n_4], .str b] => some (some (o72 ⟨n_0, n_1, n_2, n_3, n_4⟩ b), v72 ⟨n_0, n_1, n_2, n_3, n_4⟩ b)
  | _ => none
noncomputable def E72 : Ctx := mkE tab [(80, .pure F80)]
noncomputable def O72 : Nat → List DI := ordL []
theorem a72 (n : Nd) (b : Bs) (hb : BdAs [.st (ndC n), .str b]) (ho : o72 n b) (K : AV → List AV → Prop) (hK : K (v72 n b) []) : abody E72 O72 .ps Tryz.f72 (Tryz.f72.body.getD .skip) [.st (ndC n), .str b] K := by
  simp only [BdAs, BdA, BdL, BdC, MX, ndC, shC, itC, stC, opC, chC, nwC, flC, rqC, rsC, enc, List.cons_append, List.nil_append, and_true, true_and] at hb
  unfold o72 at ho
  unfold v72 at hK
  obtain ⟨ho1, ho2⟩ := ho
  conv => whnf
  refine aloop_intro Nat (fun k => k ≤ n.kids.length ∧ ∀ j, j < k → hitM n b j = false) (fun k => n.kids.length - k) (fun k => [(5, .int .i64 k)]) (fun k => []) [2] 0 [] [] ?_ ?_ (by exact sgOk_of (by rfl)) ?_
  · first | (simp; done) | (simp; assumption)
  · iterate 2 ((all_goals (conv=>whnf));(repeat' (first|exact trivial|rfl|(refine nilEq ?_;first|rfl|(simp only [*];done)|(simp [*];done)|grind)|apply And.intro|((first|refine intEq ?_|refine boolEq ?_|refine strEq ?_|refine psEq ?_|refine nilEq ?_|refine arrEq ?_);(try simp only [Int.toNat_natCast,etas,elDef]);first | done | omega | grind | (simp only [*]; done) | (simp [*]; done)))));(all_goals ((try simp only [Int.toNat_natCast,etas,elDef]);first | done | omega | grind | (simp only [*]; done) | (simp [*]; done)))
  rintro i ⟨hi, hj⟩
  conv => whnf
  repeat' first|(refine Cnd.mk (fun h=>?_) (fun h=>?_)<;>(try simp [etas,elDef,-List.getD_eq_getElem?_getD] at h)<;>conv=>whnf)|(refine Obl.mk (by first|omega|rfl|exact inK_byte _|(simp only [inK,Int.toNat_natCast,etas,elDef,o80,m80]<;>first|omega|grind)|grind [inK,o80,m80]) ?_<;>conv=>whnf)|(refine OblG.mk (by ((conv=>whnf);(repeat (first|(refine Bx.mk ?_)|(intro h;(try simp [etas,elDef,-List.getD_eq_getElem?_getD] at h);conv=>whnf)));(first|omega|rfl|exact inK_byte _|(simp only [inK,Int.toNat_natCast,etas,elDef,o80,m80]<;>first|omega|grind)|grind [inK,o80,m80]))) ?_<;>conv=>whnf)|(refine Gd.mk (fun h=>?_)<;>(try simp [etas,elDef,-List.getD_eq_getElem?_getD] at h)<;>conv=>whnf)|(refine And.intro ?_ ?_<;>conv=>whnf)|exact True.intro|(intro;conv=>whnf)
  · exact leafI hK (placeM_at (by omega) (hitM_iff.2 (h.imp (fun h => ⟨h.1, of_decide_eq_true h.2⟩) id)) hj)
  · have hi : hitM n b i = false := hitM_no ⟨fun e => of_decide_eq_false (h.1 e), h.2⟩
    have hj' : ∀ j, j < i + 1 → hitM n b j = false := fun j h => (Nat.lt_or_eq_of_le (Nat.le_of_lt_succ h)).elim (hj j) (fun e => e ▸ hi)
    exact ⟨i + 1, [], [], ⟨by omega, by grind⟩, by omega, by iterate 2 ((all_goals (conv=>whnf));(repeat' (first|exact trivial|rfl|(refine nilEq ?_;first|rfl|(simp only [*];done)|(simp [*];done)|grind)|apply And.intro|((first|refine intEq ?_|refine boolEq ?_|refine strEq ?_|refine psEq ?_|refine nilEq ?_|refine arrEq ?_);(try simp only [Int.toNat_natCast,etas,elDef]);exact hj'))));(all_goals ((try simp only [Int.toNat_natCast,etas,elDef]);exact hj')), (by exact sgOk_of (by rfl))⟩
  · exact leafI hK (placeM_none (by grind))
theorem s72 : (CtrOK Tryz.prog 72 (.pure F72) ∧ Callable Tryz.prog 72) := by
  refine pure_ok (E := E72) (mkE_cons s80 (mkE_nil tab_ok)) mix (O := O72) (F := F72) Tryz.func72 rfl (by rfl) (by kernel_rfl) (fun args o v h => ?_) (fun args o v h => ?_) (fun args o v h hbd hp K hK => ?_)
  · unfold F72 at h; split at h <;> cases h; first | trivial | (simp [v72, Scalar, Scalar2, Scalar1, stC, ndC, itC, chC, nwC])
  · unfold F72 at h; split at h <;> cases h; exact Nat.le_of_ble_eq_true rfl
  · unfold F72 at h; split at h
    case h_2 => cases h
    cases h
    exact a72 ⟨_, _, _, _, _⟩ _ (by exact hbd) (hp _ rfl) K hK
end Go.Rs

