import Derived.Test.YtfaaemggaliojaaDoorCI
import Derived.Test.YtfaaemggaliojaaDoorMB
import Derived.Test.YtfaaemggaliojaaDoorCD
set_option linter.all false
set_option linter.unusedSimpArgs false
set_option linter.unusedVariables false
namespace Go.Rs
open Go.Proofs
set_option maxRecDepth 100000
noncomputable def v79 (n : Int) : AV := .str (decM n.toNat)
noncomputable def o79 (n : Int) : Prop := 0 ≤ n ∧ n ≤ 1000000000000
noncomputable def m79 (n : Int) : Nat := n.toNat
noncomputable def F79 : List AV → QR
  | [.int .i64 n] => some (some (o79 n), v79 n)
  | _ => none
noncomputable def Fk79 (k : Nat) : List AV → QR
  | [.int .i64 n] => some (some (m79 n < k ∧ o79 n), v79 n)
  | _ => none
noncomputable def E79 (k : Nat) : Ctx := mkE tab [(79, .pure (Fk79 k))]
noncomputable def O79 : Nat → List DI := ordL [(7, [.q 0, .q 1, .q 2, .q 3, .q 4, .q 5, .q 6, .l 7 [2], .q 8, .q 9, .q 10])]
theorem a79 (k : Nat) (n : Int) (hm : m79 n < k + 1) (hb : BdAs [.int .i64 n]) (ho : o79 n) (K : AV → List AV → Prop) (hK : K (v79 n) []) : abody (E79 k) O79 .ps Tryd.f79 (Tryd.f79.body.getD .skip) [.int .i64 n] K := by
  simp only [BdAs, BdA, BdL, BdC, MX, ndC, shC, itC, stC, opC, chC, nwC, flC, rqC, rsC, enc, List.cons_append, List.nil_append, and_true, true_and] at hb
  unfold o79 at ho
  unfold v79 at hK
  unfold m79 at hm
  have h1 := fun h => decM_lt (n := n.toNat) h
  have h2 := fun h => decM_ge (n := n.toNat) h
  have h3 := decM_len (n / 10).toNat
  conv => whnf
  repeat' first|((first|refine Cnd.mk (fun h=>?_) (fun h=>?_)|refine Gd.mk (fun h=>?_))<;>(try simp [etas,elDef,-List.getD_eq_getElem?_getD] at h)<;>conv=>whnf)|((first|refine Obl.mk (by first|omega|rfl|exact inK_byte _|(simp only [inK,Int.toNat_natCast,etas,elDef,m79,o79,m79]<;>first|omega|grind)|grind [inK,m79,o79,m79]) ?_|refine OblG.mk (by ((conv=>whnf);(repeat (first|refine Bx.mk ?_|(intro h;(try simp [etas,elDef,-List.getD_eq_getElem?_getD] at h);conv=>whnf)));(first|omega|rfl|exact inK_byte _|(simp only [inK,Int.toNat_natCast,etas,elDef,m79,o79,m79]<;>first|omega|grind)|grind [inK,m79,o79,m79]))) ?_|refine And.intro ?_ ?_)<;>conv=>whnf)|exact True.intro|(intro;conv=>whnf)
  · exfalso; omega
  · exfalso; omega
  · exact leafS hK (by rw [h1 (by omega)]; simp only [List.map_cons, List.map_nil]; rw [show (48 + n).toNat = 48 + n.toNat by omega])
  · exact leafS hK (by rw [h2 (by omega)]; simp only [List.map_cons, List.map_nil]; rw [show (48 + n % 10).toNat = 48 + n.toNat % 10 by omega, show (n / 10).toNat = n.toNat / 10 by omega])
theorem r79 : ∀ k, (CtrOK Tryd.prog 79 (.pure (Fk79 k)) ∧ Callable Tryd.prog 79) := by
  intro k
  induction k with
  | zero =>
    exact ⟨⟨fun args o v h => by unfold Fk79 at h; split at h <;> cases h; first | trivial | (simp [v79, Scalar, Scalar2, Scalar1, stC, ndC, itC, chC, nwC]), fun args K h => by
        unfold pureC Fk79 at h; split at h
        · rename_i h1; split at h1 <;> cases h1; exact absurd (h.1 _ rfl).1 (Nat.not_lt_zero _)
        · exact h.elim⟩, callable Tryd.func79 rfl (by rfl)⟩
  | succ k ih =>
    refine pure_ok (E := E79 k) (mkE_cons ih (mkE_nil tab_ok)) mix (O := O79) (F := (Fk79 (k + 1))) Tryd.func79 rfl (by rfl) (by kernel_rfl) (fun args o v h => ?_) (fun args o v h => ?_) (fun args o v h hbd hp K hK => ?_)
    · unfold Fk79 at h; split at h <;> cases h; first | trivial | (simp [v79, Scalar, Scalar2, Scalar1, stC, ndC, itC, chC, nwC])
    · unfold Fk79 at h; split at h <;> cases h; exact Nat.le_of_ble_eq_true rfl
    · unfold Fk79 at h; split at h
      case h_2 => cases h
      cases h
      exact a79 k _ (hp _ rfl).1 (by exact hbd) (hp _ rfl).2 K hK
theorem s79 : (CtrOK Tryd.prog 79 (.pure F79) ∧ Callable Tryd.prog 79) := by
  refine ⟨⟨fun args o v h => ?_, fun args K h => ?_⟩, (r79 0).2⟩
  · unfold F79 at h; split at h <;> cases h; first | trivial | (simp [v79, Scalar, Scalar2, Scalar1, stC, ndC, itC, chC, nwC])
  · unfold pureC F79 at h; split at h
    · rename_i h1; split at h1 <;> cases h1
      exact (r79 (m79 _ + 1)).1.2 _ K ⟨fun p hp => by cases hp; exact ⟨Nat.lt_succ_self _, (h.1 _ rfl)⟩, h.2⟩
    · exact h.elim
noncomputable def v86 (n : Nd) (b : Bs) : AV := .int .i64 (placeM n b)
noncomputable def o86 (n : Nd) (b : Bs) : Prop := n.kids.length ≤ 1000000000 ∧ (n.kind = 4 → n.names.length = n.kids.length)
noncomputable def F86 : List AV → QR
  | [.st [.int .i64 n_0, .int .i64 n_1, .str n_2, .ps .str n_3, .ps .node n_4], .str b] => some (some (o86 ⟨n_0, n_1, n_2, n_3, n_4⟩ b), v86 ⟨n_0, n_1, n_2, n_3, n_4⟩ b)
  | _ => none
noncomputable def E86 : Ctx := mkE tab [(79, .pure F79)]
noncomputable def O86 : Nat → List DI := ordL []
theorem a86 (n : Nd) (b : Bs) (hb : BdAs [.st (ndC n), .str b]) (ho : o86 n b) (K : AV → List AV → Prop) (hK : K (v86 n b) []) : abody E86 O86 .ps Tryd.f86 (Tryd.f86.body.getD .skip) [.st (ndC n), .str b] K := by
  simp only [BdAs, BdA, BdL, BdC, MX, ndC, shC, itC, stC, opC, chC, nwC, flC, rqC, rsC, enc, List.cons_append, List.nil_append, and_true, true_and] at hb
  unfold o86 at ho
  unfold v86 at hK
  obtain ⟨ho1, ho2⟩ := ho
  conv => whnf
  refine aloop_intro Nat (fun k => k ≤ n.kids.length ∧ ∀ j, j < k → hitM n b j = false) (fun k => n.kids.length - k) (fun k => [(5, .int .i64 k)]) (fun k => []) [2] 0 [] [] ?_ ?_ (by exact sgOk_of (by rfl)) ?_
  · first | (simp; done) | (simp; assumption)
  · iterate 2 ((all_goals (conv=>whnf));(repeat' (first|exact trivial|rfl|(refine nilEq ?_;first|rfl|(simp only [*];done)|(simp [*];done)|grind)|apply And.intro|((first|apply intEq|apply boolEq|apply strEq|apply psEq|apply nilEq|apply arrEq);(try simp only [Int.toNat_natCast,etas,elDef]);first | done | omega | grind | (simp only [*]; done) | (simp [*]; done)))));(all_goals ((try simp only [Int.toNat_natCast,etas,elDef]);first | done | omega | grind | (simp only [*]; done) | (simp [*]; done)))
  rintro i ⟨hi, hj⟩
  conv => whnf
  repeat' first|((first|refine Cnd.mk (fun h=>?_) (fun h=>?_)|refine Gd.mk (fun h=>?_))<;>(try simp [etas,elDef,-List.getD_eq_getElem?_getD] at h)<;>conv=>whnf)|((first|refine Obl.mk (by first|omega|rfl|exact inK_byte _|(simp only [inK,Int.toNat_natCast,etas,elDef,o79,m79]<;>first|omega|grind)|grind [inK,o79,m79]) ?_|refine OblG.mk (by ((conv=>whnf);(repeat (first|refine Bx.mk ?_|(intro h;(try simp [etas,elDef,-List.getD_eq_getElem?_getD] at h);conv=>whnf)));(first|omega|rfl|exact inK_byte _|(simp only [inK,Int.toNat_natCast,etas,elDef,o79,m79]<;>first|omega|grind)|grind [inK,o79,m79]))) ?_|refine And.intro ?_ ?_)<;>conv=>whnf)|exact True.intro|(intro;conv=>whnf)
  · exact leafI hK (placeM_at (by omega) (hitM_iff.2 (h.imp (fun h => ⟨h.1, of_decide_eq_true h.2⟩) id)) hj)
  · have hi : hitM n b i = false := hitM_no ⟨fun e => of_decide_eq_false (h.1 e), h.2⟩
    have hj' : ∀ j, j < i + 1 → hitM n b j = false := fun j h => (Nat.lt_or_eq_of_le (Nat.le_of_lt_succ h)).elim (hj j) (fun e => e ▸ hi)
    exact ⟨i + 1, [], [], ⟨by omega, by grind⟩, by omega, by iterate 2 ((all_goals (conv=>whnf));(repeat' (first|exact trivial|rfl|(refine nilEq ?_;first|rfl|(simp only [*];done)|(simp [*];done)|grind)|apply And.intro|((first|apply intEq|apply boolEq|apply strEq|apply psEq|apply nilEq|apply arrEq);(try simp only [Int.toNat_natCast,etas,elDef]);exact hj'))));(all_goals ((try simp only [Int.toNat_natCast,etas,elDef]);exact hj')), (by exact sgOk_of (by rfl))⟩
  · exact leafI hK (placeM_none (by grind))
theorem s86 : (CtrOK Tryd.prog 86 (.pure F86) ∧ Callable Tryd.prog 86) := by
  refine pure_ok (E := E86) (mkE_cons s79 (mkE_nil tab_ok)) mix (O := O86) (F := F86) Tryd.func86 rfl (by rfl) (by kernel_rfl) (fun args o v h => ?_) (fun args o v h => ?_) (fun args o v h hbd hp K hK => ?_)
  · unfold F86 at h; split at h <;> cases h; first | trivial | (simp [v86, Scalar, Scalar2, Scalar1, stC, ndC, itC, chC, nwC])
  · unfold F86 at h; split at h <;> cases h; exact Nat.le_of_ble_eq_true rfl
  · unfold F86 at h; split at h
    case h_2 => cases h
    cases h
    exact a86 ⟨_, _, _, _, _⟩ _ (by exact hbd) (hp _ rfl) K hK
end Go.Rs

