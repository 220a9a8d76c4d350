import Derived.Test.YtmgheiagnleeiaaDoorCG
import Derived.Test.YtmgheiagnleeiaaDoorMB
import Derived.Test.YtmgheiagnleeiaaDoorDelB
import Derived.Test.YtmgheiagnleeiaaDoorCD
set_option linter.all false
set_option linter.unusedSimpArgs false
set_option linter.unusedVariables false
namespace Go.Rs
open Go.Proofs
set_option maxRecDepth 100000
noncomputable def v63 (n : Int) : AV := .str (decM n.toNat)
noncomputable def o63 (n : Int) : Prop := 0 ≤ n ∧ n ≤ 1000000000000
noncomputable def m63 (n : Int) : Nat := n.toNat
noncomputable def F63 : List AV → QR
  | [.int .i64 n] => some (some (o63 n), v63 n)
  | _ => none
noncomputable def Fk63 (k : Nat) : List AV → QR
  | [.int .i64 n] => some (some (m63 n < k ∧ o63 n), v63 n)
  | _ => none
noncomputable def E63 (k : Nat) : Ctx := mkE tab [(63, .pure (Fk63 k))]
noncomputable def O63 : Nat → List DI := ordL [(7, [.q 0, .q 1, .q 2, .q 3, .q 4, .q 5, .q 6, .l 7 [2], .q 8, .q 9, .q 10])]
theorem a63 (k : Nat) (n : Int) (hm : m63 n < k + 1) (hb : BdAs [.int .i64 n]) (ho : o63 n) (K : AV → List AV → Prop) (hK : K (v63 n) []) : abody (E63 k) O63 .ps Tryd.f63 (Tryd.f63.body.getD .skip) [.int .i64 n] K := by
  simp only [BdAs, BdA, BdL, BdC, MX, ndC, shC, itC, stC, opC, chC, nwC, flC, rqC, rsC, enc, List.cons_append, List.nil_append, and_true, true_and] at hb
  unfold o63 at ho
  unfold v63 at hK
  unfold m63 at hm
  have h1 := fun h => decM_lt (n := n.toNat) h
  have h2 := fun h => decM_ge (n := n.toNat) h
  have h3 := decM_len (n / 10).toNat
  conv => whnf
  repeat' first|((first|refine Cnd.mk (fun h=>?_) (fun h=>?_)|refine Gd.mk (fun h=>?_))<;>(try simp [etas,elDef,-List.getD_eq_getElem?_getD] at h)<;>conv=>whnf)|((first|refine Obl.mk (by first|omega|rfl|exact inK_byte _|(simp only [inK,Int.toNat_natCast,etas,elDef,m63,o63,m63]<;>first|omega|grind)|grind [inK,m63,o63,m63]) ?_|refine OblG.mk (by ((conv=>whnf);(repeat (first|refine Bx.mk ?_|(intro h;(try simp [etas,elDef,-List.getD_eq_getElem?_getD] at h);conv=>whnf)));(first|omega|rfl|exact inK_byte _|(simp only [inK,Int.toNat_natCast,etas,elDef,m63,o63,m63]<;>first|omega|grind)|grind [inK,m63,o63,m63]))) ?_|refine And.intro ?_ ?_)<;>conv=>whnf)|exact True.intro|(intro;conv=>whnf)
  · exfalso; omega
  · exfalso; omega
  · exact leafS hK (by rw [h1 (by omega)]; simp only [List.map_cons, List.map_nil]; rw [show (48 + n).toNat = 48 + n.toNat by omega])
  · exact leafS hK (by rw [h2 (by omega)]; simp only [List.map_cons, List.map_nil]; rw [show (48 + n % 10).toNat = 48 + n.toNat % 10 by omega, show (n / 10).toNat = n.toNat / 10 by omega])
theorem r63 : ∀ k, (CtrOK Tryd.prog 63 (.pure (Fk63 k)) ∧ Callable Tryd.prog 63) := by
  intro k
  induction k with
  | zero =>
    exact ⟨⟨fun args o v h => by unfold Fk63 at h; split at h <;> cases h; first | trivial | (simp [v63, Scalar, Scalar2, Scalar1, stC, ndC, itC, chC, nwC]), fun args K h => by
        unfold pureC Fk63 at h; split at h
        · rename_i h1; split at h1 <;> cases h1; exact absurd (h.1 _ rfl).1 (Nat.not_lt_zero _)
        · exact h.elim⟩, callable Tryd.func63 rfl (by rfl)⟩
  | succ k ih =>
    refine pure_ok (E := E63 k) (mkE_cons ih (mkE_nil tab_ok)) mix (O := O63) (F := (Fk63 (k + 1))) Tryd.func63 rfl (by rfl) (by kernel_rfl) (fun args o v h => ?_) (fun args o v h => ?_) (fun args o v h hbd hp K hK => ?_)
    · unfold Fk63 at h; split at h <;> cases h; first | trivial | (simp [v63, Scalar, Scalar2, Scalar1, stC, ndC, itC, chC, nwC])
    · unfold Fk63 at h; split at h <;> cases h; exact Nat.le_of_ble_eq_true rfl
    · unfold Fk63 at h; split at h
      case h_2 => cases h
      cases h
      exact a63 k _ (hp _ rfl).1 (by exact hbd) (hp _ rfl).2 K hK
theorem s63 : (CtrOK Tryd.prog 63 (.pure F63) ∧ Callable Tryd.prog 63) := by
  refine ⟨⟨fun args o v h => ?_, fun args K h => ?_⟩, (r63 0).2⟩
  · unfold F63 at h; split at h <;> cases h; first | trivial | (simp [v63, Scalar, Scalar2, Scalar1, stC, ndC, itC, chC, nwC])
  · unfold pureC F63 at h; split at h
    · rename_i h1; split at h1 <;> cases h1
      exact (r63 (m63 _ + 1)).1.2 _ K ⟨fun p hp => by cases hp; exact ⟨Nat.lt_succ_self _, (h.1 _ rfl)⟩, h.2⟩
    · exact h.elim
end Go.Rs

