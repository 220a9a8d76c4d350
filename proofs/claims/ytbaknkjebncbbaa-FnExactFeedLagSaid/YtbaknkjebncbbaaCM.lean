import Derived.Test.YtbaknkjebncbbaaCI
import Derived.Test.YtbaknkjebncbbaaMB
import Derived.Test.YtbaknkjebncbbaaCE
set_option linter.all false
namespace Go.Rs
open Go.Proofs
set_option maxRecDepth 100000
set_option linter.unusedVariables false
set_option linter.unusedSimpArgs false
noncomputable def v9 (s : Sto) (l : List Chg) : AV := .int .i64 (lagM s l)
noncomputable def o9 (s : Sto) (l : List Chg) : Prop := True
noncomputable def F9 : List AV → QR
  | [.st [.ps .item s_0, .int .i64 s_1], .ps .chg l] => some (none, v9 ⟨s_0, s_1⟩ l)
  | _ => none
noncomputable def E9 : Ctx := mkE tab [(18, .gen .ps C18), (19, .pure F19)]
noncomputable def O9 : Nat → List DI := ordL []
theorem a9 (s : Sto) (l : List Chg) (hb : BdAs [.st (stC s), .ps .chg l]) (ho : o9 s l) (K : AV → List AV → Prop) (hK : K (v9 s l) []) : abody E9 O9 .ps Try.f9 (Try.f9.body.getD .skip) [.st (stC s), .ps .chg l] K := by
  simp only [BdAs, BdA, BdL, BdC, MX, ndC, shC, itC, stC, opC, chC, nwC, flC, rqC, rsC, enc, List.cons_append, List.nil_append, and_true, true_and] at hb
  unfold v9 at hK
  have h8 : storeM s = true → 0 ≤ s.clock ∧ s.clock ≤ 999 ∧ s.items.length ≤ 10 := storeM_clock
  conv => whnf
  repeat' first
    | (refine Cnd.mk (fun h => ?_) (fun h => ?_) <;> (try simp [etas, elDef, -List.getD_eq_getElem?_getD] at h) <;> conv => whnf)
    | (refine Obl.mk (by first | omega | rfl | exact inK_byte _ | (simp only [inK, Int.toNat_natCast, etas, elDef] <;> first | omega | grind) | grind [inK]) ?_ <;> conv => whnf)
    | (refine OblG.mk (by conv => whnf
                          repeat (first | (refine Bx.mk ?_) | (intro h; (try simp [etas, elDef, -List.getD_eq_getElem?_getD] at h); conv => whnf))
                          first | omega | rfl | exact inK_byte _ | (simp only [inK, Int.toNat_natCast, etas, elDef] <;> first | omega | grind) | grind [inK]) ?_ <;> conv => whnf)
    | (refine Gd.mk (fun h => ?_) <;> (try simp [etas, elDef, -List.getD_eq_getElem?_getD] at h) <;> conv => whnf)
    | (refine And.intro ?_ ?_ <;> conv => whnf)
    | exact True.intro
    | (intro; conv => whnf)
  all_goals exact leafI hK (by grind [lagM])
theorem s9 : (CtrOK Try.prog 9 (.pure F9) ∧ Callable Try.prog 9) := by
  refine pure_ok (E := E9) (mkE_cons s18 (mkE_cons s19 (mkE_nil tab_ok))) mix (O := O9) (F := F9) Try.func9 rfl (by rfl) (by kernel_rfl) (fun args o v h => ?_) (fun args o v h => ?_) (fun args o v h hbd hp K hK => ?_)
  · unfold F9 at h; split at h <;> cases h; first | trivial | (simp [v9, Scalar, Scalar2, Scalar1, stC, ndC, itC, chC, nwC])
  · unfold F9 at h; split at h <;> cases h; exact Nat.le_of_ble_eq_true rfl
  · unfold F9 at h; split at h
    case h_2 => cases h
    cases h
    exact a9 ⟨_, _⟩ _ (by exact hbd) trivial K hK
noncomputable def v6 (s : Sto) (l : List Chg) : AV := .int .i64 (lagM s l)
noncomputable def o6 (s : Sto) (l : List Chg) : Prop := True
noncomputable def F6 : List AV → QR
  | [.st [.ps .item s_0, .int .i64 s_1], .ps .chg l] => some (none, v6 ⟨s_0, s_1⟩ l)
  | _ => none
noncomputable def E6 : Ctx := mkE tab [(14, .pure F14), (15, .gen .ps C15)]
noncomputable def O6 : Nat → List DI := ordL []
theorem a6 (s : Sto) (l : List Chg) (hb : BdAs [.st (stC s), .ps .chg l]) (ho : o6 s l) (K : AV → List AV → Prop) (hK : K (v6 s l) []) : abody E6 O6 .ps Try.f6 (Try.f6.body.getD .skip) [.st (stC s), .ps .chg l] K := by
  simp only [BdAs, BdA, BdL, BdC, MX, ndC, shC, itC, stC, opC, chC, nwC, flC, rqC, rsC, enc, List.cons_append, List.nil_append, and_true, true_and] at hb
  unfold v6 at hK
  have h8 : storeM s = true → 0 ≤ s.clock ∧ s.clock ≤ 999 ∧ s.items.length ≤ 10 := storeM_clock
  conv => whnf
  repeat' first
    | (refine Cnd.mk (fun h => ?_) (fun h => ?_) <;> (try simp [etas, elDef, -List.getD_eq_getElem?_getD] at h) <;> conv => whnf)
    | (refine Obl.mk (by first | omega | rfl | exact inK_byte _ | (simp only [inK, Int.toNat_natCast, etas, elDef] <;> first | omega | grind) | grind [inK]) ?_ <;> conv => whnf)
    | (refine OblG.mk (by conv => whnf
                          repeat (first | (refine Bx.mk ?_) | (intro h; (try simp [etas, elDef, -List.getD_eq_getElem?_getD] at h); conv => whnf))
                          first | omega | rfl | exact inK_byte _ | (simp only [inK, Int.toNat_natCast, etas, elDef] <;> first | omega | grind) | grind [inK]) ?_ <;> conv => whnf)
    | (refine Gd.mk (fun h => ?_) <;> (try simp [etas, elDef, -List.getD_eq_getElem?_getD] at h) <;> conv => whnf)
    | (refine And.intro ?_ ?_ <;> conv => whnf)
    | exact True.intro
    | (intro; conv => whnf)
  all_goals exact leafI hK (by grind [lagM])
theorem s6 : (CtrOK Try.prog 6 (.pure F6) ∧ Callable Try.prog 6) := by
  refine pure_ok (E := E6) (mkE_cons s14 (mkE_cons s15 (mkE_nil tab_ok))) mix (O := O6) (F := F6) Try.func6 rfl (by rfl) (by kernel_rfl) (fun args o v h => ?_) (fun args o v h => ?_) (fun args o v h hbd hp K hK => ?_)
  · unfold F6 at h; split at h <;> cases h; first | trivial | (simp [v6, Scalar, Scalar2, Scalar1, stC, ndC, itC, chC, nwC])
  · unfold F6 at h; split at h <;> cases h; exact Nat.le_of_ble_eq_true rfl
  · unfold F6 at h; split at h
    case h_2 => cases h
    cases h
    exact a6 ⟨_, _⟩ _ (by exact hbd) trivial K hK
end Go.Rs

