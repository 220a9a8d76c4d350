import Derived.Test.YtkalanmdpnapbaaDoorCL
import Derived.Test.YtkalanmdpnapbaaDoorCI
import Derived.Test.YtkalanmdpnapbaaDoorMB
set_option linter.all false
namespace Go.Rs
open Go.Proofs
set_option maxRecDepth 100000
set_option linter.unusedVariables false
set_option linter.unusedSimpArgs false
noncomputable def c17 (s : Sto) (b : Bs) (K : AV → List AV → Prop) : Prop :=
    K (optT (getM s b)) []
noncomputable def C17 : List AV → (AV → List AV → Prop) → Prop
  | [.st [.ps .item s_0, .int .i64 s_1], .str b], K => c17 ⟨s_0, s_1⟩ b K
  | _, _ => False
noncomputable def E17 : Ctx := mkE tab [(26, .pure F26), (45, .pure F45), (46, .gen .ps C46)]
noncomputable def O17 : Nat → List DI := ordL []
theorem a17 (s : Sto) (b : Bs) (hb : BdAs [.st (stC s), .str b]) (K : AV → List AV → Prop) (h : c17 s b K) : abody E17 O17 .ps Tryd.f17 (Tryd.f17.body.getD .skip) [.st (stC s), .str b] K := by
  simp only [BdAs, BdA, BdL, BdC, MX, ndC, shC, itC, stC, opC, chC, nwC, flC, rqC, rsC, enc, List.cons_append, List.nil_append, and_true, true_and] at hb
  unfold c17 at h
  have hK := h
  have h9 : storeM s = true → smS s ∧ sortedI s.items := fun h => ⟨storeM_sm h, storeM_sorted h⟩
  have h8 : storeM s = true → 0 ≤ s.clock ∧ s.clock ≤ 999 ∧ s.items.length ≤ 10 := storeM_clock
  have hfl : foundI s.items b = true → lbI s.items b < s.items.length := fun h => by simp only [foundI, Bool.and_eq_true, decide_eq_true_eq] at h; exact h.1
  have h7 := fun h : storeM s = true => lookI_found (b := b) (storeM_asc h)
  have h6 := fun (h : storeM s = true) (hf : foundI s.items b = true) => (storeM_sm h).item (hfl hf)
  conv => whnf
  repeat' first
    | (refine Cnd.mk (fun h => ?_) (fun h => ?_) <;> (try simp [etas, elDef, -List.getD_eq_getElem?_getD] at h) <;> conv => whnf)
    | (refine Obl.mk (by first | omega | rfl | exact inK_byte _ | (simp only [inK, Int.toNat_natCast, etas, elDef, o45] <;> first | omega | grind) | grind [inK, o45]) ?_ <;> conv => whnf)
    | (refine OblG.mk (by conv => whnf
                          repeat (first | (refine Bx.mk ?_) | (intro h; (try simp [etas, elDef, -List.getD_eq_getElem?_getD] at h); conv => whnf))
                          first | omega | rfl | exact inK_byte _ | (simp only [inK, Int.toNat_natCast, etas, elDef, o45] <;> first | omega | grind) | grind [inK, o45]) ?_ <;> conv => whnf)
    | (refine Gd.mk (fun h => ?_) <;> (try simp [etas, elDef, -List.getD_eq_getElem?_getD] at h) <;> conv => whnf)
    | (refine And.intro ?_ ?_ <;> conv => whnf)
    | exact True.intro
    | (intro; conv => whnf)
  · exact leafV hK (by simp only [getM, h]; rfl)
  · have e : getM s b = none := by grind [getM]
    exact leafV hK (by rw [e]; rfl)
  · have e : getM s b = some (s.items.getD (lbI s.items b) default) := by grind [getM]
    exact leafV hK (by rw [e]; rfl)
theorem s17 : (CtrOK Tryd.prog 17 (.gen .ps C17) ∧ Callable Tryd.prog 17) := by
  refine gen_ok (E := E17) (mkE_cons s26 (mkE_cons s45 (mkE_cons s46 (mkE_nil tab_ok)))) mix (O := O17) (C := C17) (own := .ps) Tryd.func17 rfl (by rfl) (by kernel_rfl) (fun args K h hbd => ?_)
  unfold C17 at h; split at h
  case h_2 => exact h.elim
  exact ⟨Nat.le_of_ble_eq_true rfl, a17 ⟨_, _⟩ _ (by exact hbd) _ h⟩
end Go.Rs

