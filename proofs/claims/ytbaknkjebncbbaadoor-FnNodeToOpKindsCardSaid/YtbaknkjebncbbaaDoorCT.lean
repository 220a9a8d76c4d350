import Derived.Test.YtbaknkjebncbbaaDoorCQ
import Derived.Test.YtbaknkjebncbbaaDoorMC
set_option linter.all false
namespace Go.Rs
open Go.Proofs
set_option maxRecDepth 100000
set_option linter.unusedVariables false
set_option linter.unusedSimpArgs false
/-- A condition that the walk leaves to the writer. -/
structure Gx (P Q : Prop) : Prop where
  o : P
  k : Q
noncomputable def c39 (n : Nd) (b : Bool) (K : AV → List AV → Prop) : Prop :=
    K (optN (if b && validM n then some n else none)) []
noncomputable def C39 : List AV → (AV → List AV → Prop) → Prop
  | [.st [.int .i64 n_0, .int .i64 n_1, .str n_2, .ps .str n_3, .ps .node n_4], .bool b], K => c39 ⟨n_0, n_1, n_2, n_3, n_4⟩ b K
  | _, _ => False
noncomputable def E39 : Ctx := mkE tab [(23, .pure F23)]
noncomputable def O39 : Nat → List DI := ordL []
theorem a39 (n : Nd) (b : Bool) (hb : BdAs [.st (ndC n), .bool b]) (K : AV → List AV → Prop) (h : c39 n b K) : abody E39 O39 .ps Tryd.f39 (Tryd.f39.body.getD .skip) [.st (ndC n), .bool b] K := by
  simp only [BdAs, BdA, BdL, BdC, MX, ndC, shC, itC, stC, opC, chC, nwC, flC, rqC, rsC, enc, List.cons_append, List.nil_append, and_true, true_and] at hb
  unfold c39 at h
  have hK9 := h
  conv => whnf
  repeat' first
    | (refine Cnd.mk (fun h => ?_) (fun h => ?_) <;> (try simp [etas, elDef, -List.getD_eq_getElem?_getD] at h) <;> conv => whnf)
    | (refine Obl.mk (by first | omega | rfl | exact inK_byte _ | (simp only [inK, Int.toNat_natCast, etas, elDef] <;> first | omega | grind) | grind [inK]) ?_ <;> conv => whnf)
    | (refine OblG.mk (by conv => whnf
                          repeat (first | (refine Bx.mk ?_) | (intro h; (try simp [etas, elDef, -List.getD_eq_getElem?_getD] at h); conv => whnf))
                          first | omega | rfl | exact inK_byte _ | (simp only [inK, Int.toNat_natCast, etas, elDef] <;> first | omega | grind) | grind [inK]) ?_ <;> conv => whnf)
    | (refine Gd.mk (fun h => ?_) <;> (try simp [etas, elDef, -List.getD_eq_getElem?_getD] at h) <;> conv => whnf)
    | (refine And.intro ?_ ?_ <;> conv => whnf)
    | exact True.intro
    | (intro; conv => whnf)
  · exact leafV hK9 (by rw [if_neg (by grind)]; rfl)
  · exact leafV hK9 (by rw [if_pos (by grind)]; rfl)
theorem s39 : (CtrOK Tryd.prog 39 (.gen .ps C39) ∧ Callable Tryd.prog 39) := by
  refine gen_ok (E := E39) (mkE_cons s23 (mkE_nil tab_ok)) mix (O := O39) (C := C39) (own := .ps) Tryd.func39 rfl (by rfl) (by kernel_rfl) (fun args K h hbd => ?_)
  unfold C39 at h; split at h
  case h_2 => exact h.elim
  exact ⟨Nat.le_of_ble_eq_true rfl, a39 ⟨_, _, _, _, _⟩ _ (by exact hbd) _ h⟩
end Go.Rs

