import Derived.Test.YtmkgadogaefkaaaDoorCU
import Derived.Test.YtmkgadogaefkaaaDoorCQ
set_option linter.all false
set_option linter.unusedSimpArgs false
set_option linter.unusedVariables false
namespace Go.Rs
open Go.Proofs
set_option maxRecDepth 100000
noncomputable def c6 (n : Nd) (p : List Bs) (x : Nd) (K : AV → List AV → Prop) : Prop :=
    K (optN (addNodeM n p x)) []
noncomputable def C6 : List AV → (AV → List AV → Prop) → Prop
  | [.st [.int .i64 n_0, .int .i64 n_1, .str n_2, .ps .str n_3, .ps .node n_4], .ps .str p, .st [.int .i64 x_0, .int .i64 x_1, .str x_2, .ps .str x_3, .ps .node x_4]], K => c6 ⟨n_0, n_1, n_2, n_3, n_4⟩ p ⟨x_0, x_1, x_2, x_3, x_4⟩ K
  | _, _ => False
noncomputable def E6 : Ctx := mkE tab [(16, .pure F16), (17, .pure F17), (18, .gen .ps C18), (19, .gen .ps C19)]
noncomputable def O6 : Nat → List DI := ordL []
theorem a6 (n : Nd) (p : List Bs) (x : Nd) (hb : BdAs [.st (ndC n), .ps .str p, .st (ndC x)]) (K : AV → List AV → Prop) (h : c6 n p x K) : abody E6 O6 .ps Tryd.f6 (Tryd.f6.body.getD .skip) [.st (ndC n), .ps .str p, .st (ndC x)] K := by
  simp only [BdAs, BdA, BdL, BdC, MX, ndC, shC, itC, stC, opC, chC, nwC, flC, rqC, rsC, enc, List.cons_append, List.nil_append, and_true, true_and] at hb
  unfold c6 at h
  have hK9 := h
  have h1 := fun h => validM_ok (n := n) h
  have h2 := fun h => (validM_ok (n := x) h).sm
  conv => whnf
  repeat' first|(refine Cnd.mk (fun h=>?_) (fun h=>?_)<;>(try simp [etas,elDef,-List.getD_eq_getElem?_getD] at h)<;>conv=>whnf)|(refine Obl.mk (by first|omega|rfl|exact inK_byte _|(simp only [inK,Int.toNat_natCast,etas,elDef]<;>first|omega|grind)|grind [inK]) ?_<;>conv=>whnf)|(refine OblG.mk (by ((conv=>whnf);(repeat (first|(refine Bx.mk ?_)|(intro h;(try simp [etas,elDef,-List.getD_eq_getElem?_getD] at h);conv=>whnf)));(first|omega|rfl|exact inK_byte _|(simp only [inK,Int.toNat_natCast,etas,elDef]<;>first|omega|grind)|grind [inK]))) ?_<;>conv=>whnf)|(refine Gd.mk (fun h=>?_)<;>(try simp [etas,elDef,-List.getD_eq_getElem?_getD] at h)<;>conv=>whnf)|(refine And.intro ?_ ?_<;>conv=>whnf)|exact True.intro|(intro;conv=>whnf)
  · have e : addNodeM n p x = none := by unfold addNodeM; rw [if_neg (by grind)]
    exact leafV hK9 (by rw [e]; rfl)
  · have e : addNodeM n p x = if (addAtM n p x).isSome && validM ((addAtM n p x).getD default) then some ((addAtM n p x).getD default) else none := by
      unfold addNodeM checkedM
      rw [if_pos (by grind)]
      cases addAtM n p x <;> simp
    refine leafV hK9 ?_
    rw [e]
    simp only [optN, nd_eta]; rfl
theorem s6 : (CtrOK Tryd.prog 6 (.gen .ps C6) ∧ Callable Tryd.prog 6) := by
  refine gen_ok (E := E6) (mkE_cons s16 (mkE_cons s17 (mkE_cons s18 (mkE_cons s19 (mkE_nil tab_ok))))) mix (O := O6) (C := C6) (own := .ps) Tryd.func6 rfl (by rfl) (by kernel_rfl) (fun args K h hbd => ?_)
  unfold C6 at h; split at h
  case h_2 => exact h.elim
  exact ⟨Nat.le_of_ble_eq_true rfl, a6 ⟨_, _, _, _, _⟩ _ ⟨_, _, _, _, _⟩ (by exact hbd) _ h⟩
end Go.Rs

