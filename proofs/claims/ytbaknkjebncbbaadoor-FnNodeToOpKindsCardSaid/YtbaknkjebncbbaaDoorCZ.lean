import Derived.Test.YtbaknkjebncbbaaDoorCU
import Derived.Test.YtbaknkjebncbbaaDoorCR
import Derived.Test.YtbaknkjebncbbaaDoorCP
import Derived.Test.YtbaknkjebncbbaaDoorMD
set_option linter.all false
namespace Go.Rs
open Go.Proofs
set_option maxRecDepth 100000
set_option linter.unusedVariables false
set_option linter.unusedSimpArgs false
theorem leafV2 {K : AV → List AV → Prop} {a b : AV} {r s : List AV} (hK : K a r) (h : a = b ∧ r = s) : K b s := by obtain ⟨h1, h2⟩ := h; rw [← h1, ← h2]; exact hK
noncomputable def c47 (l : List Bs) (K : AV → List AV → Prop) : Prop :=
    Obl (l.length ≤ 1000000) (K (.own .str l) [])
noncomputable def C47 : List AV → (AV → List AV → Prop) → Prop
  | [.ps .str l], K => c47 l K
  | _, _ => False
noncomputable def E47 : Ctx := mkE tab []
noncomputable def O47 : Nat → List DI := ordL []
theorem a47 (l : List Bs) (hb : BdAs [.ps .str l]) (K : AV → List AV → Prop) (h : c47 l K) : abody E47 O47 .ow Tryd.f47 (Tryd.f47.body.getD .skip) [.ps .str l] K := by
  simp only [BdAs, BdA, BdL, BdC, MX, ndC, shC, itC, stC, opC, chC, nwC, flC, rqC, rsC, enc, List.cons_append, List.nil_append, and_true, true_and] at hb
  unfold c47 at h
  obtain ⟨hl, hK⟩ := h
  conv => whnf
  repeat' first
    | (refine Cnd.mk (fun h => ?_) (fun h => ?_) <;> (try simp [etas, elDef, -List.getD_eq_getElem?_getD] at h) <;> conv => whnf)
    | (refine Obl.mk (by first | omega | rfl | exact inK_byte _ | (simp only [inK, Int.toNat_natCast, etas, elDef] <;> first | omega | grind) | grind [inK]) ?_ <;> conv => whnf)
    | (refine OblG.mk (by conv => whnf
                          repeat (first | (refine Bx.mk ?_) | (intro h; (try simp [etas, elDef, -List.getD_eq_getElem?_getD] at h); conv => whnf))
                          first | omega | rfl | exact inK_byte _ | (simp only [inK, Int.toNat_natCast, etas, elDef] <;> first | omega | grind) | grind [inK]) ?_ <;> conv => whnf)
    | (refine Gd.mk (fun h => ?_) <;> (try simp [etas, elDef, -List.getD_eq_getElem?_getD] at h) <;> conv => whnf)
    | (refine And.intro ?_ ?_ <;> conv => whnf)
    | exact True.intro
    | (intro; conv => whnf)
  · rw [h] at hK; exact hK
  · exact leafV hK (by simp)
theorem s47 : (CtrOK Tryd.prog 47 (.gen .ow C47) ∧ Callable Tryd.prog 47) := by
  refine gen_ok (E := E47) (mkE_nil tab_ok) mix (O := O47) (C := C47) (own := .ow) Tryd.func47 rfl (by rfl) (by kernel_rfl) (fun args K h hbd => ?_)
  unfold C47 at h; split at h
  case h_2 => exact h.elim
  exact ⟨Nat.le_of_ble_eq_true rfl, a47 _ (by exact hbd) _ h⟩
end Go.Rs

