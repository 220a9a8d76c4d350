import Derived.Test.YtfaaemggaliojaaGreatDoorEV
import Derived.Test.YtfaaemggaliojaaGreatDoorMH
set_option linter.all false
set_option linter.unusedSimpArgs false
set_option linter.unusedVariables false
namespace Go.Rs
open Go.Proofs
set_option maxRecDepth 100000
noncomputable def c3 (s : Sto) (l : List Flt) (K : AV → List AV → Prop) : Prop :=
    Obl ((∀ x ∈ s.items, bdN x.node) ∧ ∀ x ∈ l, bdF x) (K (.bool true) [])
noncomputable def C3 : List AV → (AV → List AV → Prop) → Prop
  | [.st [.ps .item s_0, .int .i64 s_1], .ps .flt l], K => c3 ⟨s_0, s_1⟩ l K
  | _, _ => False
noncomputable def E3 : Ctx := mkE tab [(4, .gen .ps C4), (5, .gen .ps C5), (6, .gen .ps C6), (7, .gen .ow C7r), (8, .gen .ow C8r), (9, .gen .ln C9r), (10, .pure F10), (11, .pure F11), (12, .gen .ln C12), (13, .gen .ln C13), (14, .pure F14)]
noncomputable def O3 : Nat → List DI := ordL [(14, [.q 0, .q 1, .l 2 [0], .q 3, .q 4])]
theorem a3 (s : Sto) (l : List Flt) (hb : BdAs [.st (stC s), .ps .flt l]) (K : AV → List AV → Prop) (h : c3 s l K) : abody E3 O3 .ps Tryz.f3 (Tryz.f3.body.getD .skip) [.st (stC s), .ps .flt l] K := by
  simp only [BdAs, BdA, BdL, BdC, MX, ndC, shC, itC, stC, opC, chC, nwC, flC, rqC, rsC, enc, List.cons_append, List.nil_append, and_true, true_and] at hb
  unfold c3 at h
  obtain ⟨⟨h1, h2⟩, hK⟩ := h
  have hl := sel_tot s l
  have e1 := heIs_mk (selM s l).items 1 (by omega)
  have e2 := totIs_mk (selM s l).items 1
  conv => whnf
  repeat' first|(refine Cnd.mk (fun h=>?_) (fun h=>?_)<;>(try simp [etas,elDef,-List.getD_eq_getElem?_getD] at h)<;>conv=>whnf)|(refine Obl.mk (by first|omega|rfl|exact inK_byte _|(simp only [inK,Int.toNat_natCast,etas,elDef,o14]<;>first|omega|grind)|grind [inK,o14]) ?_<;>conv=>whnf)|(refine OblG.mk (by ((conv=>whnf);(repeat (first|(refine Bx.mk ?_)|(intro h;(try simp [etas,elDef,-List.getD_eq_getElem?_getD] at h);conv=>whnf)));(first|omega|rfl|exact inK_byte _|(simp only [inK,Int.toNat_natCast,etas,elDef,o14]<;>first|omega|grind)|grind [inK,o14]))) ?_<;>conv=>whnf)|(refine Gd.mk (fun h=>?_)<;>(try simp [etas,elDef,-List.getD_eq_getElem?_getD] at h)<;>conv=>whnf)|(refine And.intro ?_ ?_<;>conv=>whnf)|exact True.intro|(intro;conv=>whnf)
  all_goals first
    | exact hK
    | (exfalso; (first | omega | exact absurd rfl (eqD_no.1 h) | exact absurd rfl h | (rcases h with h1 | h1 <;> first | omega | exact absurd rfl (eqD_no.1 h1) | exact absurd rfl h1 | (rcases h1 with h2 | h2 <;> first | omega | exact absurd rfl (eqD_no.1 h2) | exact absurd rfl h2))))
theorem s3 : (CtrOK Tryz.prog 3 (.gen .ps C3) ∧ Callable Tryz.prog 3) := by
  refine gen_ok (E := E3) (mkE_cons s4 (mkE_cons s5 (mkE_cons s6 (mkE_cons s7r (mkE_cons s8r (mkE_cons s9r (mkE_cons s10 (mkE_cons s11 (mkE_cons s12 (mkE_cons s13 (mkE_cons s14 (mkE_nil tab_ok)))))))))))) mix (O := O3) (C := C3) (own := .ps) Tryz.func3 rfl (by rfl) (by kernel_rfl) (fun args K h hbd => ?_)
  unfold C3 at h; split at h
  case h_2 => exact h.elim
  exact ⟨Nat.le_of_ble_eq_true rfl, a3 ⟨_, _⟩ _ (by exact hbd) _ h⟩
end Go.Rs

