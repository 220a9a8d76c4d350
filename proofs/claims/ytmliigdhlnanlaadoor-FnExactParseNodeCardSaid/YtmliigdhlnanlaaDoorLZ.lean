import Derived.Test.YtmliigdhlnanlaaDoorPE
import Derived.Test.YtmliigdhlnanlaaDoorPG
import Derived.Test.YtmliigdhlnanlaaDoorMH
set_option linter.all false
set_option linter.unusedSimpArgs false
set_option linter.unusedVariables false
namespace Go.Rs
open Go.Proofs
set_option maxRecDepth 100000
theorem parse_val {s : Bs} {t : Nd} (h : parseM s = some t) : validM t = true := (parse_some h).1.1
noncomputable def c7 (s : Bs) (K : AV → List AV → Prop) : Prop :=
    K (.bool true) []
noncomputable def C7 : List AV → (AV → List AV → Prop) → Prop
  | [.str s], K => c7 s K
  | _, _ => False
noncomputable def E7 : Ctx := mkE tab [(11, .gen .ln C11r), (14, .gen .ps C14), (20, .pure F20), (21, .gen .ln C21), (22, .pure F22)]
noncomputable def O7 : Nat → List DI := ordL []
theorem a7 (s : Bs) (hb : BdAs [.str s]) (K : AV → List AV → Prop) (h : c7 s K) : abody E7 O7 .ps Tryd.f7 (Tryd.f7.body.getD .skip) [.str s] K := by
  simp only [BdAs, BdA, BdL, BdC, MX, ndC, shC, itC, stC, opC, chC, nwC, flC, rqC, rsC, enc, List.cons_append, List.nil_append, and_true, true_and] at hb
  unfold c7 at h
  have hK := h
  clear h
  have hl := tot_optN (r := parseM s) fun t h => parse_val h
  have t3 := totN_eq ((parseM s).getD default)
  have e1 := heNd_mk1 ((parseM s).getD default) 1 (by omega)
  have e2 := totNd_mk1 ((parseM s).getD default) 1
  conv => whnf
  repeat' first|((first|refine Cnd.mk (fun h=>?_) (fun h=>?_)|refine Gd.mk (fun h=>?_))<;>(try simp [etas,elDef,-List.getD_eq_getElem?_getD] at h)<;>conv=>whnf)|((first|refine Obl.mk (by first|omega|rfl|exact inK_byte _|(simp only [inK,Int.toNat_natCast,etas,elDef,o20,m20,o22]<;>first|omega|grind)|grind [inK,o20,m20,o22]) ?_|refine OblG.mk (by ((conv=>whnf);(repeat (first|refine Bx.mk ?_|(intro h;(try simp [etas,elDef,-List.getD_eq_getElem?_getD] at h);conv=>whnf)));(first|omega|rfl|exact inK_byte _|(simp only [inK,Int.toNat_natCast,etas,elDef,o20,m20,o22]<;>first|omega|grind)|grind [inK,o20,m20,o22]))) ?_|refine And.intro ?_ ?_)<;>conv=>whnf)|exact True.intro|(intro;conv=>whnf)
  all_goals first
    | exact hK
    | (exfalso; (first | omega | exact absurd rfl (eqD_no.1 h) | exact absurd rfl h | (rcases h with h1 | h1 <;> first | omega | exact absurd rfl (eqD_no.1 h1) | exact absurd rfl h1 | (rcases h1 with h2 | h2 <;> first | omega | exact absurd rfl (eqD_no.1 h2) | exact absurd rfl h2))))
    | trace_state
theorem s7 : (CtrOK Tryd.prog 7 (.gen .ps C7) ∧ Callable Tryd.prog 7) := by
  refine gen_ok (E := E7) (mkE_cons s11r (mkE_cons s14 (mkE_cons s20 (mkE_cons s21 (mkE_cons s22 (mkE_nil tab_ok)))))) mix (O := O7) (C := C7) (own := .ps) Tryd.func7 rfl (by rfl) (by kernel_rfl) (fun args K h hbd => ?_)
  unfold C7 at h; split at h
  case h_2 => exact h.elim
  exact ⟨Nat.le_of_ble_eq_true rfl, a7 _ (by exact hbd) _ h⟩
end Go.Rs

