import Derived.Test.YtmkgadogaefkaaaDoorEW
import Derived.Test.YtmkgadogaefkaaaDoorMH
set_option linter.all false
set_option linter.unusedSimpArgs false
set_option linter.unusedVariables false
namespace Go.Rs
open Go.Proofs
set_option maxRecDepth 100000
noncomputable def c3 (n : Nd) (p : List Bs) (x : Nd) (K : AV → List AV → Prop) : Prop :=
    Obl (bdN n ∧ (∀ s ∈ p, s.length ≤ 140737488355328) ∧ bdN x) (K (.bool true) [])
noncomputable def C3 : List AV → (AV → List AV → Prop) → Prop
  | [.st [.int .i64 n_0, .int .i64 n_1, .str n_2, .ps .str n_3, .ps .node n_4], .ps .str p, .st [.int .i64 x_0, .int .i64 x_1, .str x_2, .ps .str x_3, .ps .node x_4]], K => c3 ⟨n_0, n_1, n_2, n_3, n_4⟩ p ⟨x_0, x_1, x_2, x_3, x_4⟩ K
  | _, _ => False
noncomputable def E3 : Ctx := mkE tab [(4, .gen .ps C4), (5, .gen .ps C5), (6, .gen .ps C6), (7, .gen .ow C7r), (8, .gen .ow C8d), (9, .gen .ln C9r), (10, .pure F10), (11, .pure F11), (12, .gen .ln C12), (13, .gen .ln C13), (14, .pure F14)]
noncomputable def O3 : Nat → List DI := ordL [(11, [.q 0, .q 2, .q 4, .l 1 [4], .l 3 [4], .l 5 [], .l 6 [], .q 7, .q 8, .q 9, .a 10, .l 11 [], .q 12]), (18, [.q 0, .q 1, .l 2 [0], .q 3, .q 4]), (22, [.q 0, .q 1, .l 2 [0], .q 3, .q 4]), (38, [.q 0, .q 2, .q 4, .l 1 [4], .l 3 [4], .l 5 [], .l 6 [], .q 7, .q 8, .q 9, .a 10, .l 11 [], .q 12])]
theorem a3 (n : Nd) (p : List Bs) (x : Nd) (hb : BdAs [.st (ndC n), .ps .str p, .st (ndC x)]) (K : AV → List AV → Prop) (h : c3 n p x K) : abody E3 O3 .ps Tryd.f3 (Tryd.f3.body.getD .skip) [.st (ndC n), .ps .str p, .st (ndC x)] K := by
  simp only [BdAs, BdA, BdL, BdC, MX, ndC, shC, itC, stC, opC, chC, nwC, flC, rqC, rsC, enc, List.cons_append, List.nil_append, and_true, true_and] at hb
  unfold c3 at h
  obtain ⟨⟨h1, h2, h3⟩, hK⟩ := h
  obtain ⟨n1, n2, n3, n4, n5⟩ := n
  obtain ⟨x1, x2, x3, x4, x5⟩ := x
  have t1 := totN_eq ⟨n1, n2, n3, n4, n5⟩
  have t2 := totN_eq ⟨x1, x2, x3, x4, x5⟩
  obtain ⟨R, hR⟩ : ∃ R, R = (addNodeM ⟨n1, n2, n3, n4, n5⟩ p ⟨x1, x2, x3, x4, x5⟩).getD default := ⟨_, rfl⟩
  have hl := tot_optN (r := addNodeM ⟨n1, n2, n3, n4, n5⟩ p ⟨x1, x2, x3, x4, x5⟩) fun t h => addNodeM_ok h
  have t3 := totN_eq ((addNodeM ⟨n1, n2, n3, n4, n5⟩ p ⟨x1, x2, x3, x4, x5⟩).getD default)
  have e1 := heNd_mk1 ((addNodeM ⟨n1, n2, n3, n4, n5⟩ p ⟨x1, x2, x3, x4, x5⟩).getD default) 1 (by omega)
  have e2 := totNd_mk1 ((addNodeM ⟨n1, n2, n3, n4, n5⟩ p ⟨x1, x2, x3, x4, x5⟩).getD default) 1
  dsimp only at t1 t2
  conv => whnf
  repeat' first|(refine Cnd.mk (fun h=>?_) (fun h=>?_)<;>(try simp [etas,elDef,-List.getD_eq_getElem?_getD] at h)<;>conv=>whnf)|(refine Obl.mk (by first|omega|rfl|exact inK_byte _|(simp only [inK,Int.toNat_natCast,etas,elDef,m4,o10,m10,o14]<;>first|omega|grind)|grind [inK,m4,o10,m10,o14]) ?_<;>conv=>whnf)|(refine OblG.mk (by ((conv=>whnf);(repeat (first|(refine Bx.mk ?_)|(intro h;(try simp [etas,elDef,-List.getD_eq_getElem?_getD] at h);conv=>whnf)));(first|omega|rfl|exact inK_byte _|(simp only [inK,Int.toNat_natCast,etas,elDef,m4,o10,m10,o14]<;>first|omega|grind)|grind [inK,m4,o10,m10,o14]))) ?_<;>conv=>whnf)|(refine Gd.mk (fun h=>?_)<;>(try simp [etas,elDef,-List.getD_eq_getElem?_getD] at h)<;>conv=>whnf)|(refine And.intro ?_ ?_<;>conv=>whnf)|exact True.intro|(intro;conv=>whnf)
  all_goals first
    | exact hK
    | (exfalso; (first | omega | exact absurd rfl (eqD_no.1 h) | exact absurd rfl h | (rcases h with h1 | h1 <;> first | omega | exact absurd rfl (eqD_no.1 h1) | exact absurd rfl h1 | (rcases h1 with h2 | h2 <;> first | omega | exact absurd rfl (eqD_no.1 h2) | exact absurd rfl h2))))
    | trace_state
theorem s3 : (CtrOK Tryd.prog 3 (.gen .ps C3) ∧ Callable Tryd.prog 3) := by
  refine gen_ok (E := E3) (mkE_cons s4 (mkE_cons s5 (mkE_cons s6 (mkE_cons s7r (mkE_cons s8d (mkE_cons s9r (mkE_cons s10 (mkE_cons s11 (mkE_cons s12 (mkE_cons s13 (mkE_cons s14 (mkE_nil tab_ok)))))))))))) mix (O := O3) (C := C3) (own := .ps) Tryd.func3 rfl (by rfl) (by kernel_rfl) (fun args K h hbd => ?_)
  unfold C3 at h; split at h
  case h_2 => exact h.elim
  exact ⟨Nat.le_of_ble_eq_true rfl, a3 ⟨_, _, _, _, _⟩ _ ⟨_, _, _, _, _⟩ (by exact hbd) _ h⟩
end Go.Rs

