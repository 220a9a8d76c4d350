import Derived.Test.YtoailaifflbomaaQC
import Derived.Test.YtoailaifflbomaaMH
set_option linter.all false
set_option linter.unusedSimpArgs false
set_option linter.unusedVariables false
namespace Go.Rs
open Go.Proofs
set_option maxRecDepth 100000
noncomputable def c7 (o : Nd) (a : Nd) (b : Nd) (K : AV → List AV → Prop) : Prop :=
    Obl (bdN o ∧ bdN a ∧ bdN b) (K (.bool true) [])
noncomputable def C7 : List AV → (AV → List AV → Prop) → Prop
  | [.st [.int .i64 o_0, .int .i64 o_1, .str o_2, .ps .str o_3, .ps .node o_4], .st [.int .i64 a_0, .int .i64 a_1, .str a_2, .ps .str a_3, .ps .node a_4], .st [.int .i64 b_0, .int .i64 b_1, .str b_2, .ps .str b_3, .ps .node b_4]], K => c7 ⟨o_0, o_1, o_2, o_3, o_4⟩ ⟨a_0, a_1, a_2, a_3, a_4⟩ ⟨b_0, b_1, b_2, b_3, b_4⟩ K
  | _, _ => False
noncomputable def E7 : Ctx := mkE tab [(33, .gen .ps C33), (34, .gen .ps C34), (35, .gen .ow C35r), (36, .gen .ln C36r), (37, .pure F37), (38, .gen .ln C38), (39, .pure F39)]
noncomputable def O7 : Nat → List DI := ordL [(11, [.q 0, .q 2, .q 4, .l 1 [2, 4], .l 3 [4], .l 5 [], .l 6 [], .q 7, .q 8, .q 9, .a 10, .l 11 [], .q 12]), (18, [.q 0, .q 1, .l 2 [0], .q 3, .q 4]), (20, [.q 0, .q 1, .l 2 [0], .q 3, .q 4]), (22, [.q 0, .q 1, .l 2 [0], .q 3, .q 4]), (38, [.q 0, .q 2, .q 4, .l 1 [2, 4], .l 3 [4], .l 5 [], .l 6 [], .q 7, .q 8, .q 9, .a 10, .l 11 [], .q 12])]
theorem a7 (o : Nd) (a : Nd) (b : Nd) (hb : BdAs [.st (ndC o), .st (ndC a), .st (ndC b)]) (K : AV → List AV → Prop) (h : c7 o a b K) : abody E7 O7 .ps Try.f7 (Try.f7.body.getD .skip) [.st (ndC o), .st (ndC a), .st (ndC b)] K := by
  simp only [BdAs, BdA, BdL, BdC, MX, ndC, shC, itC, stC, opC, chC, nwC, flC, rqC, rsC, enc, List.cons_append, List.nil_append, and_true, true_and] at hb
  unfold c7 at h
  obtain ⟨⟨h1, h2, h3⟩, hK⟩ := h
  obtain ⟨n1, n2, n3, n4, n5⟩ := o
  obtain ⟨x1, x2, x3, x4, x5⟩ := a
  obtain ⟨y1, y2, y3, y4, y5⟩ := b
  have t0 := totN_eq ⟨n1, n2, n3, n4, n5⟩
  have t1 := totN_eq ⟨x1, x2, x3, x4, x5⟩
  have t2 := totN_eq ⟨y1, y2, y3, y4, y5⟩
  have hl := tot_optN (r := mergeThreeM ⟨n1, n2, n3, n4, n5⟩ ⟨x1, x2, x3, x4, x5⟩ ⟨y1, y2, y3, y4, y5⟩) fun t h => mergeThree_ok h
  have t3 := totN_eq ((mergeThreeM ⟨n1, n2, n3, n4, n5⟩ ⟨x1, x2, x3, x4, x5⟩ ⟨y1, y2, y3, y4, y5⟩).getD default)
  have e1 := heNd_mk1 ((mergeThreeM ⟨n1, n2, n3, n4, n5⟩ ⟨x1, x2, x3, x4, x5⟩ ⟨y1, y2, y3, y4, y5⟩).getD default) 1 (by omega)
  have e2 := totNd_mk1 ((mergeThreeM ⟨n1, n2, n3, n4, n5⟩ ⟨x1, x2, x3, x4, x5⟩ ⟨y1, y2, y3, y4, y5⟩).getD default) 1
  dsimp only at t0 t1 t2
  conv => whnf
  repeat' first|((first|refine Cnd.mk (fun h=>?_) (fun h=>?_)|refine Gd.mk (fun h=>?_))<;>(try simp [etas,elDef,-List.getD_eq_getElem?_getD] at h)<;>conv=>whnf)|((first|refine Obl.mk (by first|omega|rfl|exact inK_byte _|(simp only [inK,Int.toNat_natCast,etas,elDef,m33,o37,m37,o39]<;>first|omega|grind)|grind [inK,m33,o37,m37,o39]) ?_|refine OblG.mk (by ((conv=>whnf);(repeat (first|refine Bx.mk ?_|(intro h;(try simp [etas,elDef,-List.getD_eq_getElem?_getD] at h);conv=>whnf)));(first|omega|rfl|exact inK_byte _|(simp only [inK,Int.toNat_natCast,etas,elDef,m33,o37,m37,o39]<;>first|omega|grind)|grind [inK,m33,o37,m37,o39]))) ?_|refine And.intro ?_ ?_)<;>conv=>whnf)|exact True.intro|(intro;conv=>whnf)
  all_goals first
    | exact hK
    | (exfalso; (first | omega | exact absurd rfl (eqD_no.1 h) | exact absurd rfl h | (rcases h with h1 | h1 <;> first | omega | exact absurd rfl (eqD_no.1 h1) | exact absurd rfl h1 | (rcases h1 with h2 | h2 <;> first | omega | exact absurd rfl (eqD_no.1 h2) | exact absurd rfl h2))))
    | trace_state
theorem s7 : (CtrOK Try.prog 7 (.gen .ps C7) ∧ Callable Try.prog 7) := by
  refine gen_ok (E := E7) (mkE_cons s33 (mkE_cons s34 (mkE_cons s35r (mkE_cons s36r (mkE_cons s37 (mkE_cons s38 (mkE_cons s39 (mkE_nil tab_ok)))))))) mix (O := O7) (C := C7) (own := .ps) Try.func7 rfl (by rfl) (by kernel_rfl) (fun args K h hbd => ?_)
  unfold C7 at h; split at h
  case h_2 => exact h.elim
  exact ⟨Nat.le_of_ble_eq_true rfl, a7 ⟨_, _, _, _, _⟩ ⟨_, _, _, _, _⟩ ⟨_, _, _, _, _⟩ (by exact hbd) _ h⟩
noncomputable def c8 (o : Nd) (a : Nd) (b : Nd) (K : AV → List AV → Prop) : Prop :=
    Obl (bdN o ∧ bdN a ∧ bdN b) (K (.bool true) [])
noncomputable def C8 : List AV → (AV → List AV → Prop) → Prop
  | [.st [.int .i64 o_0, .int .i64 o_1, .str o_2, .ps .str o_3, .ps .node o_4], .st [.int .i64 a_0, .int .i64 a_1, .str a_2, .ps .str a_3, .ps .node a_4], .st [.int .i64 b_0, .int .i64 b_1, .str b_2, .ps .str b_3, .ps .node b_4]], K => c8 ⟨o_0, o_1, o_2, o_3, o_4⟩ ⟨a_0, a_1, a_2, a_3, a_4⟩ ⟨b_0, b_1, b_2, b_3, b_4⟩ K
  | _, _ => False
noncomputable def E8 : Ctx := mkE tab [(33, .gen .ps C33), (35, .gen .ow C35r), (37, .pure F37), (40, .gen .ps C40), (41, .gen .ln C41r)]
noncomputable def O8 : Nat → List DI := ordL [(11, [.q 0, .q 2, .q 4, .l 1 [2, 4], .l 3 [4], .l 5 [], .l 6 [], .q 7]), (18, [.q 0, .q 1, .l 2 [0], .q 3, .q 4]), (20, [.q 0, .q 1, .l 2 [0], .q 3, .q 4]), (22, [.q 0, .q 1, .l 2 [0], .q 3, .q 4])]
theorem a8 (o : Nd) (a : Nd) (b : Nd) (hb : BdAs [.st (ndC o), .st (ndC a), .st (ndC b)]) (K : AV → List AV → Prop) (h : c8 o a b K) : abody E8 O8 .ps Try.f8 (Try.f8.body.getD .skip) [.st (ndC o), .st (ndC a), .st (ndC b)] K := by
  simp only [BdAs, BdA, BdL, BdC, MX, ndC, shC, itC, stC, opC, chC, nwC, flC, rqC, rsC, enc, List.cons_append, List.nil_append, and_true, true_and] at hb
  unfold c8 at h
  obtain ⟨⟨h1, h2, h3⟩, hK⟩ := h
  obtain ⟨n1, n2, n3, n4, n5⟩ := o
  obtain ⟨x1, x2, x3, x4, x5⟩ := a
  obtain ⟨y1, y2, y3, y4, y5⟩ := b
  have t0 := totN_eq ⟨n1, n2, n3, n4, n5⟩
  have t1 := totN_eq ⟨x1, x2, x3, x4, x5⟩
  have t2 := totN_eq ⟨y1, y2, y3, y4, y5⟩
  dsimp only at t0 t1 t2
  conv => whnf
  repeat' first|((first|refine Cnd.mk (fun h=>?_) (fun h=>?_)|refine Gd.mk (fun h=>?_))<;>(try simp [etas,elDef,-List.getD_eq_getElem?_getD] at h)<;>conv=>whnf)|((first|refine Obl.mk (by first|omega|rfl|exact inK_byte _|(simp only [inK,Int.toNat_natCast,etas,elDef,m33,o37,m37]<;>first|omega|grind)|grind [inK,m33,o37,m37]) ?_|refine OblG.mk (by ((conv=>whnf);(repeat (first|refine Bx.mk ?_|(intro h;(try simp [etas,elDef,-List.getD_eq_getElem?_getD] at h);conv=>whnf)));(first|omega|rfl|exact inK_byte _|(simp only [inK,Int.toNat_natCast,etas,elDef,m33,o37,m37]<;>first|omega|grind)|grind [inK,m33,o37,m37]))) ?_|refine And.intro ?_ ?_)<;>conv=>whnf)|exact True.intro|(intro;conv=>whnf)
  all_goals first
    | exact hK
    | (exfalso; (first | omega | exact absurd rfl (eqD_no.1 h) | exact absurd rfl h | (rcases h with h1 | h1 <;> first | omega | exact absurd rfl (eqD_no.1 h1) | exact absurd rfl h1 | (rcases h1 with h2 | h2 <;> first | omega | exact absurd rfl (eqD_no.1 h2) | exact absurd rfl h2))))
    | trace_state
theorem s8 : (CtrOK Try.prog 8 (.gen .ps C8) ∧ Callable Try.prog 8) := by
  refine gen_ok (E := E8) (mkE_cons s33 (mkE_cons s35r (mkE_cons s37 (mkE_cons s40 (mkE_cons s41r (mkE_nil tab_ok)))))) mix (O := O8) (C := C8) (own := .ps) Try.func8 rfl (by rfl) (by kernel_rfl) (fun args K h hbd => ?_)
  unfold C8 at h; split at h
  case h_2 => exact h.elim
  exact ⟨Nat.le_of_ble_eq_true rfl, a8 ⟨_, _, _, _, _⟩ ⟨_, _, _, _, _⟩ ⟨_, _, _, _, _⟩ (by exact hbd) _ h⟩
end Go.Rs

