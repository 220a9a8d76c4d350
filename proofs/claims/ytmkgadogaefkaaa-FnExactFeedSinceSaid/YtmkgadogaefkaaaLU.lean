import Derived.Test.YtmkgadogaefkaaaEU
import Derived.Test.YtmkgadogaefkaaaMH
set_option linter.all false
set_option linter.unusedSimpArgs false
set_option linter.unusedVariables false
namespace Go.Rs
open Go.Proofs
set_option maxRecDepth 100000
noncomputable def c3 (s : Sto) (l : List Nws) (K : AV → List AV → Prop) : Prop :=
    Obl ((∀ x ∈ s.items, bdN x.node) ∧ ∀ x ∈ l, bdN x.node) (K (.bool true) [])
noncomputable def C3 : List AV → (AV → List AV → Prop) → Prop
  | [.st [.ps .item s_0, .int .i64 s_1], .ps .nws l], K => c3 ⟨s_0, s_1⟩ l K
  | _, _ => False
noncomputable def E3 : Ctx := mkE tab [(5, .gen .ps C5), (6, .gen .ps C6), (7, .gen .ps C7), (8, .gen .ow C8r), (9, .gen .ow C9r), (10, .gen .ln C10r), (11, .pure F11), (12, .pure F12), (13, .gen .ln C13), (14, .gen .ln C14), (15, .pure F15)]
noncomputable def O3 : Nat → List DI := ordL [(14, [.q 0, .q 1, .l 2 [0], .q 3, .q 4])]
theorem a3 (s : Sto) (l : List Nws) (hb : BdAs [.st (stC s), .ps .nws l]) (K : AV → List AV → Prop) (h : c3 s l K) : abody E3 O3 .ps Try.f3 (Try.f3.body.getD .skip) [.st (stC s), .ps .nws l] K := by
  simp only [BdAs, BdA, BdL, BdC, MX, ndC, shC, itC, stC, opC, chC, nwC, flC, rqC, rsC, enc, List.cons_append, List.nil_append, and_true, true_and] at hb
  unfold c3 at h
  obtain ⟨⟨h1, h2⟩, hK⟩ := h
  have hl := tot_opt (r := ffM s l) fun t h => ffM_ok h
  have e1 := heIs_mk (((ffM s l).getD ⟨[], 0⟩).items) 1 (by omega)
  have e2 := totIs_mk (((ffM s l).getD ⟨[], 0⟩).items) 1
  conv => whnf
  repeat' first|(refine Cnd.mk (fun h=>?_) (fun h=>?_)<;>(try simp [etas,elDef,-List.getD_eq_getElem?_getD] at h)<;>conv=>whnf)|(refine Obl.mk (by first|omega|rfl|exact inK_byte _|(simp only [inK,Int.toNat_natCast,etas,elDef,o15]<;>first|omega|grind)|grind [inK,o15]) ?_<;>conv=>whnf)|(refine OblG.mk (by ((conv=>whnf);(repeat (first|(refine Bx.mk ?_)|(intro h;(try simp [etas,elDef,-List.getD_eq_getElem?_getD] at h);conv=>whnf)));(first|omega|rfl|exact inK_byte _|(simp only [inK,Int.toNat_natCast,etas,elDef,o15]<;>first|omega|grind)|grind [inK,o15]))) ?_<;>conv=>whnf)|(refine Gd.mk (fun h=>?_)<;>(try simp [etas,elDef,-List.getD_eq_getElem?_getD] at h)<;>conv=>whnf)|(refine And.intro ?_ ?_<;>conv=>whnf)|exact True.intro|(intro;conv=>whnf)
  all_goals first
    | exact hK
    | (exfalso; (first | omega | exact absurd rfl (eqD_no.1 h) | exact absurd rfl h | (rcases h with h1 | h1 <;> first | omega | exact absurd rfl (eqD_no.1 h1) | exact absurd rfl h1 | (rcases h1 with h2 | h2 <;> first | omega | exact absurd rfl (eqD_no.1 h2) | exact absurd rfl h2))))
theorem s3 : (CtrOK Try.prog 3 (.gen .ps C3) ∧ Callable Try.prog 3) := by
  refine gen_ok (E := E3) (mkE_cons s5 (mkE_cons s6 (mkE_cons s7 (mkE_cons s8r (mkE_cons s9r (mkE_cons s10r (mkE_cons s11 (mkE_cons s12 (mkE_cons s13 (mkE_cons s14 (mkE_cons s15 (mkE_nil tab_ok)))))))))))) mix (O := O3) (C := C3) (own := .ps) Try.func3 rfl (by rfl) (by kernel_rfl) (fun args K h hbd => ?_)
  unfold C3 at h; split at h
  case h_2 => exact h.elim
  exact ⟨Nat.le_of_ble_eq_true rfl, a3 ⟨_, _⟩ _ (by exact hbd) _ h⟩
noncomputable def c4 (l : List Chg) (v : Int) (K : AV → List AV → Prop) : Prop :=
    Obl (∀ x ∈ l, bdN x.node) (K (.bool true) [])
noncomputable def C4 : List AV → (AV → List AV → Prop) → Prop
  | [.ps .chg l, .int .i64 v], K => c4 l v K
  | _, _ => False
noncomputable def E4 : Ctx := mkE tab [(12, .pure F12), (14, .gen .ln C14), (16, .gen .ps C16), (17, .gen .ps C17p), (18, .gen .ow C18r), (19, .gen .ln C19r), (20, .pure F20), (21, .gen .ln C21), (22, .pure F22)]
noncomputable def O4 : Nat → List DI := ordL []
theorem a4 (l : List Chg) (v : Int) (hb : BdAs [.ps .chg l, .int .i64 v]) (K : AV → List AV → Prop) (h : c4 l v K) : abody E4 O4 .ps Try.f4 (Try.f4.body.getD .skip) [.ps .chg l, .int .i64 v] K := by
  simp only [BdAs, BdA, BdL, BdC, MX, ndC, shC, itC, stC, opC, chC, nwC, flC, rqC, rsC, enc, List.cons_append, List.nil_append, and_true, true_and] at hb
  unfold c4 at h
  obtain ⟨h1, hK⟩ := h
  have hl := since_tot l v
  have e1 := heWs_mk (sinceV l v) 1 (by omega)
  have e2 := totWs_mk (sinceV l v) 1
  conv => whnf
  repeat' first|(refine Cnd.mk (fun h=>?_) (fun h=>?_)<;>(try simp [etas,elDef,-List.getD_eq_getElem?_getD] at h)<;>conv=>whnf)|(refine Obl.mk (by first|omega|rfl|exact inK_byte _|(simp only [inK,Int.toNat_natCast,etas,elDef,o22]<;>first|omega|grind)|grind [inK,o22]) ?_<;>conv=>whnf)|(refine OblG.mk (by ((conv=>whnf);(repeat (first|(refine Bx.mk ?_)|(intro h;(try simp [etas,elDef,-List.getD_eq_getElem?_getD] at h);conv=>whnf)));(first|omega|rfl|exact inK_byte _|(simp only [inK,Int.toNat_natCast,etas,elDef,o22]<;>first|omega|grind)|grind [inK,o22]))) ?_<;>conv=>whnf)|(refine Gd.mk (fun h=>?_)<;>(try simp [etas,elDef,-List.getD_eq_getElem?_getD] at h)<;>conv=>whnf)|(refine And.intro ?_ ?_<;>conv=>whnf)|exact True.intro|(intro;conv=>whnf)
  all_goals first
    | exact hK
    | (exfalso; (first | omega | exact absurd rfl (eqD_no.1 h) | exact absurd rfl h | (rcases h with h1 | h1 <;> first | omega | exact absurd rfl (eqD_no.1 h1) | exact absurd rfl h1 | (rcases h1 with h2 | h2 <;> first | omega | exact absurd rfl (eqD_no.1 h2) | exact absurd rfl h2))))
theorem s4 : (CtrOK Try.prog 4 (.gen .ps C4) ∧ Callable Try.prog 4) := by
  refine gen_ok (E := E4) (mkE_cons s12 (mkE_cons s14 (mkE_cons s16 (mkE_cons s17p (mkE_cons s18r (mkE_cons s19r (mkE_cons s20 (mkE_cons s21 (mkE_cons s22 (mkE_nil tab_ok)))))))))) mix (O := O4) (C := C4) (own := .ps) Try.func4 rfl (by rfl) (by kernel_rfl) (fun args K h hbd => ?_)
  unfold C4 at h; split at h
  case h_2 => exact h.elim
  exact ⟨Nat.le_of_ble_eq_true rfl, a4 _ _ (by exact hbd) _ h⟩
end Go.Rs

