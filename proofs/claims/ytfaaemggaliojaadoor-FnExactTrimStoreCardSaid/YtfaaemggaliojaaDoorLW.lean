import Derived.Test.YtfaaemggaliojaaDoorEV
import Derived.Test.YtfaaemggaliojaaDoorMH
set_option linter.all false
set_option linter.unusedSimpArgs false
set_option linter.unusedVariables false
namespace Go.Rs
open Go.Proofs
set_option maxRecDepth 100000
noncomputable def c3 (s : Sto) (l : List Flt) (K : AV → List AV → Prop) : Prop :=
    Obl ((∀ x ∈ s.items, bdN x.node) ∧ ∀ x ∈ l, bdF x) (K (.bool true) [])
noncomputable def C3 : List AV → (AV → List AV → Prop) → Prop
  | [.st [.ps .item s_0, .int .i64 s_1], .ps .flt l], K => c3 ⟨s_0, s_1⟩ l K
  | _, _ => False
noncomputable def E3 : Ctx := mkE tab [(5, .gen .ps C5), (6, .gen .ps C6), (7, .gen .ps C7), (8, .gen .ow C8r), (9, .gen .ow C9r), (10, .gen .ln C10r), (11, .pure F11), (12, .pure F12), (13, .pure F13), (14, .gen .ln C14), (15, .gen .ln C15), (16, .gen .ln C16), (17, .pure F17)]
noncomputable def O3 : Nat → List DI := ordL [(14, [.q 0, .q 1, .l 2 [0], .q 3, .q 4])]
theorem a3 (s : Sto) (l : List Flt) (hb : BdAs [.st (stC s), .ps .flt l]) (K : AV → List AV → Prop) (h : c3 s l K) : abody E3 O3 .ps Tryd.f3 (Tryd.f3.body.getD .skip) [.st (stC s), .ps .flt l] K := by
  simp only [BdAs, BdA, BdL, BdC, MX, ndC, shC, itC, stC, opC, chC, nwC, flC, rqC, rsC, enc, List.cons_append, List.nil_append, and_true, true_and] at hb
  unfold c3 at h
  obtain ⟨⟨h1, h2⟩, hK⟩ := h
  have hl := sel_tot s l
  have hn := namesI_len2 (selM s l).items
  have e1 := heS_mk (namesI (selM s l).items) 1
  have e2 := mkS_len (namesI (selM s l).items) 1
  conv => whnf
  repeat' first|((first|refine Cnd.mk (fun h=>?_) (fun h=>?_)|refine Gd.mk (fun h=>?_))<;>(try simp [etas,elDef,-List.getD_eq_getElem?_getD] at h)<;>conv=>whnf)|((first|refine Obl.mk (by first|omega|rfl|exact inK_byte _|(simp only [inK,Int.toNat_natCast,etas,elDef,o17]<;>first|omega|grind)|grind [inK,o17]) ?_|refine OblG.mk (by ((conv=>whnf);(repeat (first|refine Bx.mk ?_|(intro h;(try simp [etas,elDef,-List.getD_eq_getElem?_getD] at h);conv=>whnf)));(first|omega|rfl|exact inK_byte _|(simp only [inK,Int.toNat_natCast,etas,elDef,o17]<;>first|omega|grind)|grind [inK,o17]))) ?_|refine And.intro ?_ ?_)<;>conv=>whnf)|exact True.intro|(intro;conv=>whnf)
  all_goals first
    | exact hK
    | (exfalso; (first | omega | exact absurd rfl (eqD_no.1 h) | exact absurd rfl h | (rcases h with h1 | h1 <;> first | omega | exact absurd rfl (eqD_no.1 h1) | exact absurd rfl h1 | (rcases h1 with h2 | h2 <;> first | omega | exact absurd rfl (eqD_no.1 h2) | exact absurd rfl h2))))
theorem s3 : (CtrOK Tryd.prog 3 (.gen .ps C3) ∧ Callable Tryd.prog 3) := by
  refine gen_ok (E := E3) (mkE_cons s5 (mkE_cons s6 (mkE_cons s7 (mkE_cons s8r (mkE_cons s9r (mkE_cons s10r (mkE_cons s11 (mkE_cons s12 (mkE_cons s13 (mkE_cons s14 (mkE_cons s15 (mkE_cons s16 (mkE_cons s17 (mkE_nil tab_ok)))))))))))))) mix (O := O3) (C := C3) (own := .ps) Tryd.func3 rfl (by rfl) (by kernel_rfl) (fun args K h hbd => ?_)
  unfold C3 at h; split at h
  case h_2 => exact h.elim
  exact ⟨Nat.le_of_ble_eq_true rfl, a3 ⟨_, _⟩ _ (by exact hbd) _ h⟩
noncomputable def c4 (s : Sto) (m : Int) (K : AV → List AV → Prop) : Prop :=
    Obl (∀ x ∈ s.items, bdN x.node) (K (.bool true) [])
noncomputable def C4 : List AV → (AV → List AV → Prop) → Prop
  | [.st [.ps .item s_0, .int .i64 s_1], .int .i64 m], K => c4 ⟨s_0, s_1⟩ m K
  | _, _ => False
noncomputable def E4 : Ctx := mkE tab [(5, .gen .ps C5), (8, .gen .ow C8r), (11, .pure F11), (12, .pure F12), (14, .gen .ln C14), (16, .gen .ln C16), (17, .pure F17), (18, .gen .ps C18), (19, .gen .ln C19r), (20, .pure F20)]
noncomputable def O4 : Nat → List DI := ordL [(10, [.q 0, .q 1, .l 2 [0], .q 3, .q 4])]
theorem a4 (s : Sto) (m : Int) (hb : BdAs [.st (stC s), .int .i64 m]) (K : AV → List AV → Prop) (h : c4 s m K) : abody E4 O4 .ps Tryd.f4 (Tryd.f4.body.getD .skip) [.st (stC s), .int .i64 m] K := by
  simp only [BdAs, BdA, BdL, BdC, MX, ndC, shC, itC, stC, opC, chC, nwC, flC, rqC, rsC, enc, List.cons_append, List.nil_append, and_true, true_and] at hb
  unfold c4 at h
  obtain ⟨h1, hK⟩ := h
  have hl := trim_tot s m
  have e1 := heIs_mk (trimS s m).1.items 1 (by omega)
  have e2 := totIs_mk (trimS s m).1.items 1
  have e3 := heS_mk (trimS s m).2 (1 + ((totIs (trimS s m).1.items : Nat) : Int))
  have e5 : heS (mkS (trimS s m).2 (1 + ((totIs (trimS s m).1.items : Nat) : Int))) (heIs (mkIs (trimS s m).1.items 1) 1) = 1 + ((totIs (trimS s m).1.items : Nat) : Int) + ((trimS s m).2.length : Nat) := by rw [e1]; exact e3
  have e4 := mkS_len (trimS s m).2 (1 + ((totIs (trimS s m).1.items : Nat) : Int))
  conv => whnf
  repeat' first|((first|refine Cnd.mk (fun h=>?_) (fun h=>?_)|refine Gd.mk (fun h=>?_))<;>(try simp [etas,elDef,-List.getD_eq_getElem?_getD] at h)<;>conv=>whnf)|((first|refine Obl.mk (by first|omega|rfl|exact inK_byte _|(simp only [inK,Int.toNat_natCast,etas,elDef,o17,o20]<;>first|omega|grind)|grind [inK,o17,o20]) ?_|refine OblG.mk (by ((conv=>whnf);(repeat (first|refine Bx.mk ?_|(intro h;(try simp [etas,elDef,-List.getD_eq_getElem?_getD] at h);conv=>whnf)));(first|omega|rfl|exact inK_byte _|(simp only [inK,Int.toNat_natCast,etas,elDef,o17,o20]<;>first|omega|grind)|grind [inK,o17,o20]))) ?_|refine And.intro ?_ ?_)<;>conv=>whnf)|exact True.intro|(intro;conv=>whnf)
  all_goals first
    | exact hK
    | (exfalso; (first | omega | exact absurd rfl (eqD_no.1 h) | exact absurd rfl h | (rcases h with h1 | h1 <;> first | omega | exact absurd rfl (eqD_no.1 h1) | exact absurd rfl h1 | (rcases h1 with h2 | h2 <;> first | omega | exact absurd rfl (eqD_no.1 h2) | exact absurd rfl h2))))
theorem s4 : (CtrOK Tryd.prog 4 (.gen .ps C4) ∧ Callable Tryd.prog 4) := by
  refine gen_ok (E := E4) (mkE_cons s5 (mkE_cons s8r (mkE_cons s11 (mkE_cons s12 (mkE_cons s14 (mkE_cons s16 (mkE_cons s17 (mkE_cons s18 (mkE_cons s19r (mkE_cons s20 (mkE_nil tab_ok))))))))))) mix (O := O4) (C := C4) (own := .ps) Tryd.func4 rfl (by rfl) (by kernel_rfl) (fun args K h hbd => ?_)
  unfold C4 at h; split at h
  case h_2 => exact h.elim
  exact ⟨Nat.le_of_ble_eq_true rfl, a4 ⟨_, _⟩ _ (by exact hbd) _ h⟩
end Go.Rs

