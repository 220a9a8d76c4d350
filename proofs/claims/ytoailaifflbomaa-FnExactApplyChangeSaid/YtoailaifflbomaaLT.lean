import Derived.Test.YtoailaifflbomaaES
import Derived.Test.YtoailaifflbomaaMH
set_option linter.all false
set_option linter.unusedSimpArgs false
set_option linter.unusedVariables false
namespace Go.Rs
open Go.Proofs
set_option maxRecDepth 100000
theorem histV_len (l : List Chg) (b : Bs) : (histV l b).length ≤ l.length := by
  unfold histV
  split
  · have h := histM_len l b l.length
    rwa [List.take_of_length_le (Nat.le_refl _)] at h
  · simp
noncomputable def c3 (l : List Chg) (b : Bs) (K : AV → List AV → Prop) : Prop :=
    Obl (∀ x ∈ l, bdN x.node) (K (.bool true) [])
noncomputable def C3 : List AV → (AV → List AV → Prop) → Prop
  | [.ps .chg l, .str b], K => c3 l b K
  | _, _ => False
noncomputable def E3 : Ctx := mkE tab [(9, .gen .ps C9), (10, .gen .ps C10), (11, .gen .ow C11r), (12, .gen .ln C12r), (13, .pure F13), (14, .pure F14), (15, .gen .ln C15), (16, .gen .ln C16), (17, .pure F17)]
noncomputable def O3 : Nat → List DI := ordL []
theorem a3 (l : List Chg) (b : Bs) (hb : BdAs [.ps .chg l, .str b]) (K : AV → List AV → Prop) (h : c3 l b K) : abody E3 O3 .ps Try.f3 (Try.f3.body.getD .skip) [.ps .chg l, .str b] K := by
  simp only [BdAs, BdA, BdL, BdC, MX, ndC, shC, itC, stC, opC, chC, nwC, flC, rqC, rsC, enc, List.cons_append, List.nil_append, and_true, true_and] at hb
  unfold c3 at h
  obtain ⟨h1, hK⟩ := h
  have hl := histV_len l b
  have e1 := heI_mk (histV l b) 1
  have e2 := mkI_len (histV l b) 1
  conv => whnf
  repeat' first|((first|refine Cnd.mk (fun h=>?_) (fun h=>?_)|refine Gd.mk (fun h=>?_))<;>(try simp [etas,elDef,-List.getD_eq_getElem?_getD] at h)<;>conv=>whnf)|((first|refine Obl.mk (by first|omega|rfl|exact inK_byte _|(simp only [inK,Int.toNat_natCast,etas,elDef,o17]<;>first|omega|grind)|grind [inK,o17]) ?_|refine OblG.mk (by ((conv=>whnf);(repeat (first|refine Bx.mk ?_|(intro h;(try simp [etas,elDef,-List.getD_eq_getElem?_getD] at h);conv=>whnf)));(first|omega|rfl|exact inK_byte _|(simp only [inK,Int.toNat_natCast,etas,elDef,o17]<;>first|omega|grind)|grind [inK,o17]))) ?_|refine And.intro ?_ ?_)<;>conv=>whnf)|exact True.intro|(intro;conv=>whnf)
  all_goals first
    | exact hK
    | (exfalso; (first | omega | exact absurd rfl (eqD_no.1 h) | exact absurd rfl h | (rcases h with h1 | h1 <;> first | omega | exact absurd rfl (eqD_no.1 h1) | exact absurd rfl h1 | (rcases h1 with h2 | h2 <;> first | omega | exact absurd rfl (eqD_no.1 h2) | exact absurd rfl h2))))
theorem s3 : (CtrOK Try.prog 3 (.gen .ps C3) ∧ Callable Try.prog 3) := by
  refine gen_ok (E := E3) (mkE_cons s9 (mkE_cons s10 (mkE_cons s11r (mkE_cons s12r (mkE_cons s13 (mkE_cons s14 (mkE_cons s15 (mkE_cons s16 (mkE_cons s17 (mkE_nil tab_ok)))))))))) mix (O := O3) (C := C3) (own := .ps) Try.func3 rfl (by rfl) (by kernel_rfl) (fun args K h hbd => ?_)
  unfold C3 at h; split at h
  case h_2 => exact h.elim
  exact ⟨Nat.le_of_ble_eq_true rfl, a3 _ _ (by exact hbd) _ h⟩
noncomputable def c4 (l : List Chg) (K : AV → List AV → Prop) : Prop :=
    Obl (∀ x ∈ l, bdN x.node) (K (.bool true) [])
noncomputable def C4 : List AV → (AV → List AV → Prop) → Prop
  | [.ps .chg l], K => c4 l K
  | _, _ => False
noncomputable def E4 : Ctx := mkE tab [(9, .gen .ps C9), (11, .gen .ow C11r), (14, .pure F14), (15, .gen .ln C15), (18, .gen .ps C18), (19, .gen .ln C19r), (20, .pure F20), (21, .gen .ln C21), (22, .pure F22)]
noncomputable def O4 : Nat → List DI := ordL []
theorem a4 (l : List Chg) (hb : BdAs [.ps .chg l]) (K : AV → List AV → Prop) (h : c4 l K) : abody E4 O4 .ps Try.f4 (Try.f4.body.getD .skip) [.ps .chg l] K := by
  simp only [BdAs, BdA, BdL, BdC, MX, ndC, shC, itC, stC, opC, chC, nwC, flC, rqC, rsC, enc, List.cons_append, List.nil_append, and_true, true_and] at hb
  unfold c4 at h
  obtain ⟨h1, hK⟩ := h
  have hl := tot_opt (r := logM l) fun t h => logM_ok h
  have e1 := heIs_mk ((logM l).getD ⟨[], 0⟩).items 1 (by omega)
  have e2 := totIs_mk ((logM l).getD ⟨[], 0⟩).items 1
  conv => whnf
  repeat' first|((first|refine Cnd.mk (fun h=>?_) (fun h=>?_)|refine Gd.mk (fun h=>?_))<;>(try simp [etas,elDef,-List.getD_eq_getElem?_getD] at h)<;>conv=>whnf)|((first|refine Obl.mk (by first|omega|rfl|exact inK_byte _|(simp only [inK,Int.toNat_natCast,etas,elDef,o22]<;>first|omega|grind)|grind [inK,o22]) ?_|refine OblG.mk (by ((conv=>whnf);(repeat (first|refine Bx.mk ?_|(intro h;(try simp [etas,elDef,-List.getD_eq_getElem?_getD] at h);conv=>whnf)));(first|omega|rfl|exact inK_byte _|(simp only [inK,Int.toNat_natCast,etas,elDef,o22]<;>first|omega|grind)|grind [inK,o22]))) ?_|refine And.intro ?_ ?_)<;>conv=>whnf)|exact True.intro|(intro;conv=>whnf)
  all_goals first
    | exact hK
    | (exfalso; (first | omega | exact absurd rfl (eqD_no.1 h) | exact absurd rfl h | (rcases h with h1 | h1 <;> first | omega | exact absurd rfl (eqD_no.1 h1) | exact absurd rfl h1 | (rcases h1 with h2 | h2 <;> first | omega | exact absurd rfl (eqD_no.1 h2) | exact absurd rfl h2))))
theorem s4 : (CtrOK Try.prog 4 (.gen .ps C4) ∧ Callable Try.prog 4) := by
  refine gen_ok (E := E4) (mkE_cons s9 (mkE_cons s11r (mkE_cons s14 (mkE_cons s15 (mkE_cons s18 (mkE_cons s19r (mkE_cons s20 (mkE_cons s21 (mkE_cons s22 (mkE_nil tab_ok)))))))))) mix (O := O4) (C := C4) (own := .ps) Try.func4 rfl (by rfl) (by kernel_rfl) (fun args K h hbd => ?_)
  unfold C4 at h; split at h
  case h_2 => exact h.elim
  exact ⟨Nat.le_of_ble_eq_true rfl, a4 _ (by exact hbd) _ h⟩
noncomputable def c5 (l : List Chg) (v : Int) (K : AV → List AV → Prop) : Prop :=
    Obl (∀ x ∈ l, bdN x.node) (K (.bool true) [])
noncomputable def C5 : List AV → (AV → List AV → Prop) → Prop
  | [.ps .chg l, .int .i64 v], K => c5 l v K
  | _, _ => False
noncomputable def E5 : Ctx := mkE tab [(9, .gen .ps C9), (11, .gen .ow C11r), (14, .pure F14), (15, .gen .ln C15), (20, .pure F20), (21, .gen .ln C21), (22, .pure F22), (23, .gen .ps C23), (24, .gen .ln C24r)]
noncomputable def O5 : Nat → List DI := ordL []
theorem a5 (l : List Chg) (v : Int) (hb : BdAs [.ps .chg l, .int .i64 v]) (K : AV → List AV → Prop) (h : c5 l v K) : abody E5 O5 .ps Try.f5 (Try.f5.body.getD .skip) [.ps .chg l, .int .i64 v] K := by
  simp only [BdAs, BdA, BdL, BdC, MX, ndC, shC, itC, stC, opC, chC, nwC, flC, rqC, rsC, enc, List.cons_append, List.nil_append, and_true, true_and] at hb
  unfold c5 at h
  obtain ⟨h1, hK⟩ := h
  have hl := tot_opt (r := stoAtM l v) fun t h => stoAtM_ok h
  have e1 := heIs_mk ((stoAtM l v).getD ⟨[], 0⟩).items 1 (by omega)
  have e2 := totIs_mk ((stoAtM l v).getD ⟨[], 0⟩).items 1
  conv => whnf
  repeat' first|((first|refine Cnd.mk (fun h=>?_) (fun h=>?_)|refine Gd.mk (fun h=>?_))<;>(try simp [etas,elDef,-List.getD_eq_getElem?_getD] at h)<;>conv=>whnf)|((first|refine Obl.mk (by first|omega|rfl|exact inK_byte _|(simp only [inK,Int.toNat_natCast,etas,elDef,o22]<;>first|omega|grind)|grind [inK,o22]) ?_|refine OblG.mk (by ((conv=>whnf);(repeat (first|refine Bx.mk ?_|(intro h;(try simp [etas,elDef,-List.getD_eq_getElem?_getD] at h);conv=>whnf)));(first|omega|rfl|exact inK_byte _|(simp only [inK,Int.toNat_natCast,etas,elDef,o22]<;>first|omega|grind)|grind [inK,o22]))) ?_|refine And.intro ?_ ?_)<;>conv=>whnf)|exact True.intro|(intro;conv=>whnf)
  all_goals first
    | exact hK
    | (exfalso; (first | omega | exact absurd rfl (eqD_no.1 h) | exact absurd rfl h | (rcases h with h1 | h1 <;> first | omega | exact absurd rfl (eqD_no.1 h1) | exact absurd rfl h1 | (rcases h1 with h2 | h2 <;> first | omega | exact absurd rfl (eqD_no.1 h2) | exact absurd rfl h2))))
theorem s5 : (CtrOK Try.prog 5 (.gen .ps C5) ∧ Callable Try.prog 5) := by
  refine gen_ok (E := E5) (mkE_cons s9 (mkE_cons s11r (mkE_cons s14 (mkE_cons s15 (mkE_cons s20 (mkE_cons s21 (mkE_cons s22 (mkE_cons s23 (mkE_cons s24r (mkE_nil tab_ok)))))))))) mix (O := O5) (C := C5) (own := .ps) Try.func5 rfl (by rfl) (by kernel_rfl) (fun args K h hbd => ?_)
  unfold C5 at h; split at h
  case h_2 => exact h.elim
  exact ⟨Nat.le_of_ble_eq_true rfl, a5 _ _ (by exact hbd) _ h⟩
noncomputable def c6 (s : Sto) (c : Chg) (K : AV → List AV → Prop) : Prop :=
    Obl ((∀ x ∈ s.items, bdN x.node) ∧ bdN c.node) (K (.bool true) [])
noncomputable def C6 : List AV → (AV → List AV → Prop) → Prop
  | [.st [.ps .item s_0, .int .i64 s_1], .st [.str c_0, .bool c_1, .int .i64 c_2_0, .int .i64 c_2_1, .str c_2_2, .ps .str c_2_3, .ps .node c_2_4]], K => c6 ⟨s_0, s_1⟩ ⟨c_0, c_1, ⟨c_2_0, c_2_1, c_2_2, c_2_3, c_2_4⟩⟩ K
  | _, _ => False
noncomputable def E6 : Ctx := mkE tab [(20, .pure F20), (21, .gen .ln C21), (22, .pure F22), (25, .gen .ps C25), (26, .gen .ps C26), (27, .gen .ps C27), (28, .gen .ow C28r), (29, .gen .ow C29r), (30, .gen .ln C30r), (31, .pure F31), (32, .gen .ln C32)]
noncomputable def O6 : Nat → List DI := ordL [(8, [.q 0, .q 2, .l 1 [2], .l 3 [], .l 4 [], .q 5, .q 6, .q 7, .a 8, .l 9 [], .q 10]), (14, [.q 0, .q 1, .l 2 [0], .q 3, .q 4]), (16, [.q 0, .q 1, .l 2 [0], .q 3, .q 4]), (31, [.q 0, .q 2, .l 1 [2], .l 3 [], .l 4 [], .q 5, .q 6, .q 7, .a 8, .l 9 [], .q 10])]
theorem a6 (s : Sto) (c : Chg) (hb : BdAs [.st (stC s), .st (chC c)]) (K : AV → List AV → Prop) (h : c6 s c K) : abody E6 O6 .ps Try.f6 (Try.f6.body.getD .skip) [.st (stC s), .st (chC c)] K := by
  simp only [BdAs, BdA, BdL, BdC, MX, ndC, shC, itC, stC, opC, chC, nwC, flC, rqC, rsC, enc, List.cons_append, List.nil_append, and_true, true_and] at hb
  unfold c6 at h
  obtain ⟨b, g, ⟨n1, n2, n3, n4, n5⟩⟩ := c
  obtain ⟨⟨h1, h2⟩, hK⟩ := h
  have e3 := totN_eq ⟨n1, n2, n3, n4, n5⟩
  dsimp only at e3 h2
  have hl := tot_opt (r := applyCM s ⟨b, g, ⟨n1, n2, n3, n4, n5⟩⟩) fun t h => (applyCM_ok h).2.1
  have e1 := heIs_mk ((applyCM s ⟨b, g, ⟨n1, n2, n3, n4, n5⟩⟩).getD ⟨[], 0⟩).items 1 (by omega)
  have e2 := totIs_mk ((applyCM s ⟨b, g, ⟨n1, n2, n3, n4, n5⟩⟩).getD ⟨[], 0⟩).items 1
  conv => whnf
  repeat' first|((first|refine Cnd.mk (fun h=>?_) (fun h=>?_)|refine Gd.mk (fun h=>?_))<;>(try simp [etas,elDef,-List.getD_eq_getElem?_getD] at h)<;>conv=>whnf)|((first|refine Obl.mk (by first|omega|rfl|exact inK_byte _|(simp only [inK,Int.toNat_natCast,etas,elDef,o22]<;>first|omega|grind)|grind [inK,o22]) ?_|refine OblG.mk (by ((conv=>whnf);(repeat (first|refine Bx.mk ?_|(intro h;(try simp [etas,elDef,-List.getD_eq_getElem?_getD] at h);conv=>whnf)));(first|omega|rfl|exact inK_byte _|(simp only [inK,Int.toNat_natCast,etas,elDef,o22]<;>first|omega|grind)|grind [inK,o22]))) ?_|refine And.intro ?_ ?_)<;>conv=>whnf)|exact True.intro|(intro;conv=>whnf)
  all_goals first
    | exact hK
    | (exfalso; (first | omega | exact absurd rfl (eqD_no.1 h) | exact absurd rfl h | (rcases h with h1 | h1 <;> first | omega | exact absurd rfl (eqD_no.1 h1) | exact absurd rfl h1 | (rcases h1 with h2 | h2 <;> first | omega | exact absurd rfl (eqD_no.1 h2) | exact absurd rfl h2))))
theorem s6 : (CtrOK Try.prog 6 (.gen .ps C6) ∧ Callable Try.prog 6) := by
  refine gen_ok (E := E6) (mkE_cons s20 (mkE_cons s21 (mkE_cons s22 (mkE_cons s25 (mkE_cons s26 (mkE_cons s27 (mkE_cons s28r (mkE_cons s29r (mkE_cons s30r (mkE_cons s31 (mkE_cons s32 (mkE_nil tab_ok)))))))))))) mix (O := O6) (C := C6) (own := .ps) Try.func6 rfl (by rfl) (by kernel_rfl) (fun args K h hbd => ?_)
  unfold C6 at h; split at h
  case h_2 => exact h.elim
  exact ⟨Nat.le_of_ble_eq_true rfl, a6 ⟨_, _⟩ ⟨_, _, ⟨_, _, _, _, _⟩⟩ (by exact hbd) _ h⟩
end Go.Rs

