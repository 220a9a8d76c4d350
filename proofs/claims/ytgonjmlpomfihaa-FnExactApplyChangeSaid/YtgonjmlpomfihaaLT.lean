import Derived.Test.YtgonjmlpomfihaaES
import Derived.Test.YtgonjmlpomfihaaLV
import Derived.Test.YtgonjmlpomfihaaMH
set_option linter.all false
set_option linter.unusedSimpArgs false
set_option linter.unusedVariables false
namespace Go.Rs
open Go.Proofs
set_option maxRecDepth 100000
theorem histV_len (l : List Chg) (b : Bs) : (histV l b).length ≤ l.length := by
  unfold histV
  split
  · have h := histM_len l b l.length
    rwa [List.take_of_length_le (Nat.le_refl _)] at h
  · simp
noncomputable def c3 (l : List Chg) (b : Bs) (K : AV → List AV → Prop) : Prop :=
    Obl (∀ x ∈ l, bdN x.node) (K (.bool true) [])
noncomputable def C3 : List AV → (AV → List AV → Prop) → Prop
  | [.ps .chg l, .str b], K => c3 l b K
  | _, _ => False
noncomputable def E3 : Ctx := mkE tab [(7, .gen .ps C7), (8, .gen .ps C8), (9, .gen .ow C9r), (10, .gen .ln C10r), (11, .pure F11), (12, .pure F12), (13, .gen .ln C13), (14, .gen .ln C14), (15, .pure F15)]
noncomputable def O3 : Nat → List DI := ordL []
theorem a3 (l : List Chg) (b : Bs) (hb : BdAs [.ps .chg l, .str b]) (K : AV → List AV → Prop) (h : c3 l b K) : abody E3 O3 .ps Try.f3 (Try.f3.body.getD .skip) [.ps .chg l, .str b] K := by
  simp only [BdAs, BdA, BdL, BdC, MX, ndC, shC, itC, stC, opC, chC, nwC, flC, rqC, rsC, enc, List.cons_append, List.nil_append, and_true, true_and] at hb
  unfold c3 at h
  obtain ⟨h1, hK⟩ := h
  have hl := histV_len l b
  have e1 := heI_mk (histV l b) 1
  have e2 := mkI_len (histV l b) 1
  conv => whnf
  repeat' first
    | (refine Cnd.mk (fun h => ?_) (fun h => ?_) <;> (try simp [etas, elDef, -List.getD_eq_getElem?_getD] at h) <;> conv => whnf)
    | (refine Obl.mk (by first | omega | rfl | exact inK_byte _ | (simp only [inK, Int.toNat_natCast, etas, elDef, o15] <;> first | omega | grind) | grind [inK, o15]) ?_ <;> conv => whnf)
    | (refine OblG.mk (by conv => whnf
                          repeat (first | (refine Bx.mk ?_) | (intro h; (try simp [etas, elDef, -List.getD_eq_getElem?_getD] at h); conv => whnf))
                          first | omega | rfl | exact inK_byte _ | (simp only [inK, Int.toNat_natCast, etas, elDef, o15] <;> first | omega | grind) | grind [inK, o15]) ?_ <;> conv => whnf)
    | (refine Gd.mk (fun h => ?_) <;> (try simp [etas, elDef, -List.getD_eq_getElem?_getD] at h) <;> conv => whnf)
    | (refine And.intro ?_ ?_ <;> conv => whnf)
    | exact True.intro
    | (intro; conv => whnf)
  all_goals first
    | exact hK
    | (exfalso; law_no h)
theorem s3 : (CtrOK Try.prog 3 (.gen .ps C3) ∧ Callable Try.prog 3) := by
  refine gen_ok (E := E3) (mkE_cons s7 (mkE_cons s8 (mkE_cons s9r (mkE_cons s10r (mkE_cons s11 (mkE_cons s12 (mkE_cons s13 (mkE_cons s14 (mkE_cons s15 (mkE_nil tab_ok)))))))))) mix (O := O3) (C := C3) (own := .ps) Try.func3 rfl (by rfl) (by kernel_rfl) (fun args K h hbd => ?_)
  unfold C3 at h; split at h
  case h_2 => exact h.elim
  exact ⟨Nat.le_of_ble_eq_true rfl, a3 _ _ (by exact hbd) _ h⟩
noncomputable def c4 (l : List Chg) (K : AV → List AV → Prop) : Prop :=
    Obl (∀ x ∈ l, bdN x.node) (K (.bool true) [])
noncomputable def E4 : Ctx := mkE tab [(7, .gen .ps C7), (9, .gen .ow C9r), (12, .pure F12), (13, .gen .ln C13), (16, .gen .ps C16), (17, .gen .ln C17r), (18, .pure F18), (19, .gen .ln C19), (20, .pure F20)]
noncomputable def O4 : Nat → List DI := ordL []
theorem a4 (l : List Chg) (hb : BdAs [.ps .chg l]) (K : AV → List AV → Prop) (h : c4 l K) : abody E4 O4 .ps Try.f4 (Try.f4.body.getD .skip) [.ps .chg l] K := by
  simp only [BdAs, BdA, BdL, BdC, MX, ndC, shC, itC, stC, opC, chC, nwC, flC, rqC, rsC, enc, List.cons_append, List.nil_append, and_true, true_and] at hb
  unfold c4 at h
  obtain ⟨h1, hK⟩ := h
  have hl := tot_opt (r := logM l) fun t h => logM_ok h
  have e1 := heIs_mk ((logM l).getD ⟨[], 0⟩).items 1 (by omega)
  have e2 := totIs_mk ((logM l).getD ⟨[], 0⟩).items 1
  conv => whnf
  repeat' first
    | (refine Cnd.mk (fun h => ?_) (fun h => ?_) <;> (try simp [etas, elDef, -List.getD_eq_getElem?_getD] at h) <;> conv => whnf)
    | (refine Obl.mk (by first | omega | rfl | exact inK_byte _ | (simp only [inK, Int.toNat_natCast, etas, elDef, o20] <;> first | omega | grind) | grind [inK, o20]) ?_ <;> conv => whnf)
    | (refine OblG.mk (by conv => whnf
                          repeat (first | (refine Bx.mk ?_) | (intro h; (try simp [etas, elDef, -List.getD_eq_getElem?_getD] at h); conv => whnf))
                          first | omega | rfl | exact inK_byte _ | (simp only [inK, Int.toNat_natCast, etas, elDef, o20] <;> first | omega | grind) | grind [inK, o20]) ?_ <;> conv => whnf)
    | (refine Gd.mk (fun h => ?_) <;> (try simp [etas, elDef, -List.getD_eq_getElem?_getD] at h) <;> conv => whnf)
    | (refine And.intro ?_ ?_ <;> conv => whnf)
    | exact True.intro
    | (intro; conv => whnf)
  all_goals first
    | exact hK
    | (exfalso; law_no h)
noncomputable def c5 (l : List Chg) (v : Int) (K : AV → List AV → Prop) : Prop :=
    Obl (∀ x ∈ l, bdN x.node) (K (.bool true) [])
noncomputable def E5 : Ctx := mkE tab [(7, .gen .ps C7), (9, .gen .ow C9r), (12, .pure F12), (13, .gen .ln C13), (18, .pure F18), (19, .gen .ln C19), (20, .pure F20), (21, .gen .ps C21), (22, .gen .ln C22r)]
noncomputable def O5 : Nat → List DI := ordL []
theorem a5 (l : List Chg) (v : Int) (hb : BdAs [.ps .chg l, .int .i64 v]) (K : AV → List AV → Prop) (h : c5 l v K) : abody E5 O5 .ps Try.f5 (Try.f5.body.getD .skip) [.ps .chg l, .int .i64 v] K := by
  simp only [BdAs, BdA, BdL, BdC, MX, ndC, shC, itC, stC, opC, chC, nwC, flC, rqC, rsC, enc, List.cons_append, List.nil_append, and_true, true_and] at hb
  unfold c5 at h
  obtain ⟨h1, hK⟩ := h
  have hl := tot_opt (r := stoAtM l v) fun t h => stoAtM_ok h
  have e1 := heIs_mk ((stoAtM l v).getD ⟨[], 0⟩).items 1 (by omega)
  have e2 := totIs_mk ((stoAtM l v).getD ⟨[], 0⟩).items 1
  conv => whnf
  repeat' first
    | (refine Cnd.mk (fun h => ?_) (fun h => ?_) <;> (try simp [etas, elDef, -List.getD_eq_getElem?_getD] at h) <;> conv => whnf)
    | (refine Obl.mk (by first | omega | rfl | exact inK_byte _ | (simp only [inK, Int.toNat_natCast, etas, elDef, o20] <;> first | omega | grind) | grind [inK, o20]) ?_ <;> conv => whnf)
    | (refine OblG.mk (by conv => whnf
                          repeat (first | (refine Bx.mk ?_) | (intro h; (try simp [etas, elDef, -List.getD_eq_getElem?_getD] at h); conv => whnf))
                          first | omega | rfl | exact inK_byte _ | (simp only [inK, Int.toNat_natCast, etas, elDef, o20] <;> first | omega | grind) | grind [inK, o20]) ?_ <;> conv => whnf)
    | (refine Gd.mk (fun h => ?_) <;> (try simp [etas, elDef, -List.getD_eq_getElem?_getD] at h) <;> conv => whnf)
    | (refine And.intro ?_ ?_ <;> conv => whnf)
    | exact True.intro
    | (intro; conv => whnf)
  all_goals first
    | exact hK
    | (exfalso; law_no h)
noncomputable def c6 (s : Sto) (c : Chg) (K : AV → List AV → Prop) : Prop :=
    Obl ((∀ x ∈ s.items, bdN x.node) ∧ bdN c.node) (K (.bool true) [])
noncomputable def C6 : List AV → (AV → List AV → Prop) → Prop
  | [.st [.ps .item s_0, .int .i64 s_1], .st [.str c_0, .bool c_1, .int .i64 c_2_0, .int .i64 c_2_1, .str c_2_2, .ps .str c_2_3, .ps .node c_2_4]], K => c6 ⟨s_0, s_1⟩ ⟨c_0, c_1, ⟨c_2_0, c_2_1, c_2_2, c_2_3, c_2_4⟩⟩ K
  | _, _ => False
noncomputable def E6 : Ctx := mkE tab [(18, .pure F18), (19, .gen .ln C19), (20, .pure F20), (23, .gen .ps C23), (24, .gen .ps C24), (25, .gen .ps C25), (26, .gen .ow C26r), (27, .gen .ow C27r), (28, .gen .ln C28r), (29, .pure F29), (30, .gen .ln C30)]
noncomputable def O6 : Nat → List DI := ordL [(8, [.q 0, .q 2, .l 1 [2], .l 3 [], .l 4 [], .q 5, .q 6, .q 7, .a 8, .l 9 [], .q 10]), (14, [.q 0, .q 1, .l 2 [0], .q 3, .q 4]), (16, [.q 0, .q 1, .l 2 [0], .q 3, .q 4]), (31, [.q 0, .q 2, .l 1 [2], .l 3 [], .l 4 [], .q 5, .q 6, .q 7, .a 8, .l 9 [], .q 10])]
theorem a6 (s : Sto) (c : Chg) (hb : BdAs [.st (stC s), .st (chC c)]) (K : AV → List AV → Prop) (h : c6 s c K) : abody E6 O6 .ps Try.f6 (Try.f6.body.getD .skip) [.st (stC s), .st (chC c)] K := by
  simp only [BdAs, BdA, BdL, BdC, MX, ndC, shC, itC, stC, opC, chC, nwC, flC, rqC, rsC, enc, List.cons_append, List.nil_append, and_true, true_and] at hb
  unfold c6 at h
  obtain ⟨b, g, ⟨n1, n2, n3, n4, n5⟩⟩ := c
  obtain ⟨⟨h1, h2⟩, hK⟩ := h
  have e3 := totN_eq ⟨n1, n2, n3, n4, n5⟩
  dsimp only at e3 h2
  have hl := tot_opt (r := applyCM s ⟨b, g, ⟨n1, n2, n3, n4, n5⟩⟩) fun t h => (applyCM_ok h).2.1
  have e1 := heIs_mk ((applyCM s ⟨b, g, ⟨n1, n2, n3, n4, n5⟩⟩).getD ⟨[], 0⟩).items 1 (by omega)
  have e2 := totIs_mk ((applyCM s ⟨b, g, ⟨n1, n2, n3, n4, n5⟩⟩).getD ⟨[], 0⟩).items 1
  conv => whnf
  repeat' first
    | (refine Cnd.mk (fun h => ?_) (fun h => ?_) <;> (try simp [etas, elDef, -List.getD_eq_getElem?_getD] at h) <;> conv => whnf)
    | (refine Obl.mk (by first | omega | rfl | exact inK_byte _ | (simp only [inK, Int.toNat_natCast, etas, elDef, o20] <;> first | omega | grind) | grind [inK, o20]) ?_ <;> conv => whnf)
    | (refine OblG.mk (by conv => whnf
                          repeat (first | (refine Bx.mk ?_) | (intro h; (try simp [etas, elDef, -List.getD_eq_getElem?_getD] at h); conv => whnf))
                          first | omega | rfl | exact inK_byte _ | (simp only [inK, Int.toNat_natCast, etas, elDef, o20] <;> first | omega | grind) | grind [inK, o20]) ?_ <;> conv => whnf)
    | (refine Gd.mk (fun h => ?_) <;> (try simp [etas, elDef, -List.getD_eq_getElem?_getD] at h) <;> conv => whnf)
    | (refine And.intro ?_ ?_ <;> conv => whnf)
    | exact True.intro
    | (intro; conv => whnf)
  all_goals first
    | exact hK
    | (exfalso; law_no h)
theorem s6 : (CtrOK Try.prog 6 (.gen .ps C6) ∧ Callable Try.prog 6) := by
  refine gen_ok (E := E6) (mkE_cons s18 (mkE_cons s19 (mkE_cons s20 (mkE_cons s23 (mkE_cons s24 (mkE_cons s25 (mkE_cons s26r (mkE_cons s27r (mkE_cons s28r (mkE_cons s29 (mkE_cons s30 (mkE_nil tab_ok)))))))))))) mix (O := O6) (C := C6) (own := .ps) Try.func6 rfl (by rfl) (by kernel_rfl) (fun args K h hbd => ?_)
  unfold C6 at h; split at h
  case h_2 => exact h.elim
  exact ⟨Nat.le_of_ble_eq_true rfl, a6 ⟨_, _⟩ ⟨_, _, ⟨_, _, _, _, _⟩⟩ (by exact hbd) _ h⟩
end Go.Rs

