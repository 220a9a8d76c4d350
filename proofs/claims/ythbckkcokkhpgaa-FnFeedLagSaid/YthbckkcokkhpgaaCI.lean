import Derived.Test.YthbckkcokkhpgaaCG
import Derived.Test.YthbckkcokkhpgaaM7
import Derived.Test.YthbckkcokkhpgaaDelC
set_option linter.all false
namespace Go.Rs
open Go.Proofs
set_option maxRecDepth 100000
set_option linter.unusedVariables false
set_option linter.unusedSimpArgs false
noncomputable def c69 (l : List It) (i : Int) (v : List It) (K : AV → List AV → Prop) : Prop :=
    Obl ((0 ≤ i ∧ i ≤ l.length) ∧ v.length = 1 ∧ l.length ≤ 2097152) (K (.own .item (l.take i.toNat ++ v ++ l.drop i.toNat)) [])
noncomputable def C69 : List AV → (AV → List AV → Prop) → Prop
  | [.own .item l, .int .i64 i, .own .item v], K => c69 l i v K
  | _, _ => False
theorem s69 : CtrOK Try.prog 69 (.gen .ow C69) ∧ Callable Try.prog 69 := by
  refine ⟨fun args K h => ?_, callable Try.func69 (by kernel_rfl) (by kernel_rfl)⟩
  unfold C69 at h
  split at h
  case h_2 => exact h.elim
  unfold c69 at h
  obtain ⟨h1, h2⟩ := h
  exact insert_snd h1.1 h1.2.1 h1.2.2 h2
noncomputable def c54 (l : List It) (i : Int) (j : Int) (K : AV → List AV → Prop) : Prop :=
    Obl (0 ≤ i ∧ j = i + 1 ∧ j ≤ l.length ∧ l.length ≤ 2097152) (K (.own .item (l.eraseIdx i.toNat)) [])
noncomputable def C54 : List AV → (AV → List AV → Prop) → Prop
  | [.own .item l, .int .i64 i, .int .i64 j], K => c54 l i j K
  | _, _ => False
theorem s54 : CtrOK Try.prog 54 (.gen .ow C54) ∧ Callable Try.prog 54 := by
  refine ⟨fun args K h => ?_, callable Try.func54 (by kernel_rfl) (by kernel_rfl)⟩
  unfold C54 at h
  split at h
  case h_2 => exact h.elim
  unfold c54 at h
  obtain ⟨h1, h2⟩ := h
  exact delete_snd h1.1 h1.2.1 h1.2.2.1 h1.2.2.2 h2
noncomputable def c55 (l : List It) (a : Bs) (v : Int) (kd : Int) (m : Int) (t : Bs) (ns : List Bs) (ks : List Nd) (K : AV → List AV → Prop) : Prop :=
    Obl (sortedI l ∧ l.length ≤ 2097152) (K (.own .item (putL l ⟨a, v, ⟨kd, m, t, ns, ks⟩⟩)) [])
noncomputable def C55 : List AV → (AV → List AV → Prop) → Prop
  | [.own .item l, .st [.str a, .int .i64 v, .int .i64 kd, .int .i64 m, .str t, .own .str ns, .own .node ks]], K => c55 l a v kd m t ns ks K
  | _, _ => False
noncomputable def E55 : Ctx := mkE tab [(30, .pure F30), (69, .gen .ow C69)]
noncomputable def O55 : Nat → List DI := ordL []
theorem a55 (l : List It) (a : Bs) (v : Int) (kd : Int) (m : Int) (t : Bs) (ns : List Bs) (ks : List Nd) (hb : BdAs [.own .item l, .st [.str a, .int .i64 v, .int .i64 kd, .int .i64 m, .str t, .own .str ns, .own .node ks]]) (K : AV → List AV → Prop) (h : c55 l a v kd m t ns ks K) : abody E55 O55 .ow Try.f55 (Try.f55.body.getD .skip) [.own .item l, .st [.str a, .int .i64 v, .int .i64 kd, .int .i64 m, .str t, .own .str ns, .own .node ks]] K := by
  simp only [BdAs, BdA, BdL, BdC, MX, ndC, shC, itC, stC, opC, chC, nwC, flC, rqC, rsC, enc, List.cons_append, List.nil_append, and_true, true_and] at hb
  unfold c55 at h
  obtain ⟨it, eit⟩ : ∃ it : It, it = ⟨a, v, ⟨kd, m, t, ns, ks⟩⟩ := ⟨_, rfl⟩
  have en : a = it.name := by rw [eit]
  rw [← eit] at h
  obtain ⟨⟨ho, hl⟩, hK⟩ := h
  have hle := lbI_le l it.name
  have hfl : foundI l it.name = true → lbI l it.name < l.length := fun h => by simp only [foundI, Bool.and_eq_true, decide_eq_true_eq] at h; exact h.1
  have hp1 := fun h => putL_found (it := it) (ascI_sorted.2 ho) h
  have hp2 := fun h => putL_new (it := it) (ascI_sorted.2 ho) h
  subst en
  conv => whnf
  repeat' first
    | (refine Cnd.mk (fun h => ?_) (fun h => ?_) <;> (try simp [nd_eta, sh_eta, it_eta, sto_eta, op_eta, ch_eta, nw_eta, fl_eta, rq_eta, rs_eta, elDef, -List.getD_eq_getElem?_getD] at h) <;> conv => whnf)
    | (refine Obl.mk (by first | omega | rfl | exact inK_byte _ | (simp only [inK, Int.toNat_natCast, nd_eta, sh_eta, it_eta, sto_eta, op_eta, ch_eta, nw_eta, fl_eta, rq_eta, rs_eta, elDef, o30] <;> first | omega | grind) | grind [inK, o30]) ?_ <;> conv => whnf)
    | (refine OblG.mk (by conv => whnf
                          repeat (first | (refine Bx.mk ?_) | (intro h; (try simp [nd_eta, sh_eta, it_eta, sto_eta, op_eta, ch_eta, nw_eta, fl_eta, rq_eta, rs_eta, elDef, -List.getD_eq_getElem?_getD] at h); conv => whnf))
                          first | omega | rfl | exact inK_byte _ | (simp only [inK, Int.toNat_natCast, nd_eta, sh_eta, it_eta, sto_eta, op_eta, ch_eta, nw_eta, fl_eta, rq_eta, rs_eta, elDef, o30] <;> first | omega | grind) | grind [inK, o30]) ?_ <;> conv => whnf)
    | (refine Gd.mk (fun h => ?_) <;> (try simp [nd_eta, sh_eta, it_eta, sto_eta, op_eta, ch_eta, nw_eta, fl_eta, rq_eta, rs_eta, elDef, -List.getD_eq_getElem?_getD] at h) <;> conv => whnf)
    | (refine And.intro ?_ ?_ <;> conv => whnf)
    | exact True.intro
    | (intro; conv => whnf)
  · exact leafV hK (by rw [hp1 h]; (try simp only [nd_eta, sh_eta, it_eta, sto_eta, op_eta, ch_eta, nw_eta, fl_eta, rq_eta, rs_eta, elDef, Int.toNat_natCast]); (first | done | rfl | simp [optS, stC]); rw [← eit])
  · exact leafV hK (by rw [hp2 h]; (try simp only [nd_eta, sh_eta, it_eta, sto_eta, op_eta, ch_eta, nw_eta, fl_eta, rq_eta, rs_eta, elDef, Int.toNat_natCast]); (first | done | rfl | simp [optS, stC]); rw [← eit])
theorem s55 : (CtrOK Try.prog 55 (.gen .ow C55) ∧ Callable Try.prog 55) := by
  refine gen_ok (E := E55) (mkE_cons s30 (mkE_cons s69 (mkE_nil tab_ok))) mix (O := O55) (C := C55) (own := .ow) Try.func55 rfl (by rfl) (by kernel_rfl) (fun args K h hbd => ?_)
  unfold C55 at h; split at h
  case h_2 => exact h.elim
  exact ⟨Nat.le_of_ble_eq_true rfl, a55 _ _ _ _ _ _ _ _ (by exact hbd) _ h⟩
noncomputable def c37 (s : Sto) (b : Bs) (n : Nd) (K : AV → List AV → Prop) : Prop :=
    K (optS (putItemM s b n)) []
noncomputable def C37 : List AV → (AV → List AV → Prop) → Prop
  | [.st [.ps .item s_0, .int .i64 s_1], .str b, .st [.int .i64 n_0, .int .i64 n_1, .str n_2, .ps .str n_3, .ps .node n_4]], K => c37 ⟨s_0, s_1⟩ b ⟨n_0, n_1, n_2, n_3, n_4⟩ K
  | _, _ => False
noncomputable def E37 : Ctx := mkE tab [(29, .pure F29), (44, .gen .ow C44), (45, .pure F45), (46, .pure F46), (50, .gen .ow C50), (55, .gen .ow C55)]
noncomputable def O37 : Nat → List DI := ordL [(5, [.q 0, .q 1, .q 2, .q 3, .q 4, .q 5, .l 6 [1, 4], .q 7, .l 8 [], .q 9, .l 10 []])]
theorem a37 (s : Sto) (b : Bs) (n : Nd) (hb : BdAs [.st (stC s), .str b, .st (ndC n)]) (K : AV → List AV → Prop) (h : c37 s b n K) : abody E37 O37 .ps Try.f37 (Try.f37.body.getD .skip) [.st (stC s), .str b, .st (ndC n)] K := by
  simp only [BdAs, BdA, BdL, BdC, MX, ndC, shC, itC, stC, opC, chC, nwC, flC, rqC, rsC, enc, List.cons_append, List.nil_append, and_true, true_and] at hb
  unfold c37 at h
  have hK := h
  have h9 : storeM s = true → smS s ∧ sortedI s.items := fun h => ⟨storeM_sm h, storeM_sorted h⟩
  have h8 : storeM s = true → 0 ≤ s.clock ∧ s.clock ≤ 999 ∧ s.items.length ≤ 10 := storeM_clock
  have h7 : validM n = true → smN n := validM_sm
  conv => whnf
  repeat' first
    | (refine Cnd.mk (fun h => ?_) (fun h => ?_) <;> (try simp [nd_eta, sh_eta, it_eta, sto_eta, op_eta, ch_eta, nw_eta, fl_eta, rq_eta, rs_eta, elDef, -List.getD_eq_getElem?_getD] at h) <;> conv => whnf)
    | (refine Obl.mk (by first | omega | rfl | exact inK_byte _ | (simp only [inK, Int.toNat_natCast, nd_eta, sh_eta, it_eta, sto_eta, op_eta, ch_eta, nw_eta, fl_eta, rq_eta, rs_eta, elDef, m50] <;> first | omega | grind) | grind [inK, m50]) ?_ <;> conv => whnf)
    | (refine OblG.mk (by conv => whnf
                          repeat (first | (refine Bx.mk ?_) | (intro h; (try simp [nd_eta, sh_eta, it_eta, sto_eta, op_eta, ch_eta, nw_eta, fl_eta, rq_eta, rs_eta, elDef, -List.getD_eq_getElem?_getD] at h); conv => whnf))
                          first | omega | rfl | exact inK_byte _ | (simp only [inK, Int.toNat_natCast, nd_eta, sh_eta, it_eta, sto_eta, op_eta, ch_eta, nw_eta, fl_eta, rq_eta, rs_eta, elDef, m50] <;> first | omega | grind) | grind [inK, m50]) ?_ <;> conv => whnf)
    | (refine Gd.mk (fun h => ?_) <;> (try simp [nd_eta, sh_eta, it_eta, sto_eta, op_eta, ch_eta, nw_eta, fl_eta, rq_eta, rs_eta, elDef, -List.getD_eq_getElem?_getD] at h) <;> conv => whnf)
    | (refine And.intro ?_ ?_ <;> conv => whnf)
    | exact True.intro
    | (intro; conv => whnf)
  · have e : putItemM s b n = none := by grind [putItemM]
    exact leafV hK (by rw [e]; (try simp only [nd_eta, sh_eta, it_eta, sto_eta, op_eta, ch_eta, nw_eta, fl_eta, rq_eta, rs_eta, elDef, Int.toNat_natCast]); (first | done | rfl | simp [optS, stC]))
  · have e : putItemM s b n = none := by grind [putItemM, putS]
    exact leafV hK (by rw [e]; (try simp only [nd_eta, sh_eta, it_eta, sto_eta, op_eta, ch_eta, nw_eta, fl_eta, rq_eta, rs_eta, elDef, Int.toNat_natCast]); (first | done | rfl | simp [optS, stC]))
  · have e : putItemM s b n = some (putS s b n) := by grind [putItemM, putS]
    exact leafV hK (by rw [e]; (try simp only [nd_eta, sh_eta, it_eta, sto_eta, op_eta, ch_eta, nw_eta, fl_eta, rq_eta, rs_eta, elDef, Int.toNat_natCast]); (first | done | rfl | simp [optS, stC]))
theorem s37 : (CtrOK Try.prog 37 (.gen .ps C37) ∧ Callable Try.prog 37) := by
  refine gen_ok (E := E37) (mkE_cons s29 (mkE_cons s44 (mkE_cons s45 (mkE_cons s46 (mkE_cons s50 (mkE_cons s55 (mkE_nil tab_ok))))))) mix (O := O37) (C := C37) (own := .ps) Try.func37 rfl (by rfl) (by kernel_rfl) (fun args K h hbd => ?_)
  unfold C37 at h; split at h
  case h_2 => exact h.elim
  exact ⟨Nat.le_of_ble_eq_true rfl, a37 ⟨_, _⟩ _ ⟨_, _, _, _, _⟩ (by exact hbd) _ h⟩
noncomputable def c36 (s : Sto) (b : Bs) (K : AV → List AV → Prop) : Prop :=
    K (optS (dropItemM s b)) []
noncomputable def C36 : List AV → (AV → List AV → Prop) → Prop
  | [.st [.ps .item s_0, .int .i64 s_1], .str b], K => c36 ⟨s_0, s_1⟩ b K
  | _, _ => False
noncomputable def E36 : Ctx := mkE tab [(29, .pure F29), (30, .pure F30), (44, .gen .ow C44), (54, .gen .ow C54)]
noncomputable def O36 : Nat → List DI := ordL []
theorem a36 (s : Sto) (b : Bs) (hb : BdAs [.st (stC s), .str b]) (K : AV → List AV → Prop) (h : c36 s b K) : abody E36 O36 .ps Try.f36 (Try.f36.body.getD .skip) [.st (stC s), .str b] K := by
  simp only [BdAs, BdA, BdL, BdC, MX, ndC, shC, itC, stC, opC, chC, nwC, flC, rqC, rsC, enc, List.cons_append, List.nil_append, and_true, true_and] at hb
  unfold c36 at h
  have hK := h
  have h9 : storeM s = true → smS s ∧ sortedI s.items := fun h => ⟨storeM_sm h, storeM_sorted h⟩
  have h8 : storeM s = true → 0 ≤ s.clock ∧ s.clock ≤ 999 ∧ s.items.length ≤ 10 := storeM_clock
  have hfl : foundI s.items b = true → lbI s.items b < s.items.length := fun h => by simp only [foundI, Bool.and_eq_true, decide_eq_true_eq] at h; exact h.1
  conv => whnf
  repeat' first
    | (refine Cnd.mk (fun h => ?_) (fun h => ?_) <;> (try simp [nd_eta, sh_eta, it_eta, sto_eta, op_eta, ch_eta, nw_eta, fl_eta, rq_eta, rs_eta, elDef, -List.getD_eq_getElem?_getD] at h) <;> conv => whnf)
    | (refine Obl.mk (by first | omega | rfl | exact inK_byte _ | (simp only [inK, Int.toNat_natCast, nd_eta, sh_eta, it_eta, sto_eta, op_eta, ch_eta, nw_eta, fl_eta, rq_eta, rs_eta, elDef, o30] <;> first | omega | grind) | grind [inK, o30]) ?_ <;> conv => whnf)
    | (refine OblG.mk (by conv => whnf
                          repeat (first | (refine Bx.mk ?_) | (intro h; (try simp [nd_eta, sh_eta, it_eta, sto_eta, op_eta, ch_eta, nw_eta, fl_eta, rq_eta, rs_eta, elDef, -List.getD_eq_getElem?_getD] at h); conv => whnf))
                          first | omega | rfl | exact inK_byte _ | (simp only [inK, Int.toNat_natCast, nd_eta, sh_eta, it_eta, sto_eta, op_eta, ch_eta, nw_eta, fl_eta, rq_eta, rs_eta, elDef, o30] <;> first | omega | grind) | grind [inK, o30]) ?_ <;> conv => whnf)
    | (refine Gd.mk (fun h => ?_) <;> (try simp [nd_eta, sh_eta, it_eta, sto_eta, op_eta, ch_eta, nw_eta, fl_eta, rq_eta, rs_eta, elDef, -List.getD_eq_getElem?_getD] at h) <;> conv => whnf)
    | (refine And.intro ?_ ?_ <;> conv => whnf)
    | exact True.intro
    | (intro; conv => whnf)
  · have e : dropItemM s b = none := by grind [dropItemM]
    exact leafV hK (by rw [e]; (try simp only [nd_eta, sh_eta, it_eta, sto_eta, op_eta, ch_eta, nw_eta, fl_eta, rq_eta, rs_eta, elDef, Int.toNat_natCast]); (first | done | rfl | simp [optS, stC]))
  · have e1 := findI_new (ascI_sorted.2 (h9 (by assumption : _ ∧ _).1).2) h
    have e : dropItemM s b = none := by grind [dropItemM]
    exact leafV hK (by rw [e]; (try simp only [nd_eta, sh_eta, it_eta, sto_eta, op_eta, ch_eta, nw_eta, fl_eta, rq_eta, rs_eta, elDef, Int.toNat_natCast]); (first | done | rfl | simp [optS, stC]))
  · have e1 := findI_found h
    have e2 := dropL_found (ascI_sorted.2 (h9 (by assumption : _ ∧ _).1).2) h
    have e : dropItemM s b = some (dropS s b) := by grind [dropItemM]
    exact leafV hK (by rw [e, dropS, e2]; (try simp only [nd_eta, sh_eta, it_eta, sto_eta, op_eta, ch_eta, nw_eta, fl_eta, rq_eta, rs_eta, elDef, Int.toNat_natCast]); (first | done | rfl | simp [optS, stC]))
theorem s36 : (CtrOK Try.prog 36 (.gen .ps C36) ∧ Callable Try.prog 36) := by
  refine gen_ok (E := E36) (mkE_cons s29 (mkE_cons s30 (mkE_cons s44 (mkE_cons s54 (mkE_nil tab_ok))))) mix (O := O36) (C := C36) (own := .ps) Try.func36 rfl (by rfl) (by kernel_rfl) (fun args K h hbd => ?_)
  unfold C36 at h; split at h
  case h_2 => exact h.elim
  exact ⟨Nat.le_of_ble_eq_true rfl, a36 ⟨_, _⟩ _ (by exact hbd) _ h⟩
noncomputable def c19 (s : Sto) (c : Chg) (K : AV → List AV → Prop) : Prop :=
    K (optS (applyCM s c)) []
noncomputable def C19 : List AV → (AV → List AV → Prop) → Prop
  | [.st [.ps .item s_0, .int .i64 s_1], .st [.str c_0, .bool c_1, .int .i64 c_2_0, .int .i64 c_2_1, .str c_2_2, .ps .str c_2_3, .ps .node c_2_4]], K => c19 ⟨s_0, s_1⟩ ⟨c_0, c_1, ⟨c_2_0, c_2_1, c_2_2, c_2_3, c_2_4⟩⟩ K
  | _, _ => False
noncomputable def E19 : Ctx := mkE tab [(29, .pure F29), (35, .pure F35), (36, .gen .ps C36), (37, .gen .ps C37)]
noncomputable def O19 : Nat → List DI := ordL []
theorem a19 (s : Sto) (c : Chg) (hb : BdAs [.st (stC s), .st (chC c)]) (K : AV → List AV → Prop) (h : c19 s c K) : abody E19 O19 .ps Try.f19 (Try.f19.body.getD .skip) [.st (stC s), .st (chC c)] K := by
  simp only [BdAs, BdA, BdL, BdC, MX, ndC, shC, itC, stC, opC, chC, nwC, flC, rqC, rsC, enc, List.cons_append, List.nil_append, and_true, true_and] at hb
  unfold c19 at h
  have hK := h
  conv => whnf
  repeat' first
    | (refine Cnd.mk (fun h => ?_) (fun h => ?_) <;> (try simp [nd_eta, sh_eta, it_eta, sto_eta, op_eta, ch_eta, nw_eta, fl_eta, rq_eta, rs_eta, elDef, -List.getD_eq_getElem?_getD] at h) <;> conv => whnf)
    | (refine Obl.mk (by first | omega | rfl | exact inK_byte _ | (simp only [inK, Int.toNat_natCast, nd_eta, sh_eta, it_eta, sto_eta, op_eta, ch_eta, nw_eta, fl_eta, rq_eta, rs_eta, elDef] <;> first | omega | grind) | grind [inK]) ?_ <;> conv => whnf)
    | (refine OblG.mk (by conv => whnf
                          repeat (first | (refine Bx.mk ?_) | (intro h; (try simp [nd_eta, sh_eta, it_eta, sto_eta, op_eta, ch_eta, nw_eta, fl_eta, rq_eta, rs_eta, elDef, -List.getD_eq_getElem?_getD] at h); conv => whnf))
                          first | omega | rfl | exact inK_byte _ | (simp only [inK, Int.toNat_natCast, nd_eta, sh_eta, it_eta, sto_eta, op_eta, ch_eta, nw_eta, fl_eta, rq_eta, rs_eta, elDef] <;> first | omega | grind) | grind [inK]) ?_ <;> conv => whnf)
    | (refine Gd.mk (fun h => ?_) <;> (try simp [nd_eta, sh_eta, it_eta, sto_eta, op_eta, ch_eta, nw_eta, fl_eta, rq_eta, rs_eta, elDef, -List.getD_eq_getElem?_getD] at h) <;> conv => whnf)
    | (refine And.intro ?_ ?_ <;> conv => whnf)
    | exact True.intro
    | (intro; conv => whnf)
  · have e : applyCM s c = none := by grind [applyCM]
    exact leafV hK (by rw [e]; (try simp only [nd_eta, sh_eta, it_eta, sto_eta, op_eta, ch_eta, nw_eta, fl_eta, rq_eta, rs_eta, elDef, Int.toNat_natCast]); (first | done | rfl | simp [optS, stC]))
  · have e : applyCM s c = dropItemM s c.name := by grind [applyCM, applyM]
    exact leafV hK (by rw [e]; (try simp only [nd_eta, sh_eta, it_eta, sto_eta, op_eta, ch_eta, nw_eta, fl_eta, rq_eta, rs_eta, elDef, Int.toNat_natCast]); (first | done | rfl | simp [optS, stC]))
  · have e : applyCM s c = putItemM s c.name c.node := by grind [applyCM, applyM]
    exact leafV hK (by rw [e]; (try simp only [nd_eta, sh_eta, it_eta, sto_eta, op_eta, ch_eta, nw_eta, fl_eta, rq_eta, rs_eta, elDef, Int.toNat_natCast]); (first | done | rfl | simp [optS, stC]))
theorem s19 : (CtrOK Try.prog 19 (.gen .ps C19) ∧ Callable Try.prog 19) := by
  refine gen_ok (E := E19) (mkE_cons s29 (mkE_cons s35 (mkE_cons s36 (mkE_cons s37 (mkE_nil tab_ok))))) mix (O := O19) (C := C19) (own := .ps) Try.func19 rfl (by rfl) (by kernel_rfl) (fun args K h hbd => ?_)
  unfold C19 at h; split at h
  case h_2 => exact h.elim
  exact ⟨Nat.le_of_ble_eq_true rfl, a19 ⟨_, _⟩ ⟨_, _, ⟨_, _, _, _, _⟩⟩ (by exact hbd) _ h⟩
noncomputable def c28 (l : List Chg) (v : Int) (K : AV → List AV → Prop) : Prop :=
    Obl (0 ≤ v ∧ v ≤ l.length) (K (optS (stoAtM l v)) [])
noncomputable def C28 : List AV → (AV → List AV → Prop) → Prop
  | [.ps .chg l, .int .i64 v], K => c28 l v K
  | _, _ => False
noncomputable def E28 : Ctx := mkE tab [(19, .gen .ps C19), (44, .gen .ow C44)]
noncomputable def O28 : Nat → List DI := ordL []
theorem a28 (l : List Chg) (v : Int) (hb : BdAs [.ps .chg l, .int .i64 v]) (K : AV → List AV → Prop) (h : c28 l v K) : abody E28 O28 .ps Try.f28 (Try.f28.body.getD .skip) [.ps .chg l, .int .i64 v] K := by
  simp only [BdAs, BdA, BdL, BdC, MX, ndC, shC, itC, stC, opC, chC, nwC, flC, rqC, rsC, enc, List.cons_append, List.nil_append, and_true, true_and] at hb
  unfold c28 at h
  obtain ⟨hv, hK⟩ := h
  have h00 : (replayM []).isSome = true := rfl
  have h01 := keptM_zero l v.toNat
  have h02 : stC ⟨[], 0⟩ = [.ps .item [], .int .i64 0] := rfl
  have h03 : (replayM []).getD ⟨[], 0⟩ = ⟨[], 0⟩ := rfl
  conv => whnf
  repeat' first
    | (refine Cnd.mk (fun h => ?_) (fun h => ?_) <;> (try simp [nd_eta, sh_eta, it_eta, sto_eta, op_eta, ch_eta, nw_eta, fl_eta, rq_eta, rs_eta, elDef, -List.getD_eq_getElem?_getD] at h) <;> conv => whnf)
    | (refine Obl.mk (by first | omega | rfl | exact inK_byte _ | (simp only [inK, Int.toNat_natCast, nd_eta, sh_eta, it_eta, sto_eta, op_eta, ch_eta, nw_eta, fl_eta, rq_eta, rs_eta, elDef] <;> first | omega | grind) | grind [inK]) ?_ <;> conv => whnf)
    | (refine OblG.mk (by conv => whnf
                          repeat (first | (refine Bx.mk ?_) | (intro h; (try simp [nd_eta, sh_eta, it_eta, sto_eta, op_eta, ch_eta, nw_eta, fl_eta, rq_eta, rs_eta, elDef, -List.getD_eq_getElem?_getD] at h); conv => whnf))
                          first | omega | rfl | exact inK_byte _ | (simp only [inK, Int.toNat_natCast, nd_eta, sh_eta, it_eta, sto_eta, op_eta, ch_eta, nw_eta, fl_eta, rq_eta, rs_eta, elDef] <;> first | omega | grind) | grind [inK]) ?_ <;> conv => whnf)
    | (refine Gd.mk (fun h => ?_) <;> (try simp [nd_eta, sh_eta, it_eta, sto_eta, op_eta, ch_eta, nw_eta, fl_eta, rq_eta, rs_eta, elDef, -List.getD_eq_getElem?_getD] at h) <;> conv => whnf)
    | (refine And.intro ?_ ?_ <;> conv => whnf)
    | exact True.intro
    | (intro; conv => whnf)
  · have e : stoAtM l v = none := by grind [stoAtM, logM]
    exact leafV hK (by rw [e]; (try simp only [nd_eta, sh_eta, it_eta, sto_eta, op_eta, ch_eta, nw_eta, fl_eta, rq_eta, rs_eta, elDef, Int.toNat_natCast]); (first | done | rfl | simp [optS, stC]))
  refine aloop_intro Nat (fun k => k ≤ l.length ∧ (replayM (l.take k)).isSome = true) (fun k => l.length - k) (fun k => [(18, .int .i64 k)]) (fun k => [(6, .box (stC ((replayM (l.take k)).getD ⟨[], 0⟩))), (7, .box (stC (keptM l v.toNat k)))]) [4] 0 [] [] ?_ ?_ (by exact sgOk_of (by rfl)) ?_
  · first | (simp; done) | (simp; assumption)
  · (conv => whnf); (repeat' (first | exact trivial | rfl | (refine nilEq ?_; first | rfl | (simp only [*]; done) | (simp [*]; done) | grind) | apply And.intro | ((first | refine intEq ?_ | refine boolEq ?_ | refine strEq ?_ | refine psEq ?_ | refine nilEq ?_ | refine arrEq ?_); (try simp only [Int.toNat_natCast, nd_eta, sh_eta, it_eta, sto_eta, op_eta, ch_eta, nw_eta, fl_eta, rq_eta, rs_eta, elDef]); first | done | omega | grind | (simp only [*]; done) | (simp [*]; done)))); (all_goals (conv => whnf)); (repeat' (first | exact trivial | rfl | (refine nilEq ?_; first | rfl | (simp only [*]; done) | (simp [*]; done) | grind) | apply And.intro | ((first | refine intEq ?_ | refine boolEq ?_ | refine strEq ?_ | refine psEq ?_ | refine nilEq ?_ | refine arrEq ?_); (try simp only [Int.toNat_natCast, nd_eta, sh_eta, it_eta, sto_eta, op_eta, ch_eta, nw_eta, fl_eta, rq_eta, rs_eta, elDef]); first | done | omega | grind | (simp only [*]; done) | (simp [*]; done)) | ((try simp only [Int.toNat_natCast, nd_eta, sh_eta, it_eta, sto_eta, op_eta, ch_eta, nw_eta, fl_eta, rq_eta, rs_eta, elDef]); first | done | omega | grind | (simp only [*]; done) | (simp [*]; done))))
  rintro i ⟨hi, hj⟩
  conv => whnf
  have htk := fun h => replayM_next (l := l) (i := i) h hj
  have h9 := fun h => applyCM_sm (s := (replayM (l.take i)).getD ⟨[], 0⟩) (c := l.getD i default) h
  have hks := keptM_succ (l := l) (v := v.toNat) (i := i)
  repeat' first
    | (refine Cnd.mk (fun h => ?_) (fun h => ?_) <;> (try simp [nd_eta, sh_eta, it_eta, sto_eta, op_eta, ch_eta, nw_eta, fl_eta, rq_eta, rs_eta, elDef, -List.getD_eq_getElem?_getD] at h) <;> conv => whnf)
    | (refine Obl.mk (by first | omega | rfl | exact inK_byte _ | (simp only [inK, Int.toNat_natCast, nd_eta, sh_eta, it_eta, sto_eta, op_eta, ch_eta, nw_eta, fl_eta, rq_eta, rs_eta, elDef] <;> first | omega | grind) | grind [inK]) ?_ <;> conv => whnf)
    | (refine OblG.mk (by conv => whnf
                          repeat (first | (refine Bx.mk ?_) | (intro h; (try simp [nd_eta, sh_eta, it_eta, sto_eta, op_eta, ch_eta, nw_eta, fl_eta, rq_eta, rs_eta, elDef, -List.getD_eq_getElem?_getD] at h); conv => whnf))
                          first | omega | rfl | exact inK_byte _ | (simp only [inK, Int.toNat_natCast, nd_eta, sh_eta, it_eta, sto_eta, op_eta, ch_eta, nw_eta, fl_eta, rq_eta, rs_eta, elDef] <;> first | omega | grind) | grind [inK]) ?_ <;> conv => whnf)
    | (refine Gd.mk (fun h => ?_) <;> (try simp [nd_eta, sh_eta, it_eta, sto_eta, op_eta, ch_eta, nw_eta, fl_eta, rq_eta, rs_eta, elDef, -List.getD_eq_getElem?_getD] at h) <;> conv => whnf)
    | (refine And.intro ?_ ?_ <;> conv => whnf)
    | exact True.intro
    | (intro; conv => whnf)
  · have e := replayM_none ((htk (by assumption)).trans h)
    have e : stoAtM l v = none := by grind [stoAtM, logM]
    exact leafV hK (by rw [e]; (try simp only [nd_eta, sh_eta, it_eta, sto_eta, op_eta, ch_eta, nw_eta, fl_eta, rq_eta, rs_eta, elDef, Int.toNat_natCast]); (first | done | rfl | simp [optS, stC]))
  · have e3 := htk (by assumption)
    rw [if_pos (by omega), e3] at hks
    exact ⟨i + 1, [], [39000], ⟨by omega, by rw [e3]; assumption⟩, by omega, by (conv => whnf); (repeat' (first | exact trivial | rfl | (refine nilEq ?_; first | rfl | (simp only [*]; done) | (simp [*]; done) | grind) | apply And.intro | ((first | refine intEq ?_ | refine boolEq ?_ | refine strEq ?_ | refine psEq ?_ | refine nilEq ?_ | refine arrEq ?_); (try simp only [Int.toNat_natCast, nd_eta, sh_eta, it_eta, sto_eta, op_eta, ch_eta, nw_eta, fl_eta, rq_eta, rs_eta, elDef]); first | rw [e3] | rw [hks]))); (all_goals (conv => whnf)); (repeat' (first | exact trivial | rfl | (refine nilEq ?_; first | rfl | (simp only [*]; done) | (simp [*]; done) | grind) | apply And.intro | ((first | refine intEq ?_ | refine boolEq ?_ | refine strEq ?_ | refine psEq ?_ | refine nilEq ?_ | refine arrEq ?_); (try simp only [Int.toNat_natCast, nd_eta, sh_eta, it_eta, sto_eta, op_eta, ch_eta, nw_eta, fl_eta, rq_eta, rs_eta, elDef]); first | rw [e3] | rw [hks]) | ((try simp only [Int.toNat_natCast, nd_eta, sh_eta, it_eta, sto_eta, op_eta, ch_eta, nw_eta, fl_eta, rq_eta, rs_eta, elDef]); first | rw [e3] | rw [hks]))), (by exact sgOk_of (by rfl))⟩
  · have e3 := htk (by assumption)
    rw [if_neg (by omega)] at hks
    exact ⟨i + 1, [], [], ⟨by omega, by rw [e3]; assumption⟩, by omega, by (conv => whnf); (repeat' (first | exact trivial | rfl | (refine nilEq ?_; first | rfl | (simp only [*]; done) | (simp [*]; done) | grind) | apply And.intro | ((first | refine intEq ?_ | refine boolEq ?_ | refine strEq ?_ | refine psEq ?_ | refine nilEq ?_ | refine arrEq ?_); (try simp only [Int.toNat_natCast, nd_eta, sh_eta, it_eta, sto_eta, op_eta, ch_eta, nw_eta, fl_eta, rq_eta, rs_eta, elDef]); first | rw [e3] | rw [hks]))); (all_goals (conv => whnf)); (repeat' (first | exact trivial | rfl | (refine nilEq ?_; first | rfl | (simp only [*]; done) | (simp [*]; done) | grind) | apply And.intro | ((first | refine intEq ?_ | refine boolEq ?_ | refine strEq ?_ | refine psEq ?_ | refine nilEq ?_ | refine arrEq ?_); (try simp only [Int.toNat_natCast, nd_eta, sh_eta, it_eta, sto_eta, op_eta, ch_eta, nw_eta, fl_eta, rq_eta, rs_eta, elDef]); first | rw [e3] | rw [hks]) | ((try simp only [Int.toNat_natCast, nd_eta, sh_eta, it_eta, sto_eta, op_eta, ch_eta, nw_eta, fl_eta, rq_eta, rs_eta, elDef]); first | rw [e3] | rw [hks]))), (by exact sgOk_of (by rfl))⟩
  · have e : i = l.length := by omega
    subst e
    rw [List.take_length] at hj
    have e : stoAtM l v = replayM (l.take v.toNat) := by grind [stoAtM, logM]
    have e2 := replay_take_isSome (i := v.toNat) hj
    exact leafV hK (by rw [e, keptM_end (by omega)]; simp only [optS, e2]; (try simp only [nd_eta, sh_eta, it_eta, sto_eta, op_eta, ch_eta, nw_eta, fl_eta, rq_eta, rs_eta, elDef, Int.toNat_natCast]); (first | done | rfl | simp [optS, stC]))
theorem s28 : (CtrOK Try.prog 28 (.gen .ps C28) ∧ Callable Try.prog 28) := by
  refine gen_ok (E := E28) (mkE_cons s19 (mkE_cons s44 (mkE_nil tab_ok))) mix (O := O28) (C := C28) (own := .ps) Try.func28 rfl (by rfl) (by kernel_rfl) (fun args K h hbd => ?_)
  unfold C28 at h; split at h
  case h_2 => exact h.elim
  exact ⟨Nat.le_of_ble_eq_true rfl, a28 _ _ (by exact hbd) _ h⟩
noncomputable def c13 (l : List Chg) (K : AV → List AV → Prop) : Prop :=
    K (optS (logM l)) []
noncomputable def C13 : List AV → (AV → List AV → Prop) → Prop
  | [.ps .chg l], K => c13 l K
  | _, _ => False
noncomputable def E13 : Ctx := mkE tab [(28, .gen .ps C28)]
noncomputable def O13 : Nat → List DI := ordL []
theorem a13 (l : List Chg) (hb : BdAs [.ps .chg l]) (K : AV → List AV → Prop) (h : c13 l K) : abody E13 O13 .ps Try.f13 (Try.f13.body.getD .skip) [.ps .chg l] K := by
  simp only [BdAs, BdA, BdL, BdC, MX, ndC, shC, itC, stC, opC, chC, nwC, flC, rqC, rsC, enc, List.cons_append, List.nil_append, and_true, true_and] at hb
  unfold c13 at h
  have hK := h
  rw [← stoAt_len] at hK
  conv => whnf
  repeat' first
    | (refine Cnd.mk (fun h => ?_) (fun h => ?_) <;> (try simp [nd_eta, sh_eta, it_eta, sto_eta, op_eta, ch_eta, nw_eta, fl_eta, rq_eta, rs_eta, elDef, -List.getD_eq_getElem?_getD] at h) <;> conv => whnf)
    | (refine Obl.mk (by first | omega | rfl | exact inK_byte _ | (simp only [inK, Int.toNat_natCast, nd_eta, sh_eta, it_eta, sto_eta, op_eta, ch_eta, nw_eta, fl_eta, rq_eta, rs_eta, elDef] <;> first | omega | grind) | grind [inK]) ?_ <;> conv => whnf)
    | (refine OblG.mk (by conv => whnf
                          repeat (first | (refine Bx.mk ?_) | (intro h; (try simp [nd_eta, sh_eta, it_eta, sto_eta, op_eta, ch_eta, nw_eta, fl_eta, rq_eta, rs_eta, elDef, -List.getD_eq_getElem?_getD] at h); conv => whnf))
                          first | omega | rfl | exact inK_byte _ | (simp only [inK, Int.toNat_natCast, nd_eta, sh_eta, it_eta, sto_eta, op_eta, ch_eta, nw_eta, fl_eta, rq_eta, rs_eta, elDef] <;> first | omega | grind) | grind [inK]) ?_ <;> conv => whnf)
    | (refine Gd.mk (fun h => ?_) <;> (try simp [nd_eta, sh_eta, it_eta, sto_eta, op_eta, ch_eta, nw_eta, fl_eta, rq_eta, rs_eta, elDef, -List.getD_eq_getElem?_getD] at h) <;> conv => whnf)
    | (refine And.intro ?_ ?_ <;> conv => whnf)
    | exact True.intro
    | (intro; conv => whnf)
  exact leafV hK (by (try simp only [nd_eta, sh_eta, it_eta, sto_eta, op_eta, ch_eta, nw_eta, fl_eta, rq_eta, rs_eta, elDef, Int.toNat_natCast]); (first | done | rfl | simp [optS, stC]))
theorem s13 : (CtrOK Try.prog 13 (.gen .ps C13) ∧ Callable Try.prog 13) := by
  refine gen_ok (E := E13) (mkE_cons s28 (mkE_nil tab_ok)) mix (O := O13) (C := C13) (own := .ps) Try.func13 rfl (by rfl) (by kernel_rfl) (fun args K h hbd => ?_)
  unfold C13 at h; split at h
  case h_2 => exact h.elim
  exact ⟨Nat.le_of_ble_eq_true rfl, a13 _ (by exact hbd) _ h⟩
end Go.Rs

