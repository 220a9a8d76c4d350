import Derived.Test.YthbckkcokkhpgaaCM
set_option linter.all false
namespace Go.Rs
open Go.Proofs
set_option maxRecDepth 100000
set_option linter.unusedVariables false
set_option linter.unusedSimpArgs false
theorem eqD_refl {α : Type} (a : α) : eqD a a = true := eqD_iff.2 rfl
theorem stoAt_some {l : List Chg} {v : Int} (h : (stoAtM l v).isSome = true) : (logM l).isSome = true ∧ 0 ≤ v ∧ v ≤ l.length ∧ stoAtM l v = replayM (l.take v.toNat) := by
  unfold stoAtM at h ⊢
  split at h
  · rename_i h1; rw [if_pos h1]; exact ⟨h1.1, h1.2.1, h1.2.2, rfl⟩
  · cases h
theorem stoAt_all {l : List Chg} {v : Int} (h : (logM l).isSome = true) (h0 : 0 ≤ v) (h1 : v ≤ l.length) : stoAtM l v = replayM (l.take v.toNat) ∧ (replayM (l.take v.toNat)).isSome = true := by
  refine ⟨by unfold stoAtM; rw [if_pos ⟨h, h0, h1⟩], replay_take_isSome ?_⟩
  unfold logM at h
  split at h
  · exact h
  · cases h
theorem sto_at {l : List Chg} {v : Int} (h : (stoAtM l v).isSome = true) : ∃ s, stoAtM l v = some s ∧ storeM s = true ∧ s.clock = v := by
  obtain ⟨h1, h2, h3, h4⟩ := stoAt_some h
  obtain ⟨s, hs⟩ := Option.isSome_iff_exists.1 h
  have h5 := replayM_ok (h4.symm.trans hs)
  exact ⟨s, hs, h5.1, by rw [h5.2, List.length_take]; omega⟩
theorem sto_next {l : List Chg} {v : Int} {s : Sto} (h : stoAtM l v = some s) (hl : v < l.length) : applyCM s (l.getD v.toNat default) = stoAtM l (v + 1) ∧ (stoAtM l (v + 1)).isSome = true := by
  have hi : (stoAtM l v).isSome = true := by rw [h]; rfl
  obtain ⟨h1, h2, h3, h4⟩ := stoAt_some hi
  obtain ⟨s', e, hs, -⟩ := sto_at hi
  rw [h] at e
  cases e
  obtain ⟨h5, h6⟩ := stoAt_all (v := v + 1) h1 (by omega) (by omega)
  have e : (v + 1).toNat = v.toNat + 1 := by omega
  refine ⟨?_, by rw [h5]; exact h6⟩
  rw [h5, e, replayM_take (by omega), ← h4, h, applyCM_step hs]
noncomputable def c5 (code : List Int) (K : AV → List AV → Prop) : Prop :=
    Obl (byOk code) (K (.bool true) [])
noncomputable def C5 : List AV → (AV → List AV → Prop) → Prop
  | [.ps .u8 code], K => c5 code K
  | _, _ => False
noncomputable def E5 : Ctx := mkE tab [(13, .gen .ps C13), (15, .gen .ps C15), (16, .gen .ps C16), (17, .gen .ps C17), (18, .pure F18)]
noncomputable def O5 : Nat → List DI := ordL []
theorem a5 (code : List Int) (hb : BdAs [.ps .u8 code]) (K : AV → List AV → Prop) (h : c5 code K) : abody E5 O5 .ps Try.f5 (Try.f5.body.getD .skip) [.ps .u8 code] K := by
  simp only [BdAs, BdA, BdL, BdC, MX, ndC, shC, itC, stC, opC, chC, nwC, flC, rqC, rsC, enc, List.cons_append, List.nil_append, and_true, true_and] at hb
  unfold c5 at h
  obtain ⟨ho, hK⟩ := h
  conv => whnf
  repeat' first
    | (refine Cnd.mk (fun h => ?_) (fun h => ?_) <;> (try simp [nd_eta, sh_eta, it_eta, sto_eta, op_eta, ch_eta, nw_eta, fl_eta, rq_eta, rs_eta, elDef, -List.getD_eq_getElem?_getD] at h) <;> conv => whnf)
    | (refine Obl.mk (by first | omega | rfl | exact inK_byte _ | (simp only [inK, Int.toNat_natCast, nd_eta, sh_eta, it_eta, sto_eta, op_eta, ch_eta, nw_eta, fl_eta, rq_eta, rs_eta, elDef] <;> first | omega | grind) | grind [inK]) ?_ <;> conv => whnf)
    | (refine OblG.mk (by conv => whnf
                          repeat (first | (refine Bx.mk ?_) | (intro h; (try simp [nd_eta, sh_eta, it_eta, sto_eta, op_eta, ch_eta, nw_eta, fl_eta, rq_eta, rs_eta, elDef, -List.getD_eq_getElem?_getD] at h); conv => whnf))
                          first | omega | rfl | exact inK_byte _ | (simp only [inK, Int.toNat_natCast, nd_eta, sh_eta, it_eta, sto_eta, op_eta, ch_eta, nw_eta, fl_eta, rq_eta, rs_eta, elDef] <;> first | omega | grind) | grind [inK]) ?_ <;> conv => whnf)
    | (refine Gd.mk (fun h => ?_) <;> (try simp [nd_eta, sh_eta, it_eta, sto_eta, op_eta, ch_eta, nw_eta, fl_eta, rq_eta, rs_eta, elDef, -List.getD_eq_getElem?_getD] at h) <;> conv => whnf)
    | (refine And.intro ?_ ?_ <;> conv => whnf)
    | exact True.intro
    | (intro; conv => whnf)
  · exact hK
  · exact leafB hK (by simp [eqD_refl])
  rename_i l v hl
  obtain ⟨h1, h2, h3, h4⟩ := stoAt_some h.2
  obtain ⟨s, hs, -, hc⟩ := sto_at h.2
  repeat' first
    | (refine Cnd.mk (fun h => ?_) (fun h => ?_) <;> (try simp [nd_eta, sh_eta, it_eta, sto_eta, op_eta, ch_eta, nw_eta, fl_eta, rq_eta, rs_eta, elDef, -List.getD_eq_getElem?_getD] at h) <;> conv => whnf)
    | (refine Obl.mk (by first | omega | rfl | exact inK_byte _ | (simp only [inK, Int.toNat_natCast, nd_eta, sh_eta, it_eta, sto_eta, op_eta, ch_eta, nw_eta, fl_eta, rq_eta, rs_eta, elDef] <;> first | omega | grind) | grind [inK]) ?_ <;> conv => whnf)
    | (refine OblG.mk (by conv => whnf
                          repeat (first | (refine Bx.mk ?_) | (intro h; (try simp [nd_eta, sh_eta, it_eta, sto_eta, op_eta, ch_eta, nw_eta, fl_eta, rq_eta, rs_eta, elDef, -List.getD_eq_getElem?_getD] at h); conv => whnf))
                          first | omega | rfl | exact inK_byte _ | (simp only [inK, Int.toNat_natCast, nd_eta, sh_eta, it_eta, sto_eta, op_eta, ch_eta, nw_eta, fl_eta, rq_eta, rs_eta, elDef] <;> first | omega | grind) | grind [inK]) ?_ <;> conv => whnf)
    | (refine Gd.mk (fun h => ?_) <;> (try simp [nd_eta, sh_eta, it_eta, sto_eta, op_eta, ch_eta, nw_eta, fl_eta, rq_eta, rs_eta, elDef, -List.getD_eq_getElem?_getD] at h) <;> conv => whnf)
    | (refine And.intro ?_ ?_ <;> conv => whnf)
    | exact True.intro
    | (intro; conv => whnf)
  have h5 := stoAt_len l
  have h6 := stoAt_all (v := 0) h1 (by omega) (by omega)
  have h7 : stoAtM l 0 = some ⟨[], 0⟩ := h6.1
  exact leafB hK (by rw [h5, h7, hs]; simp [eqD_refl, h1, hc])
theorem s5 : (CtrOK Try.prog 5 (.gen .ps C5) ∧ Callable Try.prog 5) := by
  refine gen_ok (E := E5) (mkE_cons s13 (mkE_cons s15 (mkE_cons s16 (mkE_cons s17 (mkE_cons s18 (mkE_nil tab_ok)))))) mix (O := O5) (C := C5) (own := .ps) Try.func5 rfl (by rfl) (by kernel_rfl) (fun args K h hbd => ?_)
  unfold C5 at h; split at h
  case h_2 => exact h.elim
  exact ⟨Nat.le_of_ble_eq_true rfl, a5 _ (by exact hbd) _ h⟩
noncomputable def c6 (code : List Int) (K : AV → List AV → Prop) : Prop :=
    Obl (byOk code) (K (.bool true) [])
noncomputable def C6 : List AV → (AV → List AV → Prop) → Prop
  | [.ps .u8 code], K => c6 code K
  | _, _ => False
noncomputable def E6 : Ctx := mkE tab [(15, .gen .ps C15), (16, .gen .ps C16), (17, .gen .ps C17), (18, .pure F18), (19, .gen .ps C19)]
noncomputable def O6 : Nat → List DI := ordL [(8, [.q 0, .q 1, .q 2, .q 3, .q 4, .l 5 [], .q 6, .q 7, .q 8, .a 9, .l 10 [], .q 11])]
theorem a6 (code : List Int) (hb : BdAs [.ps .u8 code]) (K : AV → List AV → Prop) (h : c6 code K) : abody E6 O6 .ps Try.f6 (Try.f6.body.getD .skip) [.ps .u8 code] K := by
  simp only [BdAs, BdA, BdL, BdC, MX, ndC, shC, itC, stC, opC, chC, nwC, flC, rqC, rsC, enc, List.cons_append, List.nil_append, and_true, true_and] at hb
  unfold c6 at h
  obtain ⟨ho, hK⟩ := h
  conv => whnf
  have hsn := fun (l : List Chg) (v : Int) (h : (stoAtM l v).isSome = true) => (stoAt_some h).2
  repeat' first
    | (refine Cnd.mk (fun h => ?_) (fun h => ?_) <;> (try simp [nd_eta, sh_eta, it_eta, sto_eta, op_eta, ch_eta, nw_eta, fl_eta, rq_eta, rs_eta, elDef, -List.getD_eq_getElem?_getD] at h) <;> conv => whnf)
    | (refine Obl.mk (by first | omega | rfl | exact inK_byte _ | (simp only [inK, Int.toNat_natCast, nd_eta, sh_eta, it_eta, sto_eta, op_eta, ch_eta, nw_eta, fl_eta, rq_eta, rs_eta, elDef] <;> first | omega | grind) | grind [inK]) ?_ <;> conv => whnf)
    | (refine OblG.mk (by conv => whnf
                          repeat (first | (refine Bx.mk ?_) | (intro h; (try simp [nd_eta, sh_eta, it_eta, sto_eta, op_eta, ch_eta, nw_eta, fl_eta, rq_eta, rs_eta, elDef, -List.getD_eq_getElem?_getD] at h); conv => whnf))
                          first | omega | rfl | exact inK_byte _ | (simp only [inK, Int.toNat_natCast, nd_eta, sh_eta, it_eta, sto_eta, op_eta, ch_eta, nw_eta, fl_eta, rq_eta, rs_eta, elDef] <;> first | omega | grind) | grind [inK]) ?_ <;> conv => whnf)
    | (refine Gd.mk (fun h => ?_) <;> (try simp [nd_eta, sh_eta, it_eta, sto_eta, op_eta, ch_eta, nw_eta, fl_eta, rq_eta, rs_eta, elDef, -List.getD_eq_getElem?_getD] at h) <;> conv => whnf)
    | (refine And.intro ?_ ?_ <;> conv => whnf)
    | exact True.intro
    | (intro; conv => whnf)
  · exact hK
  · exact leafB hK (by simp [eqD_refl])
  rename_i l v hl
  obtain ⟨h1, h2, h3, h4⟩ := stoAt_some h.1.2
  obtain ⟨s, hs, -, hc⟩ := sto_at h.1.2
  have hv : v < l.length := by have := h.2; omega
  obtain ⟨h5, h6⟩ := sto_next hs hv
  have h8 : (stoAtM l v).getD ⟨[], 0⟩ = s := by rw [hs]; rfl
  exact leafB hK (by simp only [h8, sto_eta, ch_eta, nd_eta, elDef, h5, h6, eqD_refl]; rfl)
theorem s6 : (CtrOK Try.prog 6 (.gen .ps C6) ∧ Callable Try.prog 6) := by
  refine gen_ok (E := E6) (mkE_cons s15 (mkE_cons s16 (mkE_cons s17 (mkE_cons s18 (mkE_cons s19 (mkE_nil tab_ok)))))) mix (O := O6) (C := C6) (own := .ps) Try.func6 rfl (by rfl) (by kernel_rfl) (fun args K h hbd => ?_)
  unfold C6 at h; split at h
  case h_2 => exact h.elim
  exact ⟨Nat.le_of_ble_eq_true rfl, a6 _ (by exact hbd) _ h⟩
noncomputable def c8 (code : List Int) (K : AV → List AV → Prop) : Prop :=
    Obl (byOk code) (K (.bool true) [])
noncomputable def C8 : List AV → (AV → List AV → Prop) → Prop
  | [.ps .u8 code], K => c8 code K
  | _, _ => False
noncomputable def E8 : Ctx := mkE tab [(15, .gen .ps C15), (16, .gen .ps C16), (17, .gen .ps C17), (18, .pure F18), (21, .pure F21)]
noncomputable def O8 : Nat → List DI := ordL [(9, [.q 0, .q 1, .q 2, .q 3, .q 4, .q 5, .q 6, .q 7, .q 8, .q 9, .q 10, .q 11])]
theorem a8 (code : List Int) (hb : BdAs [.ps .u8 code]) (K : AV → List AV → Prop) (h : c8 code K) : abody E8 O8 .ps Try.f8 (Try.f8.body.getD .skip) [.ps .u8 code] K := by
  simp only [BdAs, BdA, BdL, BdC, MX, ndC, shC, itC, stC, opC, chC, nwC, flC, rqC, rsC, enc, List.cons_append, List.nil_append, and_true, true_and] at hb
  unfold c8 at h
  obtain ⟨ho, hK⟩ := h
  conv => whnf
  repeat' first
    | (refine Cnd.mk (fun h => ?_) (fun h => ?_) <;> (try simp [nd_eta, sh_eta, it_eta, sto_eta, op_eta, ch_eta, nw_eta, fl_eta, rq_eta, rs_eta, elDef, -List.getD_eq_getElem?_getD] at h) <;> conv => whnf)
    | (refine Obl.mk (by first | omega | rfl | exact inK_byte _ | (simp only [inK, Int.toNat_natCast, nd_eta, sh_eta, it_eta, sto_eta, op_eta, ch_eta, nw_eta, fl_eta, rq_eta, rs_eta, elDef] <;> first | omega | grind) | grind [inK]) ?_ <;> conv => whnf)
    | (refine OblG.mk (by conv => whnf
                          repeat (first | (refine Bx.mk ?_) | (intro h; (try simp [nd_eta, sh_eta, it_eta, sto_eta, op_eta, ch_eta, nw_eta, fl_eta, rq_eta, rs_eta, elDef, -List.getD_eq_getElem?_getD] at h); conv => whnf))
                          first | omega | rfl | exact inK_byte _ | (simp only [inK, Int.toNat_natCast, nd_eta, sh_eta, it_eta, sto_eta, op_eta, ch_eta, nw_eta, fl_eta, rq_eta, rs_eta, elDef] <;> first | omega | grind) | grind [inK]) ?_ <;> conv => whnf)
    | (refine Gd.mk (fun h => ?_) <;> (try simp [nd_eta, sh_eta, it_eta, sto_eta, op_eta, ch_eta, nw_eta, fl_eta, rq_eta, rs_eta, elDef, -List.getD_eq_getElem?_getD] at h) <;> conv => whnf)
    | (refine And.intro ?_ ?_ <;> conv => whnf)
    | exact True.intro
    | (intro; conv => whnf)
  · exact hK
  · exact leafB hK (by simp [eqD_refl])
  rename_i l v hl
  obtain ⟨h1, h2, h3, h4⟩ := stoAt_some h.1.2
  obtain ⟨s, hs, hss, hc⟩ := sto_at h.1.2
  have hv : v < l.length := by have := h.2; omega
  obtain ⟨h5, h6⟩ := sto_next hs hv
  obtain ⟨u, hu, hus, huc⟩ := sto_at h6
  have e1 : lagM s l = l.length - v := by unfold lagM; rw [if_pos ⟨h1, hss, by omega⟩, hc]
  have e2 : lagM u l = l.length - (v + 1) := by unfold lagM; rw [if_pos ⟨h1, hus, by omega⟩, huc]
  have e3 : lagM ((stoAtM l v).getD ⟨[], 0⟩) l = l.length - v := by rw [hs]; exact e1
  have e4 : lagM ((stoAtM l (v + 1)).getD ⟨[], 0⟩) l = l.length - (v + 1) := by rw [hu]; exact e2
  refine Obl.mk (by simp only [inK]; omega) ?_
  conv => whnf
  repeat' first
    | (refine Cnd.mk (fun h => ?_) (fun h => ?_) <;> (try simp [nd_eta, sh_eta, it_eta, sto_eta, op_eta, ch_eta, nw_eta, fl_eta, rq_eta, rs_eta, elDef, -List.getD_eq_getElem?_getD] at h) <;> conv => whnf)
    | (refine Obl.mk (by first | omega | rfl | exact inK_byte _ | (simp only [inK, Int.toNat_natCast, nd_eta, sh_eta, it_eta, sto_eta, op_eta, ch_eta, nw_eta, fl_eta, rq_eta, rs_eta, elDef] <;> first | omega | grind) | grind [inK]) ?_ <;> conv => whnf)
    | (refine OblG.mk (by conv => whnf
                          repeat (first | (refine Bx.mk ?_) | (intro h; (try simp [nd_eta, sh_eta, it_eta, sto_eta, op_eta, ch_eta, nw_eta, fl_eta, rq_eta, rs_eta, elDef, -List.getD_eq_getElem?_getD] at h); conv => whnf))
                          first | omega | rfl | exact inK_byte _ | (simp only [inK, Int.toNat_natCast, nd_eta, sh_eta, it_eta, sto_eta, op_eta, ch_eta, nw_eta, fl_eta, rq_eta, rs_eta, elDef] <;> first | omega | grind) | grind [inK]) ?_ <;> conv => whnf)
    | (refine Gd.mk (fun h => ?_) <;> (try simp [nd_eta, sh_eta, it_eta, sto_eta, op_eta, ch_eta, nw_eta, fl_eta, rq_eta, rs_eta, elDef, -List.getD_eq_getElem?_getD] at h) <;> conv => whnf)
    | (refine And.intro ?_ ?_ <;> conv => whnf)
    | exact True.intro
    | (intro; conv => whnf)
  exact leafB hK (by simp only [sto_eta, e3, e4, h6]; simp; omega)
theorem s8 : (CtrOK Try.prog 8 (.gen .ps C8) ∧ Callable Try.prog 8) := by
  refine gen_ok (E := E8) (mkE_cons s15 (mkE_cons s16 (mkE_cons s17 (mkE_cons s18 (mkE_cons s21 (mkE_nil tab_ok)))))) mix (O := O8) (C := C8) (own := .ps) Try.func8 rfl (by rfl) (by kernel_rfl) (fun args K h hbd => ?_)
  unfold C8 at h; split at h
  case h_2 => exact h.elim
  exact ⟨Nat.le_of_ble_eq_true rfl, a8 _ (by exact hbd) _ h⟩
theorem hist_facts {l : List Chg} {b : Bs} (hlog : (logM l).isSome = true) : (∀ i, i < (histV l b).length → 1 ≤ (histV l b).getD i 0 ∧ (histV l b).getD i 0 ≤ l.length ∧ (l.getD ((histV l b).getD i 0 - 1).toNat default).name = b) ∧
    (∀ i, 0 < i → i < (histV l b).length → (histV l b).getD (i - 1) 0 < (histV l b).getD i 0) ∧ (histV l b).length ≤ 20 := by
  have hV : histV l b = histM l b 0 := by simp [histV, hlog]
  rw [hV]
  refine ⟨fun i h => by have := histM_mem (getD_mem (d := 0) h); simpa using this, fun i h0 h => pair_lt (histM_asc l 0 (b := b)) h0 h, ?_⟩
  have := histM_len l b l.length
  rw [List.take_length] at this
  exact Nat.le_trans this (log_len hlog)
theorem hist_rng (l : List Chg) (b : Bs) (i : Nat) : 0 ≤ (histV l b).getD i 0 ∧ (histV l b).getD i 0 ≤ l.length := by
  by_cases h : i < (histV l b).length
  · have hlog : (logM l).isSome = true := by
      cases hh : (logM l).isSome with
      | true => rfl
      | false => simp [histV, hh] at h
    have := (hist_facts hlog).1 i h
    omega
  · rw [List.getD_eq_getElem?_getD, List.getElem?_eq_none (by omega)]; simp
noncomputable def c3 (code : List Int) (K : AV → List AV → Prop) : Prop :=
    Obl (byOk code) (K (.bool true) [])
noncomputable def C3 : List AV → (AV → List AV → Prop) → Prop
  | [.ps .u8 code], K => c3 code K
  | _, _ => False
noncomputable def E3 : Ctx := mkE tab [(9, .gen .ps C9), (10, .gen .ps C10), (11, .pure F11), (12, .gen .ps C12), (13, .gen .ps C13), (14, .gen .ps C14)]
noncomputable def O3 : Nat → List DI := ordL [(10, [.q 0, .q 1, .q 2, .q 3, .q 4, .q 5, .q 6, .q 7, .q 8, .q 9, .q 10, .q 11, .q 12, .q 13, .q 14, .q 15, .q 16, .q 17, .q 18, .q 19, .q 20, .q 21, .q 22, .q 23, .q 24, .q 25, .q 26, .q 27, .q 28, .q 29, .q 30, .q 31, .q 32, .q 33, .q 34, .q 35, .q 36, .q 37, .q 38, .q 39, .q 40, .q 41, .q 42])]
theorem a3 (code : List Int) (hb : BdAs [.ps .u8 code]) (K : AV → List AV → Prop) (h : c3 code K) : abody E3 O3 .ps Try.f3 (Try.f3.body.getD .skip) [.ps .u8 code] K := by
  simp only [BdAs, BdA, BdL, BdC, MX, ndC, shC, itC, stC, opC, chC, nwC, flC, rqC, rsC, enc, List.cons_append, List.nil_append, and_true, true_and] at hb
  unfold c3 at h
  obtain ⟨ho, hK⟩ := h
  conv => whnf
  repeat' first
    | (refine Cnd.mk (fun h => ?_) (fun h => ?_) <;> (try simp [nd_eta, sh_eta, it_eta, sto_eta, op_eta, ch_eta, nw_eta, fl_eta, rq_eta, rs_eta, elDef, -List.getD_eq_getElem?_getD] at h) <;> conv => whnf)
    | (refine Obl.mk (by first | omega | rfl | exact inK_byte _ | (simp only [inK, Int.toNat_natCast, nd_eta, sh_eta, it_eta, sto_eta, op_eta, ch_eta, nw_eta, fl_eta, rq_eta, rs_eta, elDef] <;> first | omega | grind) | grind [inK]) ?_ <;> conv => whnf)
    | (refine OblG.mk (by conv => whnf
                          repeat (first | (refine Bx.mk ?_) | (intro h; (try simp [nd_eta, sh_eta, it_eta, sto_eta, op_eta, ch_eta, nw_eta, fl_eta, rq_eta, rs_eta, elDef, -List.getD_eq_getElem?_getD] at h); conv => whnf))
                          first | omega | rfl | exact inK_byte _ | (simp only [inK, Int.toNat_natCast, nd_eta, sh_eta, it_eta, sto_eta, op_eta, ch_eta, nw_eta, fl_eta, rq_eta, rs_eta, elDef] <;> first | omega | grind) | grind [inK]) ?_ <;> conv => whnf)
    | (refine Gd.mk (fun h => ?_) <;> (try simp [nd_eta, sh_eta, it_eta, sto_eta, op_eta, ch_eta, nw_eta, fl_eta, rq_eta, rs_eta, elDef, -List.getD_eq_getElem?_getD] at h) <;> conv => whnf)
    | (refine And.intro ?_ ?_ <;> conv => whnf)
    | exact True.intro
    | (intro; conv => whnf)
  · exact hK
  · exact leafB hK (by simp [eqD_refl])
  rename_i l b hl
  have hne := h.2
  have hlog : (logM l).isSome = true := by
    cases hh : (logM l).isSome with
    | true => rfl
    | false => exact absurd (by simp [histV, hh]) hne
  obtain ⟨s, hs⟩ := Option.isSome_iff_exists.1 hlog
  have hr : replayM l = some s := by unfold logM at hs; rw [if_pos hl] at hs; exact hs
  have hpos : 0 < (histV l b).length := List.length_pos_iff.2 hne
  have hle : (histV l b).length ≤ 20 := by have := (hist_facts hlog (b := b)).2.2; omega
  have hlb := ((hist_facts hlog (b := b)).1 (((histV l b).length : Int) - 1).toNat (by omega))
  have hl1 := hlb.1
  have hl2 := hlb.2.1
  clear hlb
  refine aloop_intro Nat (fun k => k ≤ (histV l b).length ∧ True) (fun k => (histV l b).length - k) (fun k => [(6, .int .i64 k)]) (fun k => []) [] 0 [] [] ?_ ?_ (by exact sgOk_of (by rfl)) ?_
  · first | (simp; done) | (simp; assumption)
  · (conv => whnf); (repeat' (first | exact trivial | rfl | (refine nilEq ?_; first | rfl | (simp only [*]; done) | (simp [*]; done) | grind) | apply And.intro | ((first | refine intEq ?_ | refine boolEq ?_ | refine strEq ?_ | refine psEq ?_ | refine nilEq ?_ | refine arrEq ?_); (try simp only [Int.toNat_natCast, nd_eta, sh_eta, it_eta, sto_eta, op_eta, ch_eta, nw_eta, fl_eta, rq_eta, rs_eta, elDef]); first | done | omega | grind | (simp only [*]; done) | (simp [*]; done)))); (all_goals (conv => whnf)); (repeat' (first | exact trivial | rfl | (refine nilEq ?_; first | rfl | (simp only [*]; done) | (simp [*]; done) | grind) | apply And.intro | ((first | refine intEq ?_ | refine boolEq ?_ | refine strEq ?_ | refine psEq ?_ | refine nilEq ?_ | refine arrEq ?_); (try simp only [Int.toNat_natCast, nd_eta, sh_eta, it_eta, sto_eta, op_eta, ch_eta, nw_eta, fl_eta, rq_eta, rs_eta, elDef]); first | done | omega | grind | (simp only [*]; done) | (simp [*]; done)) | ((try simp only [Int.toNat_natCast, nd_eta, sh_eta, it_eta, sto_eta, op_eta, ch_eta, nw_eta, fl_eta, rq_eta, rs_eta, elDef]); first | done | omega | grind | (simp only [*]; done) | (simp [*]; done))))
  rintro i ⟨hi, hj⟩
  conv => whnf
  have hmi := hist_rng l b i
  repeat' first
    | (refine Cnd.mk (fun h => ?_) (fun h => ?_) <;> (try simp [nd_eta, sh_eta, it_eta, sto_eta, op_eta, ch_eta, nw_eta, fl_eta, rq_eta, rs_eta, elDef, -List.getD_eq_getElem?_getD] at h) <;> conv => whnf)
    | (refine Obl.mk (by first | omega | rfl | exact inK_byte _ | (simp only [inK, Int.toNat_natCast, nd_eta, sh_eta, it_eta, sto_eta, op_eta, ch_eta, nw_eta, fl_eta, rq_eta, rs_eta, elDef] <;> first | omega | grind) | grind [inK]) ?_ <;> conv => whnf)
    | (refine OblG.mk (by conv => whnf
                          repeat (first | (refine Bx.mk ?_) | (intro h; (try simp [nd_eta, sh_eta, it_eta, sto_eta, op_eta, ch_eta, nw_eta, fl_eta, rq_eta, rs_eta, elDef, -List.getD_eq_getElem?_getD] at h); conv => whnf))
                          first | omega | rfl | exact inK_byte _ | (simp only [inK, Int.toNat_natCast, nd_eta, sh_eta, it_eta, sto_eta, op_eta, ch_eta, nw_eta, fl_eta, rq_eta, rs_eta, elDef] <;> first | omega | grind) | grind [inK]) ?_ <;> conv => whnf)
    | (refine Gd.mk (fun h => ?_) <;> (try simp [nd_eta, sh_eta, it_eta, sto_eta, op_eta, ch_eta, nw_eta, fl_eta, rq_eta, rs_eta, elDef, -List.getD_eq_getElem?_getD] at h) <;> conv => whnf)
    | (refine And.intro ?_ ?_ <;> conv => whnf)
    | exact True.intro
    | (intro; conv => whnf)
  · exfalso
    obtain ⟨f1, f2, -⟩ := hist_facts hlog (b := b)
    have g1 := f1 i (by assumption)
    have g2 := fun h => f2 i h (by assumption)
    have e : Int.toNat ((histV l b).getD i 0) - 1 = ((histV l b).getD i 0 - 1).toNat := by omega
    rw [e] at h
    rcases h with (h | h) | h
    · rcases h with h | h <;> (have h := of_decide_eq_true h; omega)
    · exact h g1.2.2
    · have := g2 h.1; omega
  · exact ⟨i + 1, [], [], ⟨by omega, by grind⟩, by omega, by (conv => whnf); (repeat' (first | exact trivial | rfl | (refine nilEq ?_; first | rfl | (simp only [*]; done) | (simp [*]; done) | grind) | apply And.intro | ((first | refine intEq ?_ | refine boolEq ?_ | refine strEq ?_ | refine psEq ?_ | refine nilEq ?_ | refine arrEq ?_); (try simp only [Int.toNat_natCast, nd_eta, sh_eta, it_eta, sto_eta, op_eta, ch_eta, nw_eta, fl_eta, rq_eta, rs_eta, elDef]); first | done | omega | grind | (simp only [*]; done) | (simp [*]; done)))); (all_goals (conv => whnf)); (repeat' (first | exact trivial | rfl | (refine nilEq ?_; first | rfl | (simp only [*]; done) | (simp [*]; done) | grind) | apply And.intro | ((first | refine intEq ?_ | refine boolEq ?_ | refine strEq ?_ | refine psEq ?_ | refine nilEq ?_ | refine arrEq ?_); (try simp only [Int.toNat_natCast, nd_eta, sh_eta, it_eta, sto_eta, op_eta, ch_eta, nw_eta, fl_eta, rq_eta, rs_eta, elDef]); first | done | omega | grind | (simp only [*]; done) | (simp [*]; done)) | ((try simp only [Int.toNat_natCast, nd_eta, sh_eta, it_eta, sto_eta, op_eta, ch_eta, nw_eta, fl_eta, rq_eta, rs_eta, elDef]); first | done | omega | grind | (simp only [*]; done) | (simp [*]; done)))), (by exact sgOk_of (by rfl))⟩
  · have hV : histV l b = histM l b 0 := by simp [histV, hlog]
    have hlast := hist_last (b := b) hr (by rw [← hV]; exact getLast_getD hne)
    rw [show (histV l b).length - 1 = (((histV l b).length : Int) - 1).toNat by omega] at hlast
    have hst := (replayM_ok hr).1
    have hg : getM s b = lookI s.items b := by unfold getM; rw [if_pos hst]
    rw [hlast] at hg
    refine leafB hK ?_
    rw [hs]
    simp only [Option.getD_some, sto_eta, elDef]
    rw [hg]
    generalize (l.getD ((histV l b).getD (((histV l b).length : Int) - 1).toNat 0 - 1).toNat default) = c
    cases c.gone <;> simp
theorem s3 : (CtrOK Try.prog 3 (.gen .ps C3) ∧ Callable Try.prog 3) := by
  refine gen_ok (E := E3) (mkE_cons s9 (mkE_cons s10 (mkE_cons s11 (mkE_cons s12 (mkE_cons s13 (mkE_cons s14 (mkE_nil tab_ok))))))) mix (O := O3) (C := C3) (own := .ps) Try.func3 rfl (by rfl) (by kernel_rfl) (fun args K h hbd => ?_)
  unfold C3 at h; split at h
  case h_2 => exact h.elim
  exact ⟨Nat.le_of_ble_eq_true rfl, a3 _ (by exact hbd) _ h⟩
noncomputable def c4 (code : List Int) (K : AV → List AV → Prop) : Prop :=
    Obl (byOk code) (K (.bool true) [])
noncomputable def C4 : List AV → (AV → List AV → Prop) → Prop
  | [.ps .u8 code], K => c4 code K
  | _, _ => False
noncomputable def E4 : Ctx := mkE tab [(9, .gen .ps C9), (10, .gen .ps C10), (11, .pure F11), (12, .gen .ps C12)]
noncomputable def O4 : Nat → List DI := ordL [(15, [.q 0, .q 1, .q 2, .q 3, .q 4, .q 5, .q 6, .q 7, .q 8, .q 9, .q 10, .q 11, .q 12, .q 13, .q 14])]
theorem a4 (code : List Int) (hb : BdAs [.ps .u8 code]) (K : AV → List AV → Prop) (h : c4 code K) : abody E4 O4 .ps Try.f4 (Try.f4.body.getD .skip) [.ps .u8 code] K := by
  simp only [BdAs, BdA, BdL, BdC, MX, ndC, shC, itC, stC, opC, chC, nwC, flC, rqC, rsC, enc, List.cons_append, List.nil_append, and_true, true_and] at hb
  unfold c4 at h
  obtain ⟨ho, hK⟩ := h
  conv => whnf
  repeat' first
    | (refine Cnd.mk (fun h => ?_) (fun h => ?_) <;> (try simp [nd_eta, sh_eta, it_eta, sto_eta, op_eta, ch_eta, nw_eta, fl_eta, rq_eta, rs_eta, elDef, -List.getD_eq_getElem?_getD] at h) <;> conv => whnf)
    | (refine Obl.mk (by first | omega | rfl | exact inK_byte _ | (simp only [inK, Int.toNat_natCast, nd_eta, sh_eta, it_eta, sto_eta, op_eta, ch_eta, nw_eta, fl_eta, rq_eta, rs_eta, elDef] <;> first | omega | grind) | grind [inK]) ?_ <;> conv => whnf)
    | (refine OblG.mk (by conv => whnf
                          repeat (first | (refine Bx.mk ?_) | (intro h; (try simp [nd_eta, sh_eta, it_eta, sto_eta, op_eta, ch_eta, nw_eta, fl_eta, rq_eta, rs_eta, elDef, -List.getD_eq_getElem?_getD] at h); conv => whnf))
                          first | omega | rfl | exact inK_byte _ | (simp only [inK, Int.toNat_natCast, nd_eta, sh_eta, it_eta, sto_eta, op_eta, ch_eta, nw_eta, fl_eta, rq_eta, rs_eta, elDef] <;> first | omega | grind) | grind [inK]) ?_ <;> conv => whnf)
    | (refine Gd.mk (fun h => ?_) <;> (try simp [nd_eta, sh_eta, it_eta, sto_eta, op_eta, ch_eta, nw_eta, fl_eta, rq_eta, rs_eta, elDef, -List.getD_eq_getElem?_getD] at h) <;> conv => whnf)
    | (refine And.intro ?_ ?_ <;> conv => whnf)
    | exact True.intro
    | (intro; conv => whnf)
  · exact hK
  · exact leafB hK (by simp [eqD_refl])
  rename_i l b hl
  have hne := h.2
  have hlog : (logM l).isSome = true := by
    cases hh : (logM l).isSome with
    | true => rfl
    | false => exact absurd (by simp [histV, hh]) hne
  clear hne h
  refine aloop_intro (Nat × Nat) (fun p => p.1 ≤ l.length ∧ p.2 + allH l ((l.take p.1).map (·.name)) (l.drop p.1) = l.length) (fun p => l.length - p.1) (fun p => [(7, .int .i64 p.1), (6, .int .i64 p.2)]) (fun _ => []) [] (0, 0) [] [] ?_ ?_ (by exact sgOk_of (by rfl)) ?_
  · simp [allH_all]
  · (conv => whnf); (repeat' (first | exact trivial | rfl | (refine nilEq ?_; first | rfl | (simp only [*]; done) | (simp [*]; done) | grind) | apply And.intro | ((first | refine intEq ?_ | refine boolEq ?_ | refine strEq ?_ | refine psEq ?_ | refine nilEq ?_ | refine arrEq ?_); (try simp only [Int.toNat_natCast, nd_eta, sh_eta, it_eta, sto_eta, op_eta, ch_eta, nw_eta, fl_eta, rq_eta, rs_eta, elDef]); first | done | omega | grind | (simp only [*]; done) | (simp [*]; done)))); (all_goals (conv => whnf)); (repeat' (first | exact trivial | rfl | (refine nilEq ?_; first | rfl | (simp only [*]; done) | (simp [*]; done) | grind) | apply And.intro | ((first | refine intEq ?_ | refine boolEq ?_ | refine strEq ?_ | refine psEq ?_ | refine nilEq ?_ | refine arrEq ?_); (try simp only [Int.toNat_natCast, nd_eta, sh_eta, it_eta, sto_eta, op_eta, ch_eta, nw_eta, fl_eta, rq_eta, rs_eta, elDef]); first | done | omega | grind | (simp only [*]; done) | (simp [*]; done)) | ((try simp only [Int.toNat_natCast, nd_eta, sh_eta, it_eta, sto_eta, op_eta, ch_eta, nw_eta, fl_eta, rq_eta, rs_eta, elDef]); first | done | omega | grind | (simp only [*]; done) | (simp [*]; done))))
  rintro ⟨i, n⟩ ⟨hi, hn⟩
  dsimp only at hi hn
  have hst := fun h => allH_step (l := l) (k := i) h
  have hq : (histV l (l.getD i default).name).length ≤ 20 := (hist_facts hlog).2.2
  have hq2 : histV l (l.getD i default).name = histM l (l.getD i default).name 0 := by simp [histV, hlog]
  have hn20 : n ≤ l.length := by omega
  conv => whnf
  repeat' first
    | (refine Cnd.mk (fun h => ?_) (fun h => ?_) <;> (try simp [nd_eta, sh_eta, it_eta, sto_eta, op_eta, ch_eta, nw_eta, fl_eta, rq_eta, rs_eta, elDef, -List.getD_eq_getElem?_getD] at h) <;> conv => whnf)
    | (refine Obl.mk (by first | omega | rfl | exact inK_byte _ | (simp only [inK, Int.toNat_natCast, nd_eta, sh_eta, it_eta, sto_eta, op_eta, ch_eta, nw_eta, fl_eta, rq_eta, rs_eta, elDef] <;> first | omega | grind) | grind [inK]) ?_ <;> conv => whnf)
    | (refine OblG.mk (by conv => whnf
                          repeat (first | (refine Bx.mk ?_) | (intro h; (try simp [nd_eta, sh_eta, it_eta, sto_eta, op_eta, ch_eta, nw_eta, fl_eta, rq_eta, rs_eta, elDef, -List.getD_eq_getElem?_getD] at h); conv => whnf))
                          first | omega | rfl | exact inK_byte _ | (simp only [inK, Int.toNat_natCast, nd_eta, sh_eta, it_eta, sto_eta, op_eta, ch_eta, nw_eta, fl_eta, rq_eta, rs_eta, elDef] <;> first | omega | grind) | grind [inK]) ?_ <;> conv => whnf)
    | (refine Gd.mk (fun h => ?_) <;> (try simp [nd_eta, sh_eta, it_eta, sto_eta, op_eta, ch_eta, nw_eta, fl_eta, rq_eta, rs_eta, elDef, -List.getD_eq_getElem?_getD] at h) <;> conv => whnf)
    | (refine And.intro ?_ ?_ <;> conv => whnf)
    | exact True.intro
    | (intro; conv => whnf)
  · refine aloop_intro Nat (fun k => k ≤ i) (fun k => i - k) (fun k => [(9, .int .i64 k), (8, .bool ((l.take k).all fun c => !decide (c.name = (l.getD i default).name)))]) (fun _ => []) [] 0 [] [] (by simp) ?_ (by exact sgOk_of (by rfl)) ?_
    · (conv => whnf); (repeat' (first | exact trivial | rfl | (refine nilEq ?_; first | rfl | (simp only [*]; done) | (simp [*]; done) | grind) | apply And.intro | ((first | refine intEq ?_ | refine boolEq ?_ | refine strEq ?_ | refine psEq ?_ | refine nilEq ?_ | refine arrEq ?_); (try simp only [Int.toNat_natCast, nd_eta, sh_eta, it_eta, sto_eta, op_eta, ch_eta, nw_eta, fl_eta, rq_eta, rs_eta, elDef]); first | done | omega | grind | (simp only [*]; done) | (simp [*]; done)))); (all_goals (conv => whnf)); (repeat' (first | exact trivial | rfl | (refine nilEq ?_; first | rfl | (simp only [*]; done) | (simp [*]; done) | grind) | apply And.intro | ((first | refine intEq ?_ | refine boolEq ?_ | refine strEq ?_ | refine psEq ?_ | refine nilEq ?_ | refine arrEq ?_); (try simp only [Int.toNat_natCast, nd_eta, sh_eta, it_eta, sto_eta, op_eta, ch_eta, nw_eta, fl_eta, rq_eta, rs_eta, elDef]); first | done | omega | grind | (simp only [*]; done) | (simp [*]; done)) | ((try simp only [Int.toNat_natCast, nd_eta, sh_eta, it_eta, sto_eta, op_eta, ch_eta, nw_eta, fl_eta, rq_eta, rs_eta, elDef]); first | done | omega | grind | (simp only [*]; done) | (simp [*]; done))))
    rintro k hk
    have hak := all_take_succ (l := l) (k := k) (by omega) (fun c => !decide (c.name = (l.getD i default).name))
    conv => whnf
    repeat' first
      | (refine Cnd.mk (fun h => ?_) (fun h => ?_) <;> (try simp [nd_eta, sh_eta, it_eta, sto_eta, op_eta, ch_eta, nw_eta, fl_eta, rq_eta, rs_eta, elDef, -List.getD_eq_getElem?_getD] at h) <;> conv => whnf)
      | (refine Obl.mk (by first | omega | rfl | exact inK_byte _ | (simp only [inK, Int.toNat_natCast, nd_eta, sh_eta, it_eta, sto_eta, op_eta, ch_eta, nw_eta, fl_eta, rq_eta, rs_eta, elDef] <;> first | omega | grind) | grind [inK]) ?_ <;> conv => whnf)
      | (refine OblG.mk (by conv => whnf
                            repeat (first | (refine Bx.mk ?_) | (intro h; (try simp [nd_eta, sh_eta, it_eta, sto_eta, op_eta, ch_eta, nw_eta, fl_eta, rq_eta, rs_eta, elDef, -List.getD_eq_getElem?_getD] at h); conv => whnf))
                            first | omega | rfl | exact inK_byte _ | (simp only [inK, Int.toNat_natCast, nd_eta, sh_eta, it_eta, sto_eta, op_eta, ch_eta, nw_eta, fl_eta, rq_eta, rs_eta, elDef] <;> first | omega | grind) | grind [inK]) ?_ <;> conv => whnf)
      | (refine Gd.mk (fun h => ?_) <;> (try simp [nd_eta, sh_eta, it_eta, sto_eta, op_eta, ch_eta, nw_eta, fl_eta, rq_eta, rs_eta, elDef, -List.getD_eq_getElem?_getD] at h) <;> conv => whnf)
      | (refine And.intro ?_ ?_ <;> conv => whnf)
      | exact True.intro
      | (intro; conv => whnf)
    · exact ⟨k + 1, [], [], by omega, by omega, by (conv => whnf); (repeat' (first | exact trivial | rfl | (refine nilEq ?_; first | rfl | (simp only [*]; done) | (simp [*]; done) | grind) | apply And.intro | ((first | refine intEq ?_ | refine boolEq ?_ | refine strEq ?_ | refine psEq ?_ | refine nilEq ?_ | refine arrEq ?_); (try simp only [Int.toNat_natCast, nd_eta, sh_eta, it_eta, sto_eta, op_eta, ch_eta, nw_eta, fl_eta, rq_eta, rs_eta, elDef]); first | omega | exact hak.symm))); (all_goals (conv => whnf)); (repeat' (first | exact trivial | rfl | (refine nilEq ?_; first | rfl | (simp only [*]; done) | (simp [*]; done) | grind) | apply And.intro | ((first | refine intEq ?_ | refine boolEq ?_ | refine strEq ?_ | refine psEq ?_ | refine nilEq ?_ | refine arrEq ?_); (try simp only [Int.toNat_natCast, nd_eta, sh_eta, it_eta, sto_eta, op_eta, ch_eta, nw_eta, fl_eta, rq_eta, rs_eta, elDef]); first | omega | exact hak.symm) | ((try simp only [Int.toNat_natCast, nd_eta, sh_eta, it_eta, sto_eta, op_eta, ch_eta, nw_eta, fl_eta, rq_eta, rs_eta, elDef]); first | omega | exact hak.symm))), (by exact sgOk_of (by rfl))⟩
    · have ek : k = i := by omega
      subst ek
      have hall : ((l.take k).all fun c => !decide (c.name = (l.getD k default).name)) = true := by simpa using h
      rw [hall, if_pos rfl, ← hq2] at hst
      have hst' := hst (by assumption)
      exact ⟨(k + 1, n + (histV l (l.getD k default).name).length), [], [], ⟨by simp only; omega, by simp only; omega⟩, by simp only; omega, by (conv => whnf); (repeat' (first | exact trivial | rfl | (refine nilEq ?_; first | rfl | (simp only [*]; done) | (simp [*]; done) | grind) | apply And.intro | ((first | refine intEq ?_ | refine boolEq ?_ | refine strEq ?_ | refine psEq ?_ | refine nilEq ?_ | refine arrEq ?_); (try simp only [Int.toNat_natCast, nd_eta, sh_eta, it_eta, sto_eta, op_eta, ch_eta, nw_eta, fl_eta, rq_eta, rs_eta, elDef]); first | done | omega | grind | (simp only [*]; done) | (simp [*]; done)))); (all_goals (conv => whnf)); (repeat' (first | exact trivial | rfl | (refine nilEq ?_; first | rfl | (simp only [*]; done) | (simp [*]; done) | grind) | apply And.intro | ((first | refine intEq ?_ | refine boolEq ?_ | refine strEq ?_ | refine psEq ?_ | refine nilEq ?_ | refine arrEq ?_); (try simp only [Int.toNat_natCast, nd_eta, sh_eta, it_eta, sto_eta, op_eta, ch_eta, nw_eta, fl_eta, rq_eta, rs_eta, elDef]); first | done | omega | grind | (simp only [*]; done) | (simp [*]; done)) | ((try simp only [Int.toNat_natCast, nd_eta, sh_eta, it_eta, sto_eta, op_eta, ch_eta, nw_eta, fl_eta, rq_eta, rs_eta, elDef]); first | done | omega | grind | (simp only [*]; done) | (simp [*]; done)))), (by exact sgOk_of (by rfl))⟩
    · have ek : k = i := by omega
      subst ek
      have hall : ((l.take k).all fun c => !decide (c.name = (l.getD k default).name)) = false := by simpa using h
      rw [hall, if_neg (by simp)] at hst
      have hst' := hst (by assumption)
      exact ⟨(k + 1, n), [], [], ⟨by simp only; omega, by simp only; omega⟩, by simp only; omega, by (conv => whnf); (repeat' (first | exact trivial | rfl | (refine nilEq ?_; first | rfl | (simp only [*]; done) | (simp [*]; done) | grind) | apply And.intro | ((first | refine intEq ?_ | refine boolEq ?_ | refine strEq ?_ | refine psEq ?_ | refine nilEq ?_ | refine arrEq ?_); (try simp only [Int.toNat_natCast, nd_eta, sh_eta, it_eta, sto_eta, op_eta, ch_eta, nw_eta, fl_eta, rq_eta, rs_eta, elDef]); first | done | omega | grind | (simp only [*]; done) | (simp [*]; done)))); (all_goals (conv => whnf)); (repeat' (first | exact trivial | rfl | (refine nilEq ?_; first | rfl | (simp only [*]; done) | (simp [*]; done) | grind) | apply And.intro | ((first | refine intEq ?_ | refine boolEq ?_ | refine strEq ?_ | refine psEq ?_ | refine nilEq ?_ | refine arrEq ?_); (try simp only [Int.toNat_natCast, nd_eta, sh_eta, it_eta, sto_eta, op_eta, ch_eta, nw_eta, fl_eta, rq_eta, rs_eta, elDef]); first | done | omega | grind | (simp only [*]; done) | (simp [*]; done)) | ((try simp only [Int.toNat_natCast, nd_eta, sh_eta, it_eta, sto_eta, op_eta, ch_eta, nw_eta, fl_eta, rq_eta, rs_eta, elDef]); first | done | omega | grind | (simp only [*]; done) | (simp [*]; done)))), (by exact sgOk_of (by rfl))⟩
  · have e : i = l.length := by omega
    subst e
    simp only [List.drop_length, allH] at hn
    exact leafB hK (by simp; omega)
theorem s4 : (CtrOK Try.prog 4 (.gen .ps C4) ∧ Callable Try.prog 4) := by
  refine gen_ok (E := E4) (mkE_cons s9 (mkE_cons s10 (mkE_cons s11 (mkE_cons s12 (mkE_nil tab_ok))))) mix (O := O4) (C := C4) (own := .ps) Try.func4 rfl (by rfl) (by kernel_rfl) (fun args K h hbd => ?_)
  unfold C4 at h; split at h
  case h_2 => exact h.elim
  exact ⟨Nat.le_of_ble_eq_true rfl, a4 _ (by exact hbd) _ h⟩
end Go.Rs

