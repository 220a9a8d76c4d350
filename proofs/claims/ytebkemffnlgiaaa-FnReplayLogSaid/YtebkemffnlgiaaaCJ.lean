import Derived.Test.YtebkemffnlgiaaaCI
import Derived.Test.YtebkemffnlgiaaaM8
set_option linter.all false
namespace Go.Rs
open Go.Proofs
set_option maxRecDepth 100000
set_option linter.unusedVariables false
set_option linter.unusedSimpArgs false
noncomputable def c10 (code : List Int) (K : AV → List AV → Prop) : Prop :=
    Obl (byOk code) (∀ c : List Int, byOk c → K (.ref [.ps .u8 c, .int .i64 0]) [])
noncomputable def C10 : List AV → (AV → List AV → Prop) → Prop
  | [.ps .u8 code], K => c10 code K
  | _, _ => False
noncomputable def E10 : Ctx := mkE tab []
noncomputable def O10 : Nat → List DI := ordL []
theorem a10 (code : List Int) (hb : BdAs [.ps .u8 code]) (K : AV → List AV → Prop) (h : c10 code K) : abody E10 O10 true Try.f10 (Try.f10.body.getD .skip) [.ps .u8 code] K := by
  simp only [BdAs, BdA, BdL, BdC, MX, ndC, shC, itC, stC, opC, chC, nwC, flC, rqC, rsC, enc, List.cons_append, List.nil_append, and_true, true_and] at hb
  unfold c10 at h
  obtain ⟨ho, hK⟩ := h
  conv => whnf
  repeat' first
    | (refine Cnd.mk (fun h => ?_) (fun h => ?_) <;> (try simp [nd_eta, sh_eta, it_eta, sto_eta, op_eta, ch_eta, nw_eta, fl_eta, rq_eta, rs_eta, elDef, -List.getD_eq_getElem?_getD] at h) <;> conv => whnf)
    | (refine Obl.mk (by first | omega | rfl | exact inK_byte _ | (simp only [inK, Int.toNat_natCast, nd_eta, sh_eta, it_eta, sto_eta, op_eta, ch_eta, nw_eta, fl_eta, rq_eta, rs_eta, elDef] <;> first | omega | grind) | grind [inK]) ?_ <;> conv => whnf)
    | (refine OblG.mk (by conv => whnf
                          repeat (first | (refine Bx.mk ?_) | (intro h; (try simp [nd_eta, sh_eta, it_eta, sto_eta, op_eta, ch_eta, nw_eta, fl_eta, rq_eta, rs_eta, elDef, -List.getD_eq_getElem?_getD] at h); conv => whnf))
                          first | omega | rfl | exact inK_byte _ | (simp only [inK, Int.toNat_natCast, nd_eta, sh_eta, it_eta, sto_eta, op_eta, ch_eta, nw_eta, fl_eta, rq_eta, rs_eta, elDef] <;> first | omega | grind) | grind [inK]) ?_ <;> conv => whnf)
    | (refine Gd.mk (fun h => ?_) <;> (try simp [nd_eta, sh_eta, it_eta, sto_eta, op_eta, ch_eta, nw_eta, fl_eta, rq_eta, rs_eta, elDef, -List.getD_eq_getElem?_getD] at h) <;> conv => whnf)
    | (refine And.intro ?_ ?_ <;> conv => whnf)
    | exact True.intro
    | (intro; conv => whnf)
  · exact hK _ (ho.take _)
  · exact hK _ ho
theorem s10 : (CtrOK Try.prog 10 (.gen true C10) ∧ Callable Try.prog 10) := by
  refine gen_ok (E := E10) (mkE_nil tab_ok) mix (O := O10) (C := C10) (own := true) Try.func10 rfl (by rfl) (by kernel_rfl) (fun args K h hbd => ?_)
  unfold C10 at h; split at h
  case h_2 => exact h.elim
  exact ⟨Nat.le_of_ble_eq_true rfl, a10 _ (by exact hbd) _ h⟩
noncomputable def c21 (code : List Int) (p : Int) (n : Int) (K : AV → List AV → Prop) : Prop :=
    Obl ((0 ≤ p ∧ p ≤ 1000000000) ∧ byOk code) (∀ r : Int, 0 ≤ r ∧ (r < n ∨ r = 0) → K (.int .i64 r) [.ref [.ps .u8 code, .int .i64 (p + 1)]])
noncomputable def C21 : List AV → (AV → List AV → Prop) → Prop
  | [.ref [.ps .u8 code, .int .i64 p], .int .i64 n], K => c21 code p n K
  | _, _ => False
noncomputable def E21 : Ctx := mkE tab []
noncomputable def O21 : Nat → List DI := ordL [(7, [.q 0, .q 1, .q 2, .q 3, .q 4, .q 5, .q 6, .q 7, .q 8, .q 9, .q 10, .q 11, .q 12, .q 13, .q 14, .q 15, .q 16, .q 17, .q 18, .q 19, .q 20, .q 21, .q 22, .q 23, .q 24, .q 25, .q 26, .q 27, .q 28, .q 29, .q 30, .q 31, .q 32, .q 33, .q 34, .q 35, .q 36, .q 37, .q 38, .q 39, .q 40, .q 41, .q 42, .q 43, .q 44, .q 45])]
theorem a21 (code : List Int) (p : Int) (n : Int) (hb : BdAs [.ref [.ps .u8 code, .int .i64 p], .int .i64 n]) (K : AV → List AV → Prop) (h : c21 code p n K) : abody E21 O21 false Try.f21 (Try.f21.body.getD .skip) [.ref [.ps .u8 code, .int .i64 p], .int .i64 n] K := by
  simp only [BdAs, BdA, BdL, BdC, MX, ndC, shC, itC, stC, opC, chC, nwC, flC, rqC, rsC, enc, List.cons_append, List.nil_append, and_true, true_and] at hb
  unfold c21 at h
  obtain ⟨⟨hp, ho⟩, hK⟩ := h
  have hby := ho.get
  by_cases hc : code = []
  · subst hc
    conv => whnf
    repeat' first
      | (refine Cnd.mk (fun h => ?_) (fun h => ?_) <;> (try simp [nd_eta, sh_eta, it_eta, sto_eta, op_eta, ch_eta, nw_eta, fl_eta, rq_eta, rs_eta, elDef, -List.getD_eq_getElem?_getD] at h) <;> conv => whnf)
      | (refine Obl.mk (by first | omega | rfl | exact inK_byte _ | (simp only [inK, Int.toNat_natCast, nd_eta, sh_eta, it_eta, sto_eta, op_eta, ch_eta, nw_eta, fl_eta, rq_eta, rs_eta, elDef] <;> first | omega | grind) | grind [inK]) ?_ <;> conv => whnf)
      | (refine OblG.mk (by conv => whnf
                            repeat (first | (refine Bx.mk ?_) | (intro h; (try simp [nd_eta, sh_eta, it_eta, sto_eta, op_eta, ch_eta, nw_eta, fl_eta, rq_eta, rs_eta, elDef, -List.getD_eq_getElem?_getD] at h); conv => whnf))
                            first | omega | rfl | exact inK_byte _ | (simp only [inK, Int.toNat_natCast, nd_eta, sh_eta, it_eta, sto_eta, op_eta, ch_eta, nw_eta, fl_eta, rq_eta, rs_eta, elDef] <;> first | omega | grind) | grind [inK]) ?_ <;> conv => whnf)
      | (refine Gd.mk (fun h => ?_) <;> (try simp [nd_eta, sh_eta, it_eta, sto_eta, op_eta, ch_eta, nw_eta, fl_eta, rq_eta, rs_eta, elDef, -List.getD_eq_getElem?_getD] at h) <;> conv => whnf)
      | (refine And.intro ?_ ?_ <;> conv => whnf)
      | exact True.intro
      | (intro; conv => whnf)
    exact hK 0 ⟨by omega, .inr rfl⟩
  have hl : 0 < (code.length : Int) := by have := List.length_pos_iff.2 hc; omega
  have hmod := emod_rng hl
  have hdiv := ediv_rng hl
  conv => whnf
  repeat' first
    | (refine Cnd.mk (fun h => ?_) (fun h => ?_) <;> (try simp [nd_eta, sh_eta, it_eta, sto_eta, op_eta, ch_eta, nw_eta, fl_eta, rq_eta, rs_eta, elDef, -List.getD_eq_getElem?_getD] at h) <;> conv => whnf)
    | (refine Obl.mk (by first | omega | rfl | exact inK_byte _ | (simp only [inK, Int.toNat_natCast, nd_eta, sh_eta, it_eta, sto_eta, op_eta, ch_eta, nw_eta, fl_eta, rq_eta, rs_eta, elDef] <;> first | omega | grind) | grind [inK]) ?_ <;> conv => whnf)
    | (refine OblG.mk (by conv => whnf
                          repeat (first | (refine Bx.mk ?_) | (intro h; (try simp [nd_eta, sh_eta, it_eta, sto_eta, op_eta, ch_eta, nw_eta, fl_eta, rq_eta, rs_eta, elDef, -List.getD_eq_getElem?_getD] at h); conv => whnf))
                          first | omega | rfl | exact inK_byte _ | (simp only [inK, Int.toNat_natCast, nd_eta, sh_eta, it_eta, sto_eta, op_eta, ch_eta, nw_eta, fl_eta, rq_eta, rs_eta, elDef] <;> first | omega | grind) | grind [inK]) ?_ <;> conv => whnf)
    | (refine Gd.mk (fun h => ?_) <;> (try simp [nd_eta, sh_eta, it_eta, sto_eta, op_eta, ch_eta, nw_eta, fl_eta, rq_eta, rs_eta, elDef, -List.getD_eq_getElem?_getD] at h) <;> conv => whnf)
    | (refine And.intro ?_ ?_ <;> conv => whnf)
    | exact True.intro
    | (intro; conv => whnf)
  · exact hK 0 ⟨by omega, .inr rfl⟩
  · have hn := emod_rng (m := n) (by omega)
    exact hK _ ⟨(hn _).1, .inl (hn _).2⟩
  have q1 := hby ((p + 1 - 1) % (code.length : Int)).toNat
  have q2 := hby (((p + 1 - 1) * 7 + 3) % (code.length : Int)).toNat
  have q3 := hdiv (p + 1 - 1) (by omega)
  refine Obl.mk (hmod _) ?_
  conv => whnf
  repeat' first
    | (refine Cnd.mk (fun h => ?_) (fun h => ?_) <;> (try simp [nd_eta, sh_eta, it_eta, sto_eta, op_eta, ch_eta, nw_eta, fl_eta, rq_eta, rs_eta, elDef, -List.getD_eq_getElem?_getD] at h) <;> conv => whnf)
    | (refine Obl.mk (by first | omega | rfl | exact inK_byte _ | (simp only [inK, Int.toNat_natCast, nd_eta, sh_eta, it_eta, sto_eta, op_eta, ch_eta, nw_eta, fl_eta, rq_eta, rs_eta, elDef] <;> first | omega | grind) | grind [inK]) ?_ <;> conv => whnf)
    | (refine OblG.mk (by conv => whnf
                          repeat (first | (refine Bx.mk ?_) | (intro h; (try simp [nd_eta, sh_eta, it_eta, sto_eta, op_eta, ch_eta, nw_eta, fl_eta, rq_eta, rs_eta, elDef, -List.getD_eq_getElem?_getD] at h); conv => whnf))
                          first | omega | rfl | exact inK_byte _ | (simp only [inK, Int.toNat_natCast, nd_eta, sh_eta, it_eta, sto_eta, op_eta, ch_eta, nw_eta, fl_eta, rq_eta, rs_eta, elDef] <;> first | omega | grind) | grind [inK]) ?_ <;> conv => whnf)
    | (refine Gd.mk (fun h => ?_) <;> (try simp [nd_eta, sh_eta, it_eta, sto_eta, op_eta, ch_eta, nw_eta, fl_eta, rq_eta, rs_eta, elDef, -List.getD_eq_getElem?_getD] at h) <;> conv => whnf)
    | (refine And.intro ?_ ?_ <;> conv => whnf)
    | exact True.intro
    | (intro; conv => whnf)
  refine Obl.mk (hmod _) ?_
  conv => whnf
  repeat' first
    | (refine Cnd.mk (fun h => ?_) (fun h => ?_) <;> (try simp [nd_eta, sh_eta, it_eta, sto_eta, op_eta, ch_eta, nw_eta, fl_eta, rq_eta, rs_eta, elDef, -List.getD_eq_getElem?_getD] at h) <;> conv => whnf)
    | (refine Obl.mk (by first | omega | rfl | exact inK_byte _ | (simp only [inK, Int.toNat_natCast, nd_eta, sh_eta, it_eta, sto_eta, op_eta, ch_eta, nw_eta, fl_eta, rq_eta, rs_eta, elDef] <;> first | omega | grind) | grind [inK]) ?_ <;> conv => whnf)
    | (refine OblG.mk (by conv => whnf
                          repeat (first | (refine Bx.mk ?_) | (intro h; (try simp [nd_eta, sh_eta, it_eta, sto_eta, op_eta, ch_eta, nw_eta, fl_eta, rq_eta, rs_eta, elDef, -List.getD_eq_getElem?_getD] at h); conv => whnf))
                          first | omega | rfl | exact inK_byte _ | (simp only [inK, Int.toNat_natCast, nd_eta, sh_eta, it_eta, sto_eta, op_eta, ch_eta, nw_eta, fl_eta, rq_eta, rs_eta, elDef] <;> first | omega | grind) | grind [inK]) ?_ <;> conv => whnf)
    | (refine Gd.mk (fun h => ?_) <;> (try simp [nd_eta, sh_eta, it_eta, sto_eta, op_eta, ch_eta, nw_eta, fl_eta, rq_eta, rs_eta, elDef, -List.getD_eq_getElem?_getD] at h) <;> conv => whnf)
    | (refine And.intro ?_ ?_ <;> conv => whnf)
    | exact True.intro
    | (intro; conv => whnf)
  have hn := emod_rng (m := n) (by omega)
  exact hK _ ⟨(hn _).1, .inl (hn _).2⟩
theorem s21 : (CtrOK Try.prog 21 (.gen false C21) ∧ Callable Try.prog 21) := by
  refine gen_ok (E := E21) (mkE_nil tab_ok) mix (O := O21) (C := C21) (own := false) Try.func21 rfl (by rfl) (by kernel_rfl) (fun args K h hbd => ?_)
  unfold C21 at h; split at h
  case h_2 => exact h.elim
  exact ⟨Nat.le_of_ble_eq_true rfl, a21 _ _ _ (by exact hbd) _ h⟩
noncomputable def c18 (code : List Int) (p : Int) (l : List Int) (K : AV → List AV → Prop) : Prop :=
    Obl ((0 ≤ p ∧ p ≤ 1000000000) ∧ byOk code ∧ 0 < l.length) (∀ r : Int, r ∈ l → K (.int .i64 r) [.ref [.ps .u8 code, .int .i64 (p + 1)]])
noncomputable def C18 : List AV → (AV → List AV → Prop) → Prop
  | [.ref [.ps .u8 code, .int .i64 p], .ps .i64 l], K => c18 code p l K
  | _, _ => False
noncomputable def E18 : Ctx := mkE tab [(21, .gen false C21)]
noncomputable def O18 : Nat → List DI := ordL []
theorem a18 (code : List Int) (p : Int) (l : List Int) (hb : BdAs [.ref [.ps .u8 code, .int .i64 p], .ps .i64 l]) (K : AV → List AV → Prop) (h : c18 code p l K) : abody E18 O18 false Try.f18 (Try.f18.body.getD .skip) [.ref [.ps .u8 code, .int .i64 p], .ps .i64 l] K := by
  simp only [BdAs, BdA, BdL, BdC, MX, ndC, shC, itC, stC, opC, chC, nwC, flC, rqC, rsC, enc, List.cons_append, List.nil_append, and_true, true_and] at hb
  unfold c18 at h
  obtain ⟨⟨hp, ho, hl⟩, hK⟩ := h
  conv => whnf
  repeat' first
    | (refine Cnd.mk (fun h => ?_) (fun h => ?_) <;> (try simp [nd_eta, sh_eta, it_eta, sto_eta, op_eta, ch_eta, nw_eta, fl_eta, rq_eta, rs_eta, elDef, -List.getD_eq_getElem?_getD] at h) <;> conv => whnf)
    | (refine Obl.mk (by first | omega | rfl | exact inK_byte _ | (simp only [inK, Int.toNat_natCast, nd_eta, sh_eta, it_eta, sto_eta, op_eta, ch_eta, nw_eta, fl_eta, rq_eta, rs_eta, elDef] <;> first | omega | grind) | grind [inK]) ?_ <;> conv => whnf)
    | (refine OblG.mk (by conv => whnf
                          repeat (first | (refine Bx.mk ?_) | (intro h; (try simp [nd_eta, sh_eta, it_eta, sto_eta, op_eta, ch_eta, nw_eta, fl_eta, rq_eta, rs_eta, elDef, -List.getD_eq_getElem?_getD] at h); conv => whnf))
                          first | omega | rfl | exact inK_byte _ | (simp only [inK, Int.toNat_natCast, nd_eta, sh_eta, it_eta, sto_eta, op_eta, ch_eta, nw_eta, fl_eta, rq_eta, rs_eta, elDef] <;> first | omega | grind) | grind [inK]) ?_ <;> conv => whnf)
    | (refine Gd.mk (fun h => ?_) <;> (try simp [nd_eta, sh_eta, it_eta, sto_eta, op_eta, ch_eta, nw_eta, fl_eta, rq_eta, rs_eta, elDef, -List.getD_eq_getElem?_getD] at h) <;> conv => whnf)
    | (refine And.intro ?_ ?_ <;> conv => whnf)
    | exact True.intro
    | (intro; conv => whnf)
  exact hK _ (getD_mem (by omega))
theorem s18 : (CtrOK Try.prog 18 (.gen false C18) ∧ Callable Try.prog 18) := by
  refine gen_ok (E := E18) (mkE_cons s21 (mkE_nil tab_ok)) mix (O := O18) (C := C18) (own := false) Try.func18 rfl (by rfl) (by kernel_rfl) (fun args K h hbd => ?_)
  unfold C18 at h; split at h
  case h_2 => exact h.elim
  exact ⟨Nat.le_of_ble_eq_true rfl, a18 _ _ _ (by exact hbd) _ h⟩
noncomputable def c63 (code : List Int) (p : Int) (l : List Bs) (K : AV → List AV → Prop) : Prop :=
    Obl ((0 ≤ p ∧ p ≤ 1000000000) ∧ byOk code ∧ 0 < l.length) (∀ r : Bs, r ∈ l → K (.str r) [.ref [.ps .u8 code, .int .i64 (p + 1)]])
noncomputable def C63 : List AV → (AV → List AV → Prop) → Prop
  | [.ref [.ps .u8 code, .int .i64 p], .ps .str l], K => c63 code p l K
  | _, _ => False
noncomputable def E63 : Ctx := mkE tab [(21, .gen false C21)]
noncomputable def O63 : Nat → List DI := ordL []
theorem a63 (code : List Int) (p : Int) (l : List Bs) (hb : BdAs [.ref [.ps .u8 code, .int .i64 p], .ps .str l]) (K : AV → List AV → Prop) (h : c63 code p l K) : abody E63 O63 false Try.f63 (Try.f63.body.getD .skip) [.ref [.ps .u8 code, .int .i64 p], .ps .str l] K := by
  simp only [BdAs, BdA, BdL, BdC, MX, ndC, shC, itC, stC, opC, chC, nwC, flC, rqC, rsC, enc, List.cons_append, List.nil_append, and_true, true_and] at hb
  unfold c63 at h
  obtain ⟨⟨hp, ho, hl⟩, hK⟩ := h
  conv => whnf
  repeat' first
    | (refine Cnd.mk (fun h => ?_) (fun h => ?_) <;> (try simp [nd_eta, sh_eta, it_eta, sto_eta, op_eta, ch_eta, nw_eta, fl_eta, rq_eta, rs_eta, elDef, -List.getD_eq_getElem?_getD] at h) <;> conv => whnf)
    | (refine Obl.mk (by first | omega | rfl | exact inK_byte _ | (simp only [inK, Int.toNat_natCast, nd_eta, sh_eta, it_eta, sto_eta, op_eta, ch_eta, nw_eta, fl_eta, rq_eta, rs_eta, elDef] <;> first | omega | grind) | grind [inK]) ?_ <;> conv => whnf)
    | (refine OblG.mk (by conv => whnf
                          repeat (first | (refine Bx.mk ?_) | (intro h; (try simp [nd_eta, sh_eta, it_eta, sto_eta, op_eta, ch_eta, nw_eta, fl_eta, rq_eta, rs_eta, elDef, -List.getD_eq_getElem?_getD] at h); conv => whnf))
                          first | omega | rfl | exact inK_byte _ | (simp only [inK, Int.toNat_natCast, nd_eta, sh_eta, it_eta, sto_eta, op_eta, ch_eta, nw_eta, fl_eta, rq_eta, rs_eta, elDef] <;> first | omega | grind) | grind [inK]) ?_ <;> conv => whnf)
    | (refine Gd.mk (fun h => ?_) <;> (try simp [nd_eta, sh_eta, it_eta, sto_eta, op_eta, ch_eta, nw_eta, fl_eta, rq_eta, rs_eta, elDef, -List.getD_eq_getElem?_getD] at h) <;> conv => whnf)
    | (refine And.intro ?_ ?_ <;> conv => whnf)
    | exact True.intro
    | (intro; conv => whnf)
  exact hK _ (getD_mem (by omega))
theorem s63 : (CtrOK Try.prog 63 (.gen false C63) ∧ Callable Try.prog 63) := by
  refine gen_ok (E := E63) (mkE_cons s21 (mkE_nil tab_ok)) mix (O := O63) (C := C63) (own := false) Try.func63 rfl (by rfl) (by kernel_rfl) (fun args K h hbd => ?_)
  unfold C63 at h; split at h
  case h_2 => exact h.elim
  exact ⟨Nat.le_of_ble_eq_true rfl, a63 _ _ _ (by exact hbd) _ h⟩
noncomputable def c64 (code : List Int) (p : Int) (K : AV → List AV → Prop) : Prop :=
    Obl ((0 ≤ p ∧ p ≤ 1000000000) ∧ byOk code) (∀ r : Bs, r.length ≤ 20 → K (.str r) [.ref [.ps .u8 code, .int .i64 (p + 1)]])
noncomputable def C64 : List AV → (AV → List AV → Prop) → Prop
  | [.ref [.ps .u8 code, .int .i64 p]], K => c64 code p K
  | _, _ => False
noncomputable def E64 : Ctx := mkE tab [(63, .gen false C63)]
noncomputable def O64 : Nat → List DI := ordL []
theorem a64 (code : List Int) (p : Int) (hb : BdAs [.ref [.ps .u8 code, .int .i64 p]]) (K : AV → List AV → Prop) (h : c64 code p K) : abody E64 O64 false Try.f64 (Try.f64.body.getD .skip) [.ref [.ps .u8 code, .int .i64 p]] K := by
  simp only [BdAs, BdA, BdL, BdC, MX, ndC, shC, itC, stC, opC, chC, nwC, flC, rqC, rsC, enc, List.cons_append, List.nil_append, and_true, true_and] at hb
  unfold c64 at h
  obtain ⟨⟨hp, ho⟩, hK⟩ := h
  conv => whnf
  repeat' first
    | (refine Cnd.mk (fun h => ?_) (fun h => ?_) <;> (try simp [nd_eta, sh_eta, it_eta, sto_eta, op_eta, ch_eta, nw_eta, fl_eta, rq_eta, rs_eta, elDef, -List.getD_eq_getElem?_getD] at h) <;> conv => whnf)
    | (refine Obl.mk (by first | omega | rfl | exact inK_byte _ | (simp only [inK, Int.toNat_natCast, nd_eta, sh_eta, it_eta, sto_eta, op_eta, ch_eta, nw_eta, fl_eta, rq_eta, rs_eta, elDef] <;> first | omega | grind) | grind [inK]) ?_ <;> conv => whnf)
    | (refine OblG.mk (by conv => whnf
                          repeat (first | (refine Bx.mk ?_) | (intro h; (try simp [nd_eta, sh_eta, it_eta, sto_eta, op_eta, ch_eta, nw_eta, fl_eta, rq_eta, rs_eta, elDef, -List.getD_eq_getElem?_getD] at h); conv => whnf))
                          first | omega | rfl | exact inK_byte _ | (simp only [inK, Int.toNat_natCast, nd_eta, sh_eta, it_eta, sto_eta, op_eta, ch_eta, nw_eta, fl_eta, rq_eta, rs_eta, elDef] <;> first | omega | grind) | grind [inK]) ?_ <;> conv => whnf)
    | (refine Gd.mk (fun h => ?_) <;> (try simp [nd_eta, sh_eta, it_eta, sto_eta, op_eta, ch_eta, nw_eta, fl_eta, rq_eta, rs_eta, elDef, -List.getD_eq_getElem?_getD] at h) <;> conv => whnf)
    | (refine And.intro ?_ ?_ <;> conv => whnf)
    | exact True.intro
    | (intro; conv => whnf)
  rename_i r hr
  refine hK r ?_
  clear hK hb
  revert r
  decide
theorem s64 : (CtrOK Try.prog 64 (.gen false C64) ∧ Callable Try.prog 64) := by
  refine gen_ok (E := E64) (mkE_cons s63 (mkE_nil tab_ok)) mix (O := O64) (C := C64) (own := false) Try.func64 rfl (by rfl) (by kernel_rfl) (fun args K h hbd => ?_)
  unfold C64 at h; split at h
  case h_2 => exact h.elim
  exact ⟨Nat.le_of_ble_eq_true rfl, a64 _ _ (by exact hbd) _ h⟩
noncomputable def c65 (code : List Int) (p : Int) (K : AV → List AV → Prop) : Prop :=
    Obl ((0 ≤ p ∧ p ≤ 1000000000) ∧ byOk code) (∀ r : Bs, r.length ≤ 20 → K (.str r) [.ref [.ps .u8 code, .int .i64 (p + 1)]])
noncomputable def C65 : List AV → (AV → List AV → Prop) → Prop
  | [.ref [.ps .u8 code, .int .i64 p]], K => c65 code p K
  | _, _ => False
noncomputable def E65 : Ctx := mkE tab [(63, .gen false C63)]
noncomputable def O65 : Nat → List DI := ordL []
theorem a65 (code : List Int) (p : Int) (hb : BdAs [.ref [.ps .u8 code, .int .i64 p]]) (K : AV → List AV → Prop) (h : c65 code p K) : abody E65 O65 false Try.f65 (Try.f65.body.getD .skip) [.ref [.ps .u8 code, .int .i64 p]] K := by
  simp only [BdAs, BdA, BdL, BdC, MX, ndC, shC, itC, stC, opC, chC, nwC, flC, rqC, rsC, enc, List.cons_append, List.nil_append, and_true, true_and] at hb
  unfold c65 at h
  obtain ⟨⟨hp, ho⟩, hK⟩ := h
  conv => whnf
  repeat' first
    | (refine Cnd.mk (fun h => ?_) (fun h => ?_) <;> (try simp [nd_eta, sh_eta, it_eta, sto_eta, op_eta, ch_eta, nw_eta, fl_eta, rq_eta, rs_eta, elDef, -List.getD_eq_getElem?_getD] at h) <;> conv => whnf)
    | (refine Obl.mk (by first | omega | rfl | exact inK_byte _ | (simp only [inK, Int.toNat_natCast, nd_eta, sh_eta, it_eta, sto_eta, op_eta, ch_eta, nw_eta, fl_eta, rq_eta, rs_eta, elDef] <;> first | omega | grind) | grind [inK]) ?_ <;> conv => whnf)
    | (refine OblG.mk (by conv => whnf
                          repeat (first | (refine Bx.mk ?_) | (intro h; (try simp [nd_eta, sh_eta, it_eta, sto_eta, op_eta, ch_eta, nw_eta, fl_eta, rq_eta, rs_eta, elDef, -List.getD_eq_getElem?_getD] at h); conv => whnf))
                          first | omega | rfl | exact inK_byte _ | (simp only [inK, Int.toNat_natCast, nd_eta, sh_eta, it_eta, sto_eta, op_eta, ch_eta, nw_eta, fl_eta, rq_eta, rs_eta, elDef] <;> first | omega | grind) | grind [inK]) ?_ <;> conv => whnf)
    | (refine Gd.mk (fun h => ?_) <;> (try simp [nd_eta, sh_eta, it_eta, sto_eta, op_eta, ch_eta, nw_eta, fl_eta, rq_eta, rs_eta, elDef, -List.getD_eq_getElem?_getD] at h) <;> conv => whnf)
    | (refine And.intro ?_ ?_ <;> conv => whnf)
    | exact True.intro
    | (intro; conv => whnf)
  rename_i r hr
  refine hK r ?_
  clear hK hb
  revert r
  decide
theorem s65 : (CtrOK Try.prog 65 (.gen false C65) ∧ Callable Try.prog 65) := by
  refine gen_ok (E := E65) (mkE_cons s63 (mkE_nil tab_ok)) mix (O := O65) (C := C65) (own := false) Try.func65 rfl (by rfl) (by kernel_rfl) (fun args K h hbd => ?_)
  unfold C65 at h; split at h
  case h_2 => exact h.elim
  exact ⟨Nat.le_of_ble_eq_true rfl, a65 _ _ (by exact hbd) _ h⟩
noncomputable def c49 (code : List Int) (p : Int) (K : AV → List AV → Prop) : Prop :=
    Obl ((0 ≤ p ∧ p ≤ 1000000000) ∧ byOk code) (∀ r : Bs, r.length ≤ 20 → K (.str r) [.ref [.ps .u8 code, .int .i64 (p + 1)]])
noncomputable def C49 : List AV → (AV → List AV → Prop) → Prop
  | [.ref [.ps .u8 code, .int .i64 p]], K => c49 code p K
  | _, _ => False
noncomputable def E49 : Ctx := mkE tab [(63, .gen false C63)]
noncomputable def O49 : Nat → List DI := ordL []
theorem a49 (code : List Int) (p : Int) (hb : BdAs [.ref [.ps .u8 code, .int .i64 p]]) (K : AV → List AV → Prop) (h : c49 code p K) : abody E49 O49 false Try.f49 (Try.f49.body.getD .skip) [.ref [.ps .u8 code, .int .i64 p]] K := by
  simp only [BdAs, BdA, BdL, BdC, MX, ndC, shC, itC, stC, opC, chC, nwC, flC, rqC, rsC, enc, List.cons_append, List.nil_append, and_true, true_and] at hb
  unfold c49 at h
  obtain ⟨⟨hp, ho⟩, hK⟩ := h
  conv => whnf
  repeat' first
    | (refine Cnd.mk (fun h => ?_) (fun h => ?_) <;> (try simp [nd_eta, sh_eta, it_eta, sto_eta, op_eta, ch_eta, nw_eta, fl_eta, rq_eta, rs_eta, elDef, -List.getD_eq_getElem?_getD] at h) <;> conv => whnf)
    | (refine Obl.mk (by first | omega | rfl | exact inK_byte _ | (simp only [inK, Int.toNat_natCast, nd_eta, sh_eta, it_eta, sto_eta, op_eta, ch_eta, nw_eta, fl_eta, rq_eta, rs_eta, elDef] <;> first | omega | grind) | grind [inK]) ?_ <;> conv => whnf)
    | (refine OblG.mk (by conv => whnf
                          repeat (first | (refine Bx.mk ?_) | (intro h; (try simp [nd_eta, sh_eta, it_eta, sto_eta, op_eta, ch_eta, nw_eta, fl_eta, rq_eta, rs_eta, elDef, -List.getD_eq_getElem?_getD] at h); conv => whnf))
                          first | omega | rfl | exact inK_byte _ | (simp only [inK, Int.toNat_natCast, nd_eta, sh_eta, it_eta, sto_eta, op_eta, ch_eta, nw_eta, fl_eta, rq_eta, rs_eta, elDef] <;> first | omega | grind) | grind [inK]) ?_ <;> conv => whnf)
    | (refine Gd.mk (fun h => ?_) <;> (try simp [nd_eta, sh_eta, it_eta, sto_eta, op_eta, ch_eta, nw_eta, fl_eta, rq_eta, rs_eta, elDef, -List.getD_eq_getElem?_getD] at h) <;> conv => whnf)
    | (refine And.intro ?_ ?_ <;> conv => whnf)
    | exact True.intro
    | (intro; conv => whnf)
  rename_i r hr
  refine hK r ?_
  clear hK hb
  revert r
  decide
theorem s49 : (CtrOK Try.prog 49 (.gen false C49) ∧ Callable Try.prog 49) := by
  refine gen_ok (E := E49) (mkE_cons s63 (mkE_nil tab_ok)) mix (O := O49) (C := C49) (own := false) Try.func49 rfl (by rfl) (by kernel_rfl) (fun args K h hbd => ?_)
  unfold C49 at h; split at h
  case h_2 => exact h.elim
  exact ⟨Nat.le_of_ble_eq_true rfl, a49 _ _ (by exact hbd) _ h⟩
noncomputable def c48 (code : List Int) (p : Int) (K : AV → List AV → Prop) : Prop :=
    Obl ((0 ≤ p ∧ p ≤ 1000000000) ∧ byOk code) (∀ r : Bs, r.length ≤ 20 → K (.str r) [.ref [.ps .u8 code, .int .i64 (p + 1)]])
noncomputable def C48 : List AV → (AV → List AV → Prop) → Prop
  | [.ref [.ps .u8 code, .int .i64 p]], K => c48 code p K
  | _, _ => False
noncomputable def E48 : Ctx := mkE tab [(63, .gen false C63)]
noncomputable def O48 : Nat → List DI := ordL []
theorem a48 (code : List Int) (p : Int) (hb : BdAs [.ref [.ps .u8 code, .int .i64 p]]) (K : AV → List AV → Prop) (h : c48 code p K) : abody E48 O48 false Try.f48 (Try.f48.body.getD .skip) [.ref [.ps .u8 code, .int .i64 p]] K := by
  simp only [BdAs, BdA, BdL, BdC, MX, ndC, shC, itC, stC, opC, chC, nwC, flC, rqC, rsC, enc, List.cons_append, List.nil_append, and_true, true_and] at hb
  unfold c48 at h
  obtain ⟨⟨hp, ho⟩, hK⟩ := h
  conv => whnf
  repeat' first
    | (refine Cnd.mk (fun h => ?_) (fun h => ?_) <;> (try simp [nd_eta, sh_eta, it_eta, sto_eta, op_eta, ch_eta, nw_eta, fl_eta, rq_eta, rs_eta, elDef, -List.getD_eq_getElem?_getD] at h) <;> conv => whnf)
    | (refine Obl.mk (by first | omega | rfl | exact inK_byte _ | (simp only [inK, Int.toNat_natCast, nd_eta, sh_eta, it_eta, sto_eta, op_eta, ch_eta, nw_eta, fl_eta, rq_eta, rs_eta, elDef] <;> first | omega | grind) | grind [inK]) ?_ <;> conv => whnf)
    | (refine OblG.mk (by conv => whnf
                          repeat (first | (refine Bx.mk ?_) | (intro h; (try simp [nd_eta, sh_eta, it_eta, sto_eta, op_eta, ch_eta, nw_eta, fl_eta, rq_eta, rs_eta, elDef, -List.getD_eq_getElem?_getD] at h); conv => whnf))
                          first | omega | rfl | exact inK_byte _ | (simp only [inK, Int.toNat_natCast, nd_eta, sh_eta, it_eta, sto_eta, op_eta, ch_eta, nw_eta, fl_eta, rq_eta, rs_eta, elDef] <;> first | omega | grind) | grind [inK]) ?_ <;> conv => whnf)
    | (refine Gd.mk (fun h => ?_) <;> (try simp [nd_eta, sh_eta, it_eta, sto_eta, op_eta, ch_eta, nw_eta, fl_eta, rq_eta, rs_eta, elDef, -List.getD_eq_getElem?_getD] at h) <;> conv => whnf)
    | (refine And.intro ?_ ?_ <;> conv => whnf)
    | exact True.intro
    | (intro; conv => whnf)
  rename_i r hr
  refine hK r ?_
  clear hK hb
  revert r
  decide
theorem s48 : (CtrOK Try.prog 48 (.gen false C48) ∧ Callable Try.prog 48) := by
  refine gen_ok (E := E48) (mkE_cons s63 (mkE_nil tab_ok)) mix (O := O48) (C := C48) (own := false) Try.func48 rfl (by rfl) (by kernel_rfl) (fun args K h hbd => ?_)
  unfold C48 at h; split at h
  case h_2 => exact h.elim
  exact ⟨Nat.le_of_ble_eq_true rfl, a48 _ _ (by exact hbd) _ h⟩
end Go.Rs

