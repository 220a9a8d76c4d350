import Derived.Test.YtpiclhdjglelhaaDF
import Derived.Test.YtpiclhdjglelhaaCT
import Derived.Test.YtpiclhdjglelhaaME
set_option linter.all false
namespace Go.Rs
open Go.Proofs
set_option maxRecDepth 100000
set_option linter.unusedVariables false
set_option linter.unusedSimpArgs false
noncomputable def c17 (n : Nd) (b : Bool) (K : AV → List AV → Prop) : Prop :=
    K (optN (if b && validM n then some n else none)) []
noncomputable def C17 : List AV → (AV → List AV → Prop) → Prop
  | [.st [.int .i64 n_0, .int .i64 n_1, .str n_2, .ps .str n_3, .ps .node n_4], .bool b], K => c17 ⟨n_0, n_1, n_2, n_3, n_4⟩ b K
  | _, _ => False
noncomputable def E17 : Ctx := mkE tab [(15, .pure F15)]
noncomputable def O17 : Nat → List DI := ordL []
theorem a17 (n : Nd) (b : Bool) (hb : BdAs [.st (ndC n), .bool b]) (K : AV → List AV → Prop) (h : c17 n b K) : abody E17 O17 .ps Try.f17 (Try.f17.body.getD .skip) [.st (ndC n), .bool b] K := by
  simp only [BdAs, BdA, BdL, BdC, MX, ndC, shC, itC, stC, opC, chC, nwC, flC, rqC, rsC, enc, List.cons_append, List.nil_append, and_true, true_and] at hb
  unfold c17 at h
  have hK9 := h
  conv => whnf
  repeat' first
    | (refine Cnd.mk (fun h => ?_) (fun h => ?_) <;> (try simp [nd_eta, sh_eta, it_eta, sto_eta, op_eta, ch_eta, nw_eta, fl_eta, rq_eta, rs_eta, elDef, -List.getD_eq_getElem?_getD] at h) <;> conv => whnf)
    | (refine Obl.mk (by first | omega | rfl | exact inK_byte _ | (simp only [inK, Int.toNat_natCast, nd_eta, sh_eta, it_eta, sto_eta, op_eta, ch_eta, nw_eta, fl_eta, rq_eta, rs_eta, elDef] <;> first | omega | grind) | grind [inK]) ?_ <;> conv => whnf)
    | (refine OblG.mk (by conv => whnf
                          repeat (first | (refine Bx.mk ?_) | (intro h; (try simp [nd_eta, sh_eta, it_eta, sto_eta, op_eta, ch_eta, nw_eta, fl_eta, rq_eta, rs_eta, elDef, -List.getD_eq_getElem?_getD] at h); conv => whnf))
                          first | omega | rfl | exact inK_byte _ | (simp only [inK, Int.toNat_natCast, nd_eta, sh_eta, it_eta, sto_eta, op_eta, ch_eta, nw_eta, fl_eta, rq_eta, rs_eta, elDef] <;> first | omega | grind) | grind [inK]) ?_ <;> conv => whnf)
    | (refine Gd.mk (fun h => ?_) <;> (try simp [nd_eta, sh_eta, it_eta, sto_eta, op_eta, ch_eta, nw_eta, fl_eta, rq_eta, rs_eta, elDef, -List.getD_eq_getElem?_getD] at h) <;> conv => whnf)
    | (refine And.intro ?_ ?_ <;> conv => whnf)
    | exact True.intro
    | (intro; conv => whnf)
  · exact leafV hK9 (by rw [if_neg (by grind)]; rfl)
  · exact leafV hK9 (by rw [if_pos (by grind)]; rfl)
theorem s17 : (CtrOK Try.prog 17 (.gen .ps C17) ∧ Callable Try.prog 17) := by
  refine gen_ok (E := E17) (mkE_cons s15 (mkE_nil tab_ok)) mix (O := O17) (C := C17) (own := .ps) Try.func17 rfl (by rfl) (by kernel_rfl) (fun args K h hbd => ?_)
  unfold C17 at h; split at h
  case h_2 => exact h.elim
  exact ⟨Nat.le_of_ble_eq_true rfl, a17 ⟨_, _, _, _, _⟩ _ (by exact hbd) _ h⟩
noncomputable def c9 (n : Nd) (p : Nd) (K : AV → List AV → Prop) : Prop :=
    K (optN (mergeNodeM n p)) []
noncomputable def C9 : List AV → (AV → List AV → Prop) → Prop
  | [.st [.int .i64 n_0, .int .i64 n_1, .str n_2, .ps .str n_3, .ps .node n_4], .st [.int .i64 p_0, .int .i64 p_1, .str p_2, .ps .str p_3, .ps .node p_4]], K => c9 ⟨n_0, n_1, n_2, n_3, n_4⟩ ⟨p_0, p_1, p_2, p_3, p_4⟩ K
  | _, _ => False
noncomputable def E9 : Ctx := mkE tab [(15, .pure F15), (17, .gen .ps C17), (24, .gen .ps C24)]
noncomputable def O9 : Nat → List DI := ordL []
theorem a9 (n : Nd) (p : Nd) (hb : BdAs [.st (ndC n), .st (ndC p)]) (K : AV → List AV → Prop) (h : c9 n p K) : abody E9 O9 .ps Try.f9 (Try.f9.body.getD .skip) [.st (ndC n), .st (ndC p)] K := by
  simp only [BdAs, BdA, BdL, BdC, MX, ndC, shC, itC, stC, opC, chC, nwC, flC, rqC, rsC, enc, List.cons_append, List.nil_append, and_true, true_and] at hb
  unfold c9 at h
  have hK9 := h
  have h1 := fun h => validM_ok (n := n) h
  have h2 := fun h => validM_ok (n := p) h
  conv => whnf
  repeat' first
    | (refine Cnd.mk (fun h => ?_) (fun h => ?_) <;> (try simp [nd_eta, sh_eta, it_eta, sto_eta, op_eta, ch_eta, nw_eta, fl_eta, rq_eta, rs_eta, elDef, -List.getD_eq_getElem?_getD] at h) <;> conv => whnf)
    | (refine Obl.mk (by first | omega | rfl | exact inK_byte _ | (simp only [inK, Int.toNat_natCast, nd_eta, sh_eta, it_eta, sto_eta, op_eta, ch_eta, nw_eta, fl_eta, rq_eta, rs_eta, elDef, m24] <;> first | omega | grind) | grind [inK, m24]) ?_ <;> conv => whnf)
    | (refine OblG.mk (by conv => whnf
                          repeat (first | (refine Bx.mk ?_) | (intro h; (try simp [nd_eta, sh_eta, it_eta, sto_eta, op_eta, ch_eta, nw_eta, fl_eta, rq_eta, rs_eta, elDef, -List.getD_eq_getElem?_getD] at h); conv => whnf))
                          first | omega | rfl | exact inK_byte _ | (simp only [inK, Int.toNat_natCast, nd_eta, sh_eta, it_eta, sto_eta, op_eta, ch_eta, nw_eta, fl_eta, rq_eta, rs_eta, elDef, m24] <;> first | omega | grind) | grind [inK, m24]) ?_ <;> conv => whnf)
    | (refine Gd.mk (fun h => ?_) <;> (try simp [nd_eta, sh_eta, it_eta, sto_eta, op_eta, ch_eta, nw_eta, fl_eta, rq_eta, rs_eta, elDef, -List.getD_eq_getElem?_getD] at h) <;> conv => whnf)
    | (refine And.intro ?_ ?_ <;> conv => whnf)
    | exact True.intro
    | (intro; conv => whnf)
  · have e : mergeNodeM n p = none := by unfold mergeNodeM; rw [if_neg (by grind)]
    exact leafV hK9 (by rw [e]; rfl)
  · have e : mergeNodeM n p = if true && validM (mrgM p n) then some (mrgM p n) else none := by
      unfold mergeNodeM
      rw [if_pos (by grind), Bool.true_and]
    refine leafV hK9 ?_
    rw [e]
    simp only [optN, nd_eta]; try rfl
theorem s9 : (CtrOK Try.prog 9 (.gen .ps C9) ∧ Callable Try.prog 9) := by
  refine gen_ok (E := E9) (mkE_cons s15 (mkE_cons s17 (mkE_cons s24 (mkE_nil tab_ok)))) mix (O := O9) (C := C9) (own := .ps) Try.func9 rfl (by rfl) (by kernel_rfl) (fun args K h hbd => ?_)
  unfold C9 at h; split at h
  case h_2 => exact h.elim
  exact ⟨Nat.le_of_ble_eq_true rfl, a9 ⟨_, _, _, _, _⟩ ⟨_, _, _, _, _⟩ (by exact hbd) _ h⟩
noncomputable def c54e (n : Nd) (p : List Bs) (K : AV → List AV → Prop) : Prop :=
    Obl (p.length = 0 ∧ smN n) (∀ r, r = n → K (.tup [.st (ndC r), .bool true]) [])
noncomputable def C54e : List AV → (AV → List AV → Prop) → Prop
  | [.st [.int .i64 n_0, .int .i64 n_1, .str n_2, .ps .str n_3, .ps .node n_4], .ps .str p], K => c54e ⟨n_0, n_1, n_2, n_3, n_4⟩ p K
  | _, _ => False
noncomputable def E54e : Ctx := mkE tab [(29, .gen .ps C29), (30, .pure F30)]
noncomputable def O54e : Nat → List DI := ordL [(4, [.q 0, .q 1, .q 2, .q 3, .q 4, .q 5, .q 6])]
theorem a54e (n : Nd) (p : List Bs) (hb : BdAs [.st (ndC n), .ps .str p]) (K : AV → List AV → Prop) (h : c54e n p K) : abody E54e O54e .ps Try.f54 (Try.f54.body.getD .skip) [.st (ndC n), .ps .str p] K := by
  simp only [BdAs, BdA, BdL, BdC, MX, ndC, shC, itC, stC, opC, chC, nwC, flC, rqC, rsC, enc, List.cons_append, List.nil_append, and_true, true_and] at hb
  unfold c54e at h
  obtain ⟨⟨h0, hs⟩, hK0⟩ := h
  have hK := hK0 _ rfl
  obtain rfl := List.length_eq_zero_iff.1 h0
  conv => whnf
  refine aloop_intro Nat (fun k => k ≤ ([] : List Bs).length ∧ True) (fun k => ([] : List Bs).length - k) (fun k => [(6, .int .i64 k)]) (fun k => []) [2, 4] 0 [] [] ?_ ?_ (by exact sgOk_of (by rfl)) ?_
  · first | (simp; done) | (simp; assumption)
  · (conv => whnf); (repeat' (first | exact trivial | rfl | (refine nilEq ?_; first | rfl | (simp only [*]; done) | (simp [*]; done) | grind) | apply And.intro | ((first | refine intEq ?_ | refine boolEq ?_ | refine strEq ?_ | refine psEq ?_ | refine nilEq ?_ | refine arrEq ?_); (try simp only [Int.toNat_natCast, nd_eta, sh_eta, it_eta, sto_eta, op_eta, ch_eta, nw_eta, fl_eta, rq_eta, rs_eta, elDef]); first | done | omega | grind | (simp only [*]; done) | (simp [*]; done)))); (all_goals (conv => whnf)); (repeat' (first | exact trivial | rfl | (refine nilEq ?_; first | rfl | (simp only [*]; done) | (simp [*]; done) | grind) | apply And.intro | ((first | refine intEq ?_ | refine boolEq ?_ | refine strEq ?_ | refine psEq ?_ | refine nilEq ?_ | refine arrEq ?_); (try simp only [Int.toNat_natCast, nd_eta, sh_eta, it_eta, sto_eta, op_eta, ch_eta, nw_eta, fl_eta, rq_eta, rs_eta, elDef]); first | done | omega | grind | (simp only [*]; done) | (simp [*]; done)) | ((try simp only [Int.toNat_natCast, nd_eta, sh_eta, it_eta, sto_eta, op_eta, ch_eta, nw_eta, fl_eta, rq_eta, rs_eta, elDef]); first | done | omega | grind | (simp only [*]; done) | (simp [*]; done))))
  rintro i ⟨hi, hj⟩
  conv => whnf
  simp only [List.length_nil] at hi
  repeat' first
    | (refine Cnd.mk (fun h => ?_) (fun h => ?_) <;> (try simp [nd_eta, sh_eta, it_eta, sto_eta, op_eta, ch_eta, nw_eta, fl_eta, rq_eta, rs_eta, elDef, -List.getD_eq_getElem?_getD] at h) <;> conv => whnf)
    | (refine Obl.mk (by first | omega | rfl | exact inK_byte _ | (simp only [inK, Int.toNat_natCast, nd_eta, sh_eta, it_eta, sto_eta, op_eta, ch_eta, nw_eta, fl_eta, rq_eta, rs_eta, elDef, m29, o30] <;> first | omega | grind) | grind [inK, m29, o30]) ?_ <;> conv => whnf)
    | (refine OblG.mk (by conv => whnf
                          repeat (first | (refine Bx.mk ?_) | (intro h; (try simp [nd_eta, sh_eta, it_eta, sto_eta, op_eta, ch_eta, nw_eta, fl_eta, rq_eta, rs_eta, elDef, -List.getD_eq_getElem?_getD] at h); conv => whnf))
                          first | omega | rfl | exact inK_byte _ | (simp only [inK, Int.toNat_natCast, nd_eta, sh_eta, it_eta, sto_eta, op_eta, ch_eta, nw_eta, fl_eta, rq_eta, rs_eta, elDef, m29, o30] <;> first | omega | grind) | grind [inK, m29, o30]) ?_ <;> conv => whnf)
    | (refine Gd.mk (fun h => ?_) <;> (try simp [nd_eta, sh_eta, it_eta, sto_eta, op_eta, ch_eta, nw_eta, fl_eta, rq_eta, rs_eta, elDef, -List.getD_eq_getElem?_getD] at h) <;> conv => whnf)
    | (refine And.intro ?_ ?_ <;> conv => whnf)
    | exact True.intro
    | (intro; conv => whnf)
  · exfalso; simp only [List.length_nil] at *; omega
  · exfalso; simp only [List.length_nil] at *; omega
  · exact leafV hK (by simp only [optN, Option.getD_some, Option.isSome_some, ndC, enc])
theorem s54e : (CtrOK Try.prog 54 (.gen .ps C54e) ∧ Callable Try.prog 54) := by
  refine gen_ok (E := E54e) (mkE_cons s29 (mkE_cons s30 (mkE_nil tab_ok))) mix (O := O54e) (C := C54e) (own := .ps) Try.func54 rfl (by rfl) (by kernel_rfl) (fun args K h hbd => ?_)
  unfold C54e at h; split at h
  case h_2 => exact h.elim
  exact ⟨Nat.le_of_ble_eq_true rfl, a54e ⟨_, _, _, _, _⟩ _ (by exact hbd) _ h⟩
noncomputable def c48e (n : Nd) (p : List Bs) (x : Nd) (K : AV → List AV → Prop) : Prop :=
    Obl (p.length = 0) (Gx (smN x) (K (optN (some x)) []))
noncomputable def C48e : List AV → (AV → List AV → Prop) → Prop
  | [.st [.int .i64 n_0, .int .i64 n_1, .str n_2, .ps .str n_3, .ps .node n_4], .ps .str p, .st [.int .i64 x_0, .int .i64 x_1, .str x_2, .ps .str x_3, .ps .node x_4]], K => c48e ⟨n_0, n_1, n_2, n_3, n_4⟩ p ⟨x_0, x_1, x_2, x_3, x_4⟩ K
  | _, _ => False
noncomputable def E48e : Ctx := mkE tab [(29, .gen .ps C29), (30, .pure F30), (32, .gen .ps C32), (48, .gen .ps C48)]
noncomputable def O48e : Nat → List DI := ordL [(3, [.q 0, .q 1, .q 2, .q 3, .q 4, .q 5]), (6, [.q 0, .q 1, .q 2, .q 3, .q 4, .q 5, .q 6, .q 7, .l 8 [], .q 9, .q 10, .q 11, .a 12, .l 13 [], .q 14])]
theorem a48e (n : Nd) (p : List Bs) (x : Nd) (hb : BdAs [.st (ndC n), .ps .str p, .st (ndC x)]) (K : AV → List AV → Prop) (h : c48e n p x K) : abody E48e O48e .ps Try.f48 (Try.f48.body.getD .skip) [.st (ndC n), .ps .str p, .st (ndC x)] K := by
  simp only [BdAs, BdA, BdL, BdC, MX, ndC, shC, itC, stC, opC, chC, nwC, flC, rqC, rsC, enc, List.cons_append, List.nil_append, and_true, true_and] at hb
  unfold c48e at h
  obtain ⟨h0, hx, hK⟩ := h
  obtain rfl := List.length_eq_zero_iff.1 h0
  conv => whnf
  repeat' first
    | (refine Cnd.mk (fun h => ?_) (fun h => ?_) <;> (try simp [nd_eta, sh_eta, it_eta, sto_eta, op_eta, ch_eta, nw_eta, fl_eta, rq_eta, rs_eta, elDef, -List.getD_eq_getElem?_getD] at h) <;> conv => whnf)
    | (refine Obl.mk (by first | omega | rfl | exact inK_byte _ | (simp only [inK, Int.toNat_natCast, nd_eta, sh_eta, it_eta, sto_eta, op_eta, ch_eta, nw_eta, fl_eta, rq_eta, rs_eta, elDef, m29, o30, m48] <;> first | omega | grind) | grind [inK, m29, o30, m48]) ?_ <;> conv => whnf)
    | (refine OblG.mk (by conv => whnf
                          repeat (first | (refine Bx.mk ?_) | (intro h; (try simp [nd_eta, sh_eta, it_eta, sto_eta, op_eta, ch_eta, nw_eta, fl_eta, rq_eta, rs_eta, elDef, -List.getD_eq_getElem?_getD] at h); conv => whnf))
                          first | omega | rfl | exact inK_byte _ | (simp only [inK, Int.toNat_natCast, nd_eta, sh_eta, it_eta, sto_eta, op_eta, ch_eta, nw_eta, fl_eta, rq_eta, rs_eta, elDef, m29, o30, m48] <;> first | omega | grind) | grind [inK, m29, o30, m48]) ?_ <;> conv => whnf)
    | (refine Gd.mk (fun h => ?_) <;> (try simp [nd_eta, sh_eta, it_eta, sto_eta, op_eta, ch_eta, nw_eta, fl_eta, rq_eta, rs_eta, elDef, -List.getD_eq_getElem?_getD] at h) <;> conv => whnf)
    | (refine And.intro ?_ ?_ <;> conv => whnf)
    | exact True.intro
    | (intro; conv => whnf)
  · exact leafV hK (by simp only [optN, Option.getD_some, Option.isSome_some, ndC, enc])
  all_goals (exfalso; simp_all)
theorem s48e : (CtrOK Try.prog 48 (.gen .ps C48e) ∧ Callable Try.prog 48) := by
  refine gen_ok (E := E48e) (mkE_cons s29 (mkE_cons s30 (mkE_cons s32 (mkE_cons s48 (mkE_nil tab_ok))))) mix (O := O48e) (C := C48e) (own := .ps) Try.func48 rfl (by rfl) (by kernel_rfl) (fun args K h hbd => ?_)
  unfold C48e at h; split at h
  case h_2 => exact h.elim
  exact ⟨Nat.le_of_ble_eq_true rfl, a48e ⟨_, _, _, _, _⟩ _ ⟨_, _, _, _, _⟩ (by exact hbd) _ h⟩
set_option maxHeartbeats 1000000
noncomputable def c31m (n : Nd) (p : List Bs) (K : AV → List AV → Prop) : Prop :=
    Obl ((((p.length = 1 ∧ n.kind = 4) ∧ smN n) ∧ evenN n) ∧ n.kids.length ≤ 100000 ∧ 0 ≤ placeM n (p.getD 0 [])) (K (optN (some (withoutM n (placeM n (p.getD 0 [])).toNat))) [])
noncomputable def C31m : List AV → (AV → List AV → Prop) → Prop
  | [.st [.int .i64 n_0, .int .i64 n_1, .str n_2, .ps .str n_3, .ps .node n_4], .ps .str p], K => c31m ⟨n_0, n_1, n_2, n_3, n_4⟩ p K
  | _, _ => False
noncomputable def E31m : Ctx := mkE tab [(30, .pure F30), (48, .gen .ps C48e), (54, .gen .ps C54e)]
noncomputable def O31m : Nat → List DI := ordL [(4, [.q 0, .q 1, .q 2, .q 3, .l 4 [], .q 5, .q 6, .q 7, .a 8, .l 9 [], .q 10]), (7, [.q 0, .q 1, .q 2, .q 3, .q 4, .q 5, .q 6]), (10, [.q 1, .q 2, .q 3, .q 4, .q 6, .q 7, .q 8, .q 9, .q 10, .l 0 [2, 4, 7, 10], .l 5 [7, 10], .l 11 [], .q 12]), (13, [.q 1, .q 2, .q 3, .q 4, .q 6, .q 7, .q 8, .q 9, .q 10, .l 0 [2, 4, 7, 10], .l 5 [7, 10], .l 11 [], .q 12]), (14, [.q 0, .q 1, .q 2, .q 3, .q 4, .q 5, .q 6, .q 7, .q 8, .l 9 [], .q 10, .q 11, .l 12 [], .q 13])]
theorem a31m (n : Nd) (p : List Bs) (hb : BdAs [.st (ndC n), .ps .str p]) (K : AV → List AV → Prop) (h : c31m n p K) : abody E31m O31m .ps Try.f31 (Try.f31.body.getD .skip) [.st (ndC n), .ps .str p] K := by
  simp only [BdAs, BdA, BdL, BdC, MX, ndC, shC, itC, stC, opC, chC, nwC, flC, rqC, rsC, enc, List.cons_append, List.nil_append, and_true, true_and] at hb
  unfold c31m at h
  obtain ⟨⟨⟨⟨⟨hl, hk⟩, hs⟩, hev⟩, hc, hp0⟩, hK⟩ := h
  have hn := hev hk
  conv => whnf
  repeat' first
    | (refine Cnd.mk (fun h => ?_) (fun h => ?_) <;> (try simp [nd_eta, sh_eta, it_eta, sto_eta, op_eta, ch_eta, nw_eta, fl_eta, rq_eta, rs_eta, elDef, -List.getD_eq_getElem?_getD] at h) <;> conv => whnf)
    | (refine Obl.mk (by first | omega | rfl | exact inK_byte _ | (simp only [inK, Int.toNat_natCast, nd_eta, sh_eta, it_eta, sto_eta, op_eta, ch_eta, nw_eta, fl_eta, rq_eta, rs_eta, elDef, List.length_take, List.length_drop, List.length_append, List.length_nil, Int.toNat_zero, List.drop_zero, o30] <;> first | omega | grind) | grind [inK, List.length_take, List.length_drop, List.length_append, List.length_nil, Int.toNat_zero, List.drop_zero, o30]) ?_ <;> conv => whnf)
    | (refine OblG.mk (by conv => whnf
                          repeat (first | (refine Bx.mk ?_) | (intro h; (try simp [nd_eta, sh_eta, it_eta, sto_eta, op_eta, ch_eta, nw_eta, fl_eta, rq_eta, rs_eta, elDef, -List.getD_eq_getElem?_getD] at h); conv => whnf))
                          first | omega | rfl | exact inK_byte _ | (simp only [inK, Int.toNat_natCast, nd_eta, sh_eta, it_eta, sto_eta, op_eta, ch_eta, nw_eta, fl_eta, rq_eta, rs_eta, elDef, List.length_take, List.length_drop, List.length_append, List.length_nil, Int.toNat_zero, List.drop_zero, o30] <;> first | omega | grind) | grind [inK, List.length_take, List.length_drop, List.length_append, List.length_nil, Int.toNat_zero, List.drop_zero, o30]) ?_ <;> conv => whnf)
    | (refine Gd.mk (fun h => ?_) <;> (try simp [nd_eta, sh_eta, it_eta, sto_eta, op_eta, ch_eta, nw_eta, fl_eta, rq_eta, rs_eta, elDef, -List.getD_eq_getElem?_getD] at h) <;> conv => whnf)
    | (refine And.intro ?_ ?_ <;> conv => whnf)
    | exact True.intro
  · exfalso; omega
  intro r hr
  rw [nd_eta] at hr
  have hrk : r.kind = 4 := by rw [hr]; exact hk
  have hrn : r.names.length = r.kids.length := by rw [hr]; exact hn
  have hrc : r.kids.length ≤ 100000 := by rw [hr]; exact hc
  have e5 : ((p.length : Int) - 1).toNat = p.length - 1 := by omega
  have e4 : p.length - 1 = 0 := by omega
  have hpl := placeM_ge r (p.getD ((p.length : Int) - 1).toNat [])
  have hpz : 0 ≤ placeM r (p.getD (p.length - 1) []) := by rw [hr, e4]; exact hp0
  have e6 : (placeM r (p.getD (p.length - 1) []) + 1).toNat = (placeM r (p.getD (p.length - 1) [])).toNat + 1 := by omega
  have hw := withoutM_sm (i := (placeM r (p.getD (p.length - 1) [])).toNat) (show smN r by rw [hr]; exact hs)
  rw [← hr, ← e4] at hK
  clear hr
  unfold withoutM outM at hw hK
  rw [if_pos hrk] at hw hK
  conv => whnf
  repeat' first
    | (refine Cnd.mk (fun h => ?_) (fun h => ?_) <;> (try simp [nd_eta, sh_eta, it_eta, sto_eta, op_eta, ch_eta, nw_eta, fl_eta, rq_eta, rs_eta, elDef, -List.getD_eq_getElem?_getD] at h) <;> conv => whnf)
    | (refine Obl.mk (by first | omega | rfl | exact inK_byte _ | (simp only [inK, Int.toNat_natCast, nd_eta, sh_eta, it_eta, sto_eta, op_eta, ch_eta, nw_eta, fl_eta, rq_eta, rs_eta, elDef, List.length_take, List.length_drop, List.length_append, List.length_nil, Int.toNat_zero, List.drop_zero, o30] <;> first | omega | grind) | grind [inK, List.length_take, List.length_drop, List.length_append, List.length_nil, Int.toNat_zero, List.drop_zero, o30]) ?_ <;> conv => whnf)
    | (refine OblG.mk (by conv => whnf
                          repeat (first | (refine Bx.mk ?_) | (intro h; (try simp [nd_eta, sh_eta, it_eta, sto_eta, op_eta, ch_eta, nw_eta, fl_eta, rq_eta, rs_eta, elDef, -List.getD_eq_getElem?_getD] at h); conv => whnf))
                          first | omega | rfl | exact inK_byte _ | (simp only [inK, Int.toNat_natCast, nd_eta, sh_eta, it_eta, sto_eta, op_eta, ch_eta, nw_eta, fl_eta, rq_eta, rs_eta, elDef, List.length_take, List.length_drop, List.length_append, List.length_nil, Int.toNat_zero, List.drop_zero, o30] <;> first | omega | grind) | grind [inK, List.length_take, List.length_drop, List.length_append, List.length_nil, Int.toNat_zero, List.drop_zero, o30]) ?_ <;> conv => whnf)
    | (refine Gd.mk (fun h => ?_) <;> (try simp [nd_eta, sh_eta, it_eta, sto_eta, op_eta, ch_eta, nw_eta, fl_eta, rq_eta, rs_eta, elDef, -List.getD_eq_getElem?_getD] at h) <;> conv => whnf)
    | (refine And.intro ?_ ?_ <;> conv => whnf)
    | exact True.intro
  · exfalso; omega
  · refine Gx.mk ?_ ?_
    · simp only [nd_eta, elDef, e5, Int.toNat_zero, List.drop_zero, Int.toNat_natCast, List.take_length, List.nil_append, e6]
      exact hw
    · conv => whnf
      repeat' first
        | (refine Cnd.mk (fun h => ?_) (fun h => ?_) <;> (try simp [nd_eta, sh_eta, it_eta, sto_eta, op_eta, ch_eta, nw_eta, fl_eta, rq_eta, rs_eta, elDef, -List.getD_eq_getElem?_getD] at h) <;> conv => whnf)
        | (refine Obl.mk (by first | omega | rfl | exact inK_byte _ | (simp only [inK, Int.toNat_natCast, nd_eta, sh_eta, it_eta, sto_eta, op_eta, ch_eta, nw_eta, fl_eta, rq_eta, rs_eta, elDef, List.length_take, List.length_drop, List.length_append, List.length_nil, Int.toNat_zero, List.drop_zero, o30] <;> first | omega | grind) | grind [inK, List.length_take, List.length_drop, List.length_append, List.length_nil, Int.toNat_zero, List.drop_zero, o30]) ?_ <;> conv => whnf)
        | (refine OblG.mk (by conv => whnf
                              repeat (first | (refine Bx.mk ?_) | (intro h; (try simp [nd_eta, sh_eta, it_eta, sto_eta, op_eta, ch_eta, nw_eta, fl_eta, rq_eta, rs_eta, elDef, -List.getD_eq_getElem?_getD] at h); conv => whnf))
                              first | omega | rfl | exact inK_byte _ | (simp only [inK, Int.toNat_natCast, nd_eta, sh_eta, it_eta, sto_eta, op_eta, ch_eta, nw_eta, fl_eta, rq_eta, rs_eta, elDef, List.length_take, List.length_drop, List.length_append, List.length_nil, Int.toNat_zero, List.drop_zero, o30] <;> first | omega | grind) | grind [inK, List.length_take, List.length_drop, List.length_append, List.length_nil, Int.toNat_zero, List.drop_zero, o30]) ?_ <;> conv => whnf)
        | (refine Gd.mk (fun h => ?_) <;> (try simp [nd_eta, sh_eta, it_eta, sto_eta, op_eta, ch_eta, nw_eta, fl_eta, rq_eta, rs_eta, elDef, -List.getD_eq_getElem?_getD] at h) <;> conv => whnf)
        | (refine And.intro ?_ ?_ <;> conv => whnf)
        | exact True.intro
        | (intro; conv => whnf)
      refine leafV hK ?_
      simp only [optN, nd_eta, elDef, e5, Int.toNat_zero, List.drop_zero, Int.toNat_natCast, List.take_length, List.nil_append, e6]
      first | done | rfl
  · exact absurd hrk h
theorem s31m : (CtrOK Try.prog 31 (.gen .ps C31m) ∧ Callable Try.prog 31) := by
  refine gen_ok (E := E31m) (mkE_cons s30 (mkE_cons s48e (mkE_cons s54e (mkE_nil tab_ok)))) mix (O := O31m) (C := C31m) (own := .ps) Try.func31 rfl (by rfl) (by kernel_rfl) (fun args K h hbd => ?_)
  unfold C31m at h; split at h
  case h_2 => exact h.elim
  exact ⟨Nat.le_of_ble_eq_true rfl, a31m ⟨_, _, _, _, _⟩ _ (by exact hbd) _ h⟩
set_option maxHeartbeats 400000
noncomputable def c14 (n : Nd) (p : Nd) (K : AV → List AV → Prop) : Prop :=
    Obl (okN n ∧ okN p) (K (.st (ndC (mrgM p n))) [])
noncomputable def m14 (n : Nd) (p : Nd) : Nat := SizeOf.sizeOf p
noncomputable def C14 : List AV → (AV → List AV → Prop) → Prop
  | [.st [.int .i64 n_0, .int .i64 n_1, .str n_2, .ps .str n_3, .ps .node n_4], .st [.int .i64 p_0, .int .i64 p_1, .str p_2, .ps .str p_3, .ps .node p_4]], K => c14 ⟨n_0, n_1, n_2, n_3, n_4⟩ ⟨p_0, p_1, p_2, p_3, p_4⟩ K
  | _, _ => False
noncomputable def Ck14 (k : Nat) : List AV → (AV → List AV → Prop) → Prop
  | [.st [.int .i64 n_0, .int .i64 n_1, .str n_2, .ps .str n_3, .ps .node n_4], .st [.int .i64 p_0, .int .i64 p_1, .str p_2, .ps .str p_3, .ps .node p_4]], K => Obl (m14 ⟨n_0, n_1, n_2, n_3, n_4⟩ ⟨p_0, p_1, p_2, p_3, p_4⟩ < k) (c14 ⟨n_0, n_1, n_2, n_3, n_4⟩ ⟨p_0, p_1, p_2, p_3, p_4⟩ K)
  | _, _ => False
noncomputable def E14 (k : Nat) : Ctx := mkE tab [(14, .gen .ps (Ck14 k)), (29, .gen .ps C29), (30, .pure F30), (31, .gen .ps C31m), (32, .gen .ps C32k), (33, .gen .ps C33k)]
noncomputable def O14 : Nat → List DI := ordL [(14, [.q 0, .q 1, .q 2, .q 3, .q 4, .q 5, .q 6, .q 7, .q 8, .q 9, .q 10, .q 11, .l 12 [0], .l 13 [], .l 14 []]), (16, [.q 0, .q 1, .q 2, .q 3, .q 4, .q 5, .q 6, .q 7, .l 8 [0], .l 9 [], .q 10, .q 11, .q 12, .l 13 []])]
theorem a14 (k : Nat) (n : Nd) (p : Nd) (hm : m14 n p < k + 1) (hb : BdAs [.st (ndC n), .st (ndC p)]) (K : AV → List AV → Prop) (h : c14 n p K) : abody (E14 k) O14 .ps Try.f14 (Try.f14.body.getD .skip) [.st (ndC n), .st (ndC p)] K := by
  simp only [BdAs, BdA, BdL, BdC, MX, ndC, shC, itC, stC, opC, chC, nwC, flC, rqC, rsC, enc, List.cons_append, List.nil_append, and_true, true_and] at hb
  unfold c14 at h
  unfold m14 at hm
  obtain ⟨⟨hn, hp⟩, hK⟩ := h
  have hsn := hn.sm
  have hsp := hp.sm
  have hme := mrgM_eq p n
  conv => whnf
  repeat' first
    | (refine Cnd.mk (fun h => ?_) (fun h => ?_) <;> (try simp [nd_eta, sh_eta, it_eta, sto_eta, op_eta, ch_eta, nw_eta, fl_eta, rq_eta, rs_eta, elDef, -List.getD_eq_getElem?_getD] at h) <;> conv => whnf)
    | (refine Obl.mk (by first | omega | rfl | exact inK_byte _ | (simp only [inK, Int.toNat_natCast, nd_eta, sh_eta, it_eta, sto_eta, op_eta, ch_eta, nw_eta, fl_eta, rq_eta, rs_eta, elDef, m14, m14, m29, o30] <;> first | omega | grind) | grind [inK, m14, m14, m29, o30]) ?_ <;> conv => whnf)
    | (refine OblG.mk (by conv => whnf
                          repeat (first | (refine Bx.mk ?_) | (intro h; (try simp [nd_eta, sh_eta, it_eta, sto_eta, op_eta, ch_eta, nw_eta, fl_eta, rq_eta, rs_eta, elDef, -List.getD_eq_getElem?_getD] at h); conv => whnf))
                          first | omega | rfl | exact inK_byte _ | (simp only [inK, Int.toNat_natCast, nd_eta, sh_eta, it_eta, sto_eta, op_eta, ch_eta, nw_eta, fl_eta, rq_eta, rs_eta, elDef, m14, m14, m29, o30] <;> first | omega | grind) | grind [inK, m14, m14, m29, o30]) ?_ <;> conv => whnf)
    | (refine Gd.mk (fun h => ?_) <;> (try simp [nd_eta, sh_eta, it_eta, sto_eta, op_eta, ch_eta, nw_eta, fl_eta, rq_eta, rs_eta, elDef, -List.getD_eq_getElem?_getD] at h) <;> conv => whnf)
    | (refine And.intro ?_ ?_ <;> conv => whnf)
    | exact True.intro
    | (intro; conv => whnf)
  · rw [hme, if_neg h] at hK
    exact leafV hK rfl
  · rename_i hk
    have hk4 := h
    clear h
    have hlp := (okN_names hp).2.1 hk
    have h00 : n = ndOf (accM p n 0) := by rw [accM_zero, base_nd hn hk4]
    refine aloop_intro (Nat × Nd) (fun q => q.1 ≤ p.kids.length ∧ q.2 = ndOf (accM p n q.1)) (fun q => p.kids.length - q.1) (fun q => [(6, .int .i64 q.1)]) (fun q => [(5, .box (ndC q.2))]) [2, 3, 4] (0, n) [] [] ⟨Nat.zero_le _, h00⟩ ?_ (by exact sgOk_of (by rfl)) ?_
    · (conv => whnf); (repeat' (first | exact trivial | rfl | (refine nilEq ?_; first | rfl | (simp only [*]; done) | (simp [*]; done) | grind) | apply And.intro | ((first | refine intEq ?_ | refine boolEq ?_ | refine strEq ?_ | refine psEq ?_ | refine nilEq ?_ | refine arrEq ?_); (try simp only [Int.toNat_natCast, nd_eta, sh_eta, it_eta, sto_eta, op_eta, ch_eta, nw_eta, fl_eta, rq_eta, rs_eta, elDef]); first | done | omega | grind | (simp only [*]; done) | (simp [*]; done)))); (all_goals (conv => whnf)); (repeat' (first | exact trivial | rfl | (refine nilEq ?_; first | rfl | (simp only [*]; done) | (simp [*]; done) | grind) | apply And.intro | ((first | refine intEq ?_ | refine boolEq ?_ | refine strEq ?_ | refine psEq ?_ | refine nilEq ?_ | refine arrEq ?_); (try simp only [Int.toNat_natCast, nd_eta, sh_eta, it_eta, sto_eta, op_eta, ch_eta, nw_eta, fl_eta, rq_eta, rs_eta, elDef]); first | done | omega | grind | (simp only [*]; done) | (simp [*]; done)) | ((try simp only [Int.toNat_natCast, nd_eta, sh_eta, it_eta, sto_eta, op_eta, ch_eta, nw_eta, fl_eta, rq_eta, rs_eta, elDef]); first | done | omega | grind | (simp only [*]; done) | (simp [*]; done))))
    rintro ⟨i, m⟩ ⟨hi, hm⟩
    dsimp only at hi hm
    obtain ⟨m1, m2, m3, m4, m5⟩ := merge_now hp hn (show i ≤ p.names.length by omega) hi hm
    have hpl := placeM_ge m (p.names.getD i [])
    have hko := fun (h : i < p.kids.length) => okN_kid hp h
    have hks := fun (h : i < p.kids.length) => kid_size h
    have hst := fun (h : i < p.kids.length) => merge_step hp hk hn h hm rfl rfl
    have hz := okN_zero
    unfold zeroN at hz hst
    clear hme
    conv => whnf
    repeat' first
      | (refine Cnd.mk (fun h => ?_) (fun h => ?_) <;> (try simp [nd_eta, sh_eta, it_eta, sto_eta, op_eta, ch_eta, nw_eta, fl_eta, rq_eta, rs_eta, elDef, -List.getD_eq_getElem?_getD] at h) <;> conv => whnf)
      | (refine Obl.mk (by first | omega | rfl | exact inK_byte _ | (simp only [inK, Int.toNat_natCast, nd_eta, sh_eta, it_eta, sto_eta, op_eta, ch_eta, nw_eta, fl_eta, rq_eta, rs_eta, elDef, m14, m14, m29, o30] <;> first | omega | grind) | grind [inK, m14, m14, m29, o30]) ?_ <;> conv => whnf)
      | (refine OblG.mk (by conv => whnf
                            repeat (first | (refine Bx.mk ?_) | (intro h; (try simp [nd_eta, sh_eta, it_eta, sto_eta, op_eta, ch_eta, nw_eta, fl_eta, rq_eta, rs_eta, elDef, -List.getD_eq_getElem?_getD] at h); conv => whnf))
                            first | omega | rfl | exact inK_byte _ | (simp only [inK, Int.toNat_natCast, nd_eta, sh_eta, it_eta, sto_eta, op_eta, ch_eta, nw_eta, fl_eta, rq_eta, rs_eta, elDef, m14, m14, m29, o30] <;> first | omega | grind) | grind [inK, m14, m14, m29, o30]) ?_ <;> conv => whnf)
      | (refine Gd.mk (fun h => ?_) <;> (try simp [nd_eta, sh_eta, it_eta, sto_eta, op_eta, ch_eta, nw_eta, fl_eta, rq_eta, rs_eta, elDef, -List.getD_eq_getElem?_getD] at h) <;> conv => whnf)
      | (refine And.intro ?_ ?_ <;> conv => whnf)
      | exact True.intro
      | (intro; conv => whnf)
    · rename_i h1
      have e9 := (hst h1).1 (of_decide_eq_true h.1) h.2
      exact ⟨(i + 1, withoutM m (placeM m (p.names.getD i [])).toNat), [], [], ⟨by simp only; omega, e9⟩, by simp only; omega, by (conv => whnf); (repeat' (first | exact trivial | rfl | (refine nilEq ?_; first | rfl | (simp only [*]; done) | (simp [*]; done) | grind) | apply And.intro | ((first | refine intEq ?_ | refine boolEq ?_ | refine strEq ?_ | refine psEq ?_ | refine nilEq ?_ | refine arrEq ?_); (try simp only [Int.toNat_natCast, nd_eta, sh_eta, it_eta, sto_eta, op_eta, ch_eta, nw_eta, fl_eta, rq_eta, rs_eta, elDef]); first | done | omega | grind | (simp only [*]; done) | (simp [*]; done)))); (all_goals (conv => whnf)); (repeat' (first | exact trivial | rfl | (refine nilEq ?_; first | rfl | (simp only [*]; done) | (simp [*]; done) | grind) | apply And.intro | ((first | refine intEq ?_ | refine boolEq ?_ | refine strEq ?_ | refine psEq ?_ | refine nilEq ?_ | refine arrEq ?_); (try simp only [Int.toNat_natCast, nd_eta, sh_eta, it_eta, sto_eta, op_eta, ch_eta, nw_eta, fl_eta, rq_eta, rs_eta, elDef]); first | done | omega | grind | (simp only [*]; done) | (simp [*]; done)) | ((try simp only [Int.toNat_natCast, nd_eta, sh_eta, it_eta, sto_eta, op_eta, ch_eta, nw_eta, fl_eta, rq_eta, rs_eta, elDef]); first | done | omega | grind | (simp only [*]; done) | (simp [*]; done)))), (by exact sgOk_of (by rfl))⟩
    · rename_i h1 h2
      have e9 := (hst h1).2.2.2.1 (of_decide_eq_false h.1) h.2
      exact ⟨(i + 1, withKidM m (placeM m (p.names.getD i [])).toNat (mrgM (p.kids.getD i default) (m.kids.getD (placeM m (p.names.getD i [])).toNat default))), [], [], ⟨by simp only; omega, e9⟩, by simp only; omega, by (conv => whnf); (repeat' (first | exact trivial | rfl | (refine nilEq ?_; first | rfl | (simp only [*]; done) | (simp [*]; done) | grind) | apply And.intro | ((first | refine intEq ?_ | refine boolEq ?_ | refine strEq ?_ | refine psEq ?_ | refine nilEq ?_ | refine arrEq ?_); (try simp only [Int.toNat_natCast, nd_eta, sh_eta, it_eta, sto_eta, op_eta, ch_eta, nw_eta, fl_eta, rq_eta, rs_eta, elDef]); first | done | omega | grind | (simp only [*]; done) | (simp [*]; done)))); (all_goals (conv => whnf)); (repeat' (first | exact trivial | rfl | (refine nilEq ?_; first | rfl | (simp only [*]; done) | (simp [*]; done) | grind) | apply And.intro | ((first | refine intEq ?_ | refine boolEq ?_ | refine strEq ?_ | refine psEq ?_ | refine nilEq ?_ | refine arrEq ?_); (try simp only [Int.toNat_natCast, nd_eta, sh_eta, it_eta, sto_eta, op_eta, ch_eta, nw_eta, fl_eta, rq_eta, rs_eta, elDef]); first | done | omega | grind | (simp only [*]; done) | (simp [*]; done)) | ((try simp only [Int.toNat_natCast, nd_eta, sh_eta, it_eta, sto_eta, op_eta, ch_eta, nw_eta, fl_eta, rq_eta, rs_eta, elDef]); first | done | omega | grind | (simp only [*]; done) | (simp [*]; done)))), (by exact sgOk_of (by rfl))⟩
    · rename_i h1 h2 h3
      have e9 := (hst h1).2.2.2.2.2 (of_decide_eq_false h) (h3 h)
      exact ⟨(i + 1, (addHereM m (p.names.getD i []) (mrgM (p.kids.getD i default) ⟨0, 0, [], [], []⟩)).getD default), [], [], ⟨by simp only; omega, by rw [e9]; rfl⟩, by simp only; omega, by (conv => whnf); (repeat' (first | exact trivial | rfl | (refine nilEq ?_; first | rfl | (simp only [*]; done) | (simp [*]; done) | grind) | apply And.intro | ((first | refine intEq ?_ | refine boolEq ?_ | refine strEq ?_ | refine psEq ?_ | refine nilEq ?_ | refine arrEq ?_); (try simp only [Int.toNat_natCast, nd_eta, sh_eta, it_eta, sto_eta, op_eta, ch_eta, nw_eta, fl_eta, rq_eta, rs_eta, elDef]); first | done | omega | grind | (simp only [*]; done) | (simp [*]; done)))); (all_goals (conv => whnf)); (repeat' (first | exact trivial | rfl | (refine nilEq ?_; first | rfl | (simp only [*]; done) | (simp [*]; done) | grind) | apply And.intro | ((first | refine intEq ?_ | refine boolEq ?_ | refine strEq ?_ | refine psEq ?_ | refine nilEq ?_ | refine arrEq ?_); (try simp only [Int.toNat_natCast, nd_eta, sh_eta, it_eta, sto_eta, op_eta, ch_eta, nw_eta, fl_eta, rq_eta, rs_eta, elDef]); first | done | omega | grind | (simp only [*]; done) | (simp [*]; done)) | ((try simp only [Int.toNat_natCast, nd_eta, sh_eta, it_eta, sto_eta, op_eta, ch_eta, nw_eta, fl_eta, rq_eta, rs_eta, elDef]); first | done | omega | grind | (simp only [*]; done) | (simp [*]; done)))), (by exact sgOk_of (by rfl))⟩
    · rename_i h1 h2 h3
      have e9 := (hst h1).2.1 (of_decide_eq_true h) (h2 h)
      exact ⟨(i + 1, m), [], [], ⟨by simp only; omega, e9⟩, by simp only; omega, by (conv => whnf); (repeat' (first | exact trivial | rfl | (refine nilEq ?_; first | rfl | (simp only [*]; done) | (simp [*]; done) | grind) | apply And.intro | ((first | refine intEq ?_ | refine boolEq ?_ | refine strEq ?_ | refine psEq ?_ | refine nilEq ?_ | refine arrEq ?_); (try simp only [Int.toNat_natCast, nd_eta, sh_eta, it_eta, sto_eta, op_eta, ch_eta, nw_eta, fl_eta, rq_eta, rs_eta, elDef]); first | done | omega | grind | (simp only [*]; done) | (simp [*]; done)))); (all_goals (conv => whnf)); (repeat' (first | exact trivial | rfl | (refine nilEq ?_; first | rfl | (simp only [*]; done) | (simp [*]; done) | grind) | apply And.intro | ((first | refine intEq ?_ | refine boolEq ?_ | refine strEq ?_ | refine psEq ?_ | refine nilEq ?_ | refine arrEq ?_); (try simp only [Int.toNat_natCast, nd_eta, sh_eta, it_eta, sto_eta, op_eta, ch_eta, nw_eta, fl_eta, rq_eta, rs_eta, elDef]); first | done | omega | grind | (simp only [*]; done) | (simp [*]; done)) | ((try simp only [Int.toNat_natCast, nd_eta, sh_eta, it_eta, sto_eta, op_eta, ch_eta, nw_eta, fl_eta, rq_eta, rs_eta, elDef]); first | done | omega | grind | (simp only [*]; done) | (simp [*]; done)))), (by exact sgOk_of (by rfl))⟩
    · rw [mrgM_eq p n, if_pos hk, ← accM_all n hlp, show p.names.length = i by omega, ← hm] at hK
      exact hK
  · rename_i hk
    have hk4 := h
    clear h
    have hlp := (okN_names hp).2.1 hk
    have h00 : ndOf [] = ndOf (accM p n 0) := by rw [accM_zero]; unfold baseI; rw [if_neg hk4]
    refine aloop_intro (Nat × Nd) (fun q => q.1 ≤ p.kids.length ∧ q.2 = ndOf (accM p n q.1)) (fun q => p.kids.length - q.1) (fun q => [(6, .int .i64 q.1)]) (fun q => [(5, .box (ndC q.2))]) [2, 3, 4] (0, ndOf []) [] [14, 15] ⟨Nat.zero_le _, h00⟩ ?_ (by exact sgOk_of (by rfl)) ?_
    · (conv => whnf); (repeat' (first | exact trivial | rfl | (refine nilEq ?_; first | rfl | (simp only [*]; done) | (simp [*]; done) | grind) | apply And.intro | ((first | refine intEq ?_ | refine boolEq ?_ | refine strEq ?_ | refine psEq ?_ | refine nilEq ?_ | refine arrEq ?_); (try simp only [Int.toNat_natCast, nd_eta, sh_eta, it_eta, sto_eta, op_eta, ch_eta, nw_eta, fl_eta, rq_eta, rs_eta, elDef]); first | done | omega | grind | (simp only [*]; done) | (simp [*]; done)))); (all_goals (conv => whnf)); (repeat' (first | exact trivial | rfl | (refine nilEq ?_; first | rfl | (simp only [*]; done) | (simp [*]; done) | grind) | apply And.intro | ((first | refine intEq ?_ | refine boolEq ?_ | refine strEq ?_ | refine psEq ?_ | refine nilEq ?_ | refine arrEq ?_); (try simp only [Int.toNat_natCast, nd_eta, sh_eta, it_eta, sto_eta, op_eta, ch_eta, nw_eta, fl_eta, rq_eta, rs_eta, elDef]); first | done | omega | grind | (simp only [*]; done) | (simp [*]; done)) | ((try simp only [Int.toNat_natCast, nd_eta, sh_eta, it_eta, sto_eta, op_eta, ch_eta, nw_eta, fl_eta, rq_eta, rs_eta, elDef]); first | done | omega | grind | (simp only [*]; done) | (simp [*]; done))))
    rintro ⟨i, m⟩ ⟨hi, hm⟩
    dsimp only at hi hm
    obtain ⟨m1, m2, m3, m4, m5⟩ := merge_now hp hn (show i ≤ p.names.length by omega) hi hm
    have hpl := placeM_ge m (p.names.getD i [])
    have hko := fun (h : i < p.kids.length) => okN_kid hp h
    have hks := fun (h : i < p.kids.length) => kid_size h
    have hst := fun (h : i < p.kids.length) => merge_step hp hk hn h hm rfl rfl
    have hz := okN_zero
    unfold zeroN at hz hst
    clear hme
    conv => whnf
    repeat' first
      | (refine Cnd.mk (fun h => ?_) (fun h => ?_) <;> (try simp [nd_eta, sh_eta, it_eta, sto_eta, op_eta, ch_eta, nw_eta, fl_eta, rq_eta, rs_eta, elDef, -List.getD_eq_getElem?_getD] at h) <;> conv => whnf)
      | (refine Obl.mk (by first | omega | rfl | exact inK_byte _ | (simp only [inK, Int.toNat_natCast, nd_eta, sh_eta, it_eta, sto_eta, op_eta, ch_eta, nw_eta, fl_eta, rq_eta, rs_eta, elDef, m14, m14, m29, o30] <;> first | omega | grind) | grind [inK, m14, m14, m29, o30]) ?_ <;> conv => whnf)
      | (refine OblG.mk (by conv => whnf
                            repeat (first | (refine Bx.mk ?_) | (intro h; (try simp [nd_eta, sh_eta, it_eta, sto_eta, op_eta, ch_eta, nw_eta, fl_eta, rq_eta, rs_eta, elDef, -List.getD_eq_getElem?_getD] at h); conv => whnf))
                            first | omega | rfl | exact inK_byte _ | (simp only [inK, Int.toNat_natCast, nd_eta, sh_eta, it_eta, sto_eta, op_eta, ch_eta, nw_eta, fl_eta, rq_eta, rs_eta, elDef, m14, m14, m29, o30] <;> first | omega | grind) | grind [inK, m14, m14, m29, o30]) ?_ <;> conv => whnf)
      | (refine Gd.mk (fun h => ?_) <;> (try simp [nd_eta, sh_eta, it_eta, sto_eta, op_eta, ch_eta, nw_eta, fl_eta, rq_eta, rs_eta, elDef, -List.getD_eq_getElem?_getD] at h) <;> conv => whnf)
      | (refine And.intro ?_ ?_ <;> conv => whnf)
      | exact True.intro
      | (intro; conv => whnf)
    · rename_i h1
      have e9 := (hst h1).1 (of_decide_eq_true h.1) h.2
      exact ⟨(i + 1, withoutM m (placeM m (p.names.getD i [])).toNat), [], [], ⟨by simp only; omega, e9⟩, by simp only; omega, by (conv => whnf); (repeat' (first | exact trivial | rfl | (refine nilEq ?_; first | rfl | (simp only [*]; done) | (simp [*]; done) | grind) | apply And.intro | ((first | refine intEq ?_ | refine boolEq ?_ | refine strEq ?_ | refine psEq ?_ | refine nilEq ?_ | refine arrEq ?_); (try simp only [Int.toNat_natCast, nd_eta, sh_eta, it_eta, sto_eta, op_eta, ch_eta, nw_eta, fl_eta, rq_eta, rs_eta, elDef]); first | done | omega | grind | (simp only [*]; done) | (simp [*]; done)))); (all_goals (conv => whnf)); (repeat' (first | exact trivial | rfl | (refine nilEq ?_; first | rfl | (simp only [*]; done) | (simp [*]; done) | grind) | apply And.intro | ((first | refine intEq ?_ | refine boolEq ?_ | refine strEq ?_ | refine psEq ?_ | refine nilEq ?_ | refine arrEq ?_); (try simp only [Int.toNat_natCast, nd_eta, sh_eta, it_eta, sto_eta, op_eta, ch_eta, nw_eta, fl_eta, rq_eta, rs_eta, elDef]); first | done | omega | grind | (simp only [*]; done) | (simp [*]; done)) | ((try simp only [Int.toNat_natCast, nd_eta, sh_eta, it_eta, sto_eta, op_eta, ch_eta, nw_eta, fl_eta, rq_eta, rs_eta, elDef]); first | done | omega | grind | (simp only [*]; done) | (simp [*]; done)))), (by exact sgOk_of (by rfl))⟩
    · rename_i h1 h2
      have e9 := (hst h1).2.2.2.1 (of_decide_eq_false h.1) h.2
      exact ⟨(i + 1, withKidM m (placeM m (p.names.getD i [])).toNat (mrgM (p.kids.getD i default) (m.kids.getD (placeM m (p.names.getD i [])).toNat default))), [], [], ⟨by simp only; omega, e9⟩, by simp only; omega, by (conv => whnf); (repeat' (first | exact trivial | rfl | (refine nilEq ?_; first | rfl | (simp only [*]; done) | (simp [*]; done) | grind) | apply And.intro | ((first | refine intEq ?_ | refine boolEq ?_ | refine strEq ?_ | refine psEq ?_ | refine nilEq ?_ | refine arrEq ?_); (try simp only [Int.toNat_natCast, nd_eta, sh_eta, it_eta, sto_eta, op_eta, ch_eta, nw_eta, fl_eta, rq_eta, rs_eta, elDef]); first | done | omega | grind | (simp only [*]; done) | (simp [*]; done)))); (all_goals (conv => whnf)); (repeat' (first | exact trivial | rfl | (refine nilEq ?_; first | rfl | (simp only [*]; done) | (simp [*]; done) | grind) | apply And.intro | ((first | refine intEq ?_ | refine boolEq ?_ | refine strEq ?_ | refine psEq ?_ | refine nilEq ?_ | refine arrEq ?_); (try simp only [Int.toNat_natCast, nd_eta, sh_eta, it_eta, sto_eta, op_eta, ch_eta, nw_eta, fl_eta, rq_eta, rs_eta, elDef]); first | done | omega | grind | (simp only [*]; done) | (simp [*]; done)) | ((try simp only [Int.toNat_natCast, nd_eta, sh_eta, it_eta, sto_eta, op_eta, ch_eta, nw_eta, fl_eta, rq_eta, rs_eta, elDef]); first | done | omega | grind | (simp only [*]; done) | (simp [*]; done)))), (by exact sgOk_of (by rfl))⟩
    · rename_i h1 h2 h3
      have e9 := (hst h1).2.2.2.2.2 (of_decide_eq_false h) (h3 h)
      exact ⟨(i + 1, (addHereM m (p.names.getD i []) (mrgM (p.kids.getD i default) ⟨0, 0, [], [], []⟩)).getD default), [], [], ⟨by simp only; omega, by rw [e9]; rfl⟩, by simp only; omega, by (conv => whnf); (repeat' (first | exact trivial | rfl | (refine nilEq ?_; first | rfl | (simp only [*]; done) | (simp [*]; done) | grind) | apply And.intro | ((first | refine intEq ?_ | refine boolEq ?_ | refine strEq ?_ | refine psEq ?_ | refine nilEq ?_ | refine arrEq ?_); (try simp only [Int.toNat_natCast, nd_eta, sh_eta, it_eta, sto_eta, op_eta, ch_eta, nw_eta, fl_eta, rq_eta, rs_eta, elDef]); first | done | omega | grind | (simp only [*]; done) | (simp [*]; done)))); (all_goals (conv => whnf)); (repeat' (first | exact trivial | rfl | (refine nilEq ?_; first | rfl | (simp only [*]; done) | (simp [*]; done) | grind) | apply And.intro | ((first | refine intEq ?_ | refine boolEq ?_ | refine strEq ?_ | refine psEq ?_ | refine nilEq ?_ | refine arrEq ?_); (try simp only [Int.toNat_natCast, nd_eta, sh_eta, it_eta, sto_eta, op_eta, ch_eta, nw_eta, fl_eta, rq_eta, rs_eta, elDef]); first | done | omega | grind | (simp only [*]; done) | (simp [*]; done)) | ((try simp only [Int.toNat_natCast, nd_eta, sh_eta, it_eta, sto_eta, op_eta, ch_eta, nw_eta, fl_eta, rq_eta, rs_eta, elDef]); first | done | omega | grind | (simp only [*]; done) | (simp [*]; done)))), (by exact sgOk_of (by rfl))⟩
    · rename_i h1 h2 h3
      have e9 := (hst h1).2.1 (of_decide_eq_true h) (h2 h)
      exact ⟨(i + 1, m), [], [], ⟨by simp only; omega, e9⟩, by simp only; omega, by (conv => whnf); (repeat' (first | exact trivial | rfl | (refine nilEq ?_; first | rfl | (simp only [*]; done) | (simp [*]; done) | grind) | apply And.intro | ((first | refine intEq ?_ | refine boolEq ?_ | refine strEq ?_ | refine psEq ?_ | refine nilEq ?_ | refine arrEq ?_); (try simp only [Int.toNat_natCast, nd_eta, sh_eta, it_eta, sto_eta, op_eta, ch_eta, nw_eta, fl_eta, rq_eta, rs_eta, elDef]); first | done | omega | grind | (simp only [*]; done) | (simp [*]; done)))); (all_goals (conv => whnf)); (repeat' (first | exact trivial | rfl | (refine nilEq ?_; first | rfl | (simp only [*]; done) | (simp [*]; done) | grind) | apply And.intro | ((first | refine intEq ?_ | refine boolEq ?_ | refine strEq ?_ | refine psEq ?_ | refine nilEq ?_ | refine arrEq ?_); (try simp only [Int.toNat_natCast, nd_eta, sh_eta, it_eta, sto_eta, op_eta, ch_eta, nw_eta, fl_eta, rq_eta, rs_eta, elDef]); first | done | omega | grind | (simp only [*]; done) | (simp [*]; done)) | ((try simp only [Int.toNat_natCast, nd_eta, sh_eta, it_eta, sto_eta, op_eta, ch_eta, nw_eta, fl_eta, rq_eta, rs_eta, elDef]); first | done | omega | grind | (simp only [*]; done) | (simp [*]; done)))), (by exact sgOk_of (by rfl))⟩
    · rw [mrgM_eq p n, if_pos hk, ← accM_all n hlp, show p.names.length = i by omega, ← hm] at hK
      exact hK
theorem r14 : ∀ k, (CtrOK Try.prog 14 (.gen .ps (Ck14 k)) ∧ Callable Try.prog 14) := by
  intro k
  induction k with
  | zero =>
    exact ⟨fun args K h => by
        unfold Ck14 at h; split at h
        · exact absurd h.o (Nat.not_lt_zero _)
        · exact h.elim, callable Try.func14 rfl (by rfl)⟩
  | succ k ih =>
    refine gen_ok (E := E14 k) (mkE_cons ih (mkE_cons s29 (mkE_cons s30 (mkE_cons s31m (mkE_cons s32k (mkE_cons s33k (mkE_nil tab_ok))))))) mix (O := O14) (C := (Ck14 (k + 1))) (own := .ps) Try.func14 rfl (by rfl) (by kernel_rfl) (fun args K h hbd => ?_)
    unfold Ck14 at h; split at h
    case h_2 => exact h.elim
    exact ⟨Nat.le_of_ble_eq_true rfl, a14 k ⟨_, _, _, _, _⟩ ⟨_, _, _, _, _⟩ h.o (by exact hbd) _ h.k⟩
theorem s14 : (CtrOK Try.prog 14 (.gen .ps C14) ∧ Callable Try.prog 14) := by
  refine ⟨fun args K h => ?_, (r14 0).2⟩
  unfold C14 at h; split at h
  · exact (r14 (m14 ⟨_, _, _, _, _⟩ ⟨_, _, _, _, _⟩ + 1)).1 _ K ⟨Nat.lt_succ_self _, h⟩
  · exact h.elim
end Go.Rs

