import Derived.Test.YtpiclhdjglelhaaDoorDF
import Derived.Test.YtpiclhdjglelhaaDoorCU
import Derived.Test.YtpiclhdjglelhaaDoorCR
import Derived.Test.YtpiclhdjglelhaaDoorME
set_option linter.all false
namespace Go.Rs
open Go.Proofs
set_option maxRecDepth 100000
set_option linter.unusedVariables false
set_option linter.unusedSimpArgs false
noncomputable def c44 (n : Nd) (b : Bool) (K : AV → List AV → Prop) : Prop :=
    K (optN (if b && validM n then some n else none)) []
noncomputable def C44 : List AV → (AV → List AV → Prop) → Prop
  | [.st [.int .i64 n_0, .int .i64 n_1, .str n_2, .ps .str n_3, .ps .node n_4], .bool b], K => c44 ⟨n_0, n_1, n_2, n_3, n_4⟩ b K
  | _, _ => False
noncomputable def E44 : Ctx := mkE tab [(33, .pure F33)]
noncomputable def O44 : Nat → List DI := ordL []
theorem a44 (n : Nd) (b : Bool) (hb : BdAs [.st (ndC n), .bool b]) (K : AV → List AV → Prop) (h : c44 n b K) : abody E44 O44 .ps Tryd.f44 (Tryd.f44.body.getD .skip) [.st (ndC n), .bool b] K := by
  simp only [BdAs, BdA, BdL, BdC, MX, ndC, shC, itC, stC, opC, chC, nwC, flC, rqC, rsC, enc, List.cons_append, List.nil_append, and_true, true_and] at hb
  unfold c44 at h
  have hK9 := h
  conv => whnf
  repeat' first
    | (refine Cnd.mk (fun h => ?_) (fun h => ?_) <;> (try simp [nd_eta, sh_eta, it_eta, sto_eta, op_eta, ch_eta, nw_eta, fl_eta, rq_eta, rs_eta, elDef, -List.getD_eq_getElem?_getD] at h) <;> conv => whnf)
    | (refine Obl.mk (by first | omega | rfl | exact inK_byte _ | (simp only [inK, Int.toNat_natCast, nd_eta, sh_eta, it_eta, sto_eta, op_eta, ch_eta, nw_eta, fl_eta, rq_eta, rs_eta, elDef] <;> first | omega | grind) | grind [inK]) ?_ <;> conv => whnf)
    | (refine OblG.mk (by conv => whnf
                          repeat (first | (refine Bx.mk ?_) | (intro h; (try simp [nd_eta, sh_eta, it_eta, sto_eta, op_eta, ch_eta, nw_eta, fl_eta, rq_eta, rs_eta, elDef, -List.getD_eq_getElem?_getD] at h); conv => whnf))
                          first | omega | rfl | exact inK_byte _ | (simp only [inK, Int.toNat_natCast, nd_eta, sh_eta, it_eta, sto_eta, op_eta, ch_eta, nw_eta, fl_eta, rq_eta, rs_eta, elDef] <;> first | omega | grind) | grind [inK]) ?_ <;> conv => whnf)
    | (refine Gd.mk (fun h => ?_) <;> (try simp [nd_eta, sh_eta, it_eta, sto_eta, op_eta, ch_eta, nw_eta, fl_eta, rq_eta, rs_eta, elDef, -List.getD_eq_getElem?_getD] at h) <;> conv => whnf)
    | (refine And.intro ?_ ?_ <;> conv => whnf)
    | exact True.intro
    | (intro; conv => whnf)
  · exact leafV hK9 (by rw [if_neg (by grind)]; rfl)
  · exact leafV hK9 (by rw [if_pos (by grind)]; rfl)
theorem s44 : (CtrOK Tryd.prog 44 (.gen .ps C44) ∧ Callable Tryd.prog 44) := by
  refine gen_ok (E := E44) (mkE_cons s33 (mkE_nil tab_ok)) mix (O := O44) (C := C44) (own := .ps) Tryd.func44 rfl (by rfl) (by kernel_rfl) (fun args K h hbd => ?_)
  unfold C44 at h; split at h
  case h_2 => exact h.elim
  exact ⟨Nat.le_of_ble_eq_true rfl, a44 ⟨_, _, _, _, _⟩ _ (by exact hbd) _ h⟩
noncomputable def c21 (n : Nd) (p : Nd) (K : AV → List AV → Prop) : Prop :=
    K (optN (mergeNodeM n p)) []
noncomputable def C21 : List AV → (AV → List AV → Prop) → Prop
  | [.st [.int .i64 n_0, .int .i64 n_1, .str n_2, .ps .str n_3, .ps .node n_4], .st [.int .i64 p_0, .int .i64 p_1, .str p_2, .ps .str p_3, .ps .node p_4]], K => c21 ⟨n_0, n_1, n_2, n_3, n_4⟩ ⟨p_0, p_1, p_2, p_3, p_4⟩ K
  | _, _ => False
noncomputable def E21 : Ctx := mkE tab [(33, .pure F33), (44, .gen .ps C44), (45, .gen .ps C45)]
noncomputable def O21 : Nat → List DI := ordL []
theorem a21 (n : Nd) (p : Nd) (hb : BdAs [.st (ndC n), .st (ndC p)]) (K : AV → List AV → Prop) (h : c21 n p K) : abody E21 O21 .ps Tryd.f21 (Tryd.f21.body.getD .skip) [.st (ndC n), .st (ndC p)] K := by
  simp only [BdAs, BdA, BdL, BdC, MX, ndC, shC, itC, stC, opC, chC, nwC, flC, rqC, rsC, enc, List.cons_append, List.nil_append, and_true, true_and] at hb
  unfold c21 at h
  have hK9 := h
  have h1 := fun h => validM_ok (n := n) h
  have h2 := fun h => validM_ok (n := p) h
  conv => whnf
  repeat' first
    | (refine Cnd.mk (fun h => ?_) (fun h => ?_) <;> (try simp [nd_eta, sh_eta, it_eta, sto_eta, op_eta, ch_eta, nw_eta, fl_eta, rq_eta, rs_eta, elDef, -List.getD_eq_getElem?_getD] at h) <;> conv => whnf)
    | (refine Obl.mk (by first | omega | rfl | exact inK_byte _ | (simp only [inK, Int.toNat_natCast, nd_eta, sh_eta, it_eta, sto_eta, op_eta, ch_eta, nw_eta, fl_eta, rq_eta, rs_eta, elDef, m45] <;> first | omega | grind) | grind [inK, m45]) ?_ <;> conv => whnf)
    | (refine OblG.mk (by conv => whnf
                          repeat (first | (refine Bx.mk ?_) | (intro h; (try simp [nd_eta, sh_eta, it_eta, sto_eta, op_eta, ch_eta, nw_eta, fl_eta, rq_eta, rs_eta, elDef, -List.getD_eq_getElem?_getD] at h); conv => whnf))
                          first | omega | rfl | exact inK_byte _ | (simp only [inK, Int.toNat_natCast, nd_eta, sh_eta, it_eta, sto_eta, op_eta, ch_eta, nw_eta, fl_eta, rq_eta, rs_eta, elDef, m45] <;> first | omega | grind) | grind [inK, m45]) ?_ <;> conv => whnf)
    | (refine Gd.mk (fun h => ?_) <;> (try simp [nd_eta, sh_eta, it_eta, sto_eta, op_eta, ch_eta, nw_eta, fl_eta, rq_eta, rs_eta, elDef, -List.getD_eq_getElem?_getD] at h) <;> conv => whnf)
    | (refine And.intro ?_ ?_ <;> conv => whnf)
    | exact True.intro
    | (intro; conv => whnf)
  · have e : mergeNodeM n p = none := by unfold mergeNodeM; rw [if_neg (by grind)]
    exact leafV hK9 (by rw [e]; rfl)
  · have e : mergeNodeM n p = if true && validM (mrgM p n) then some (mrgM p n) else none := by
      unfold mergeNodeM
      rw [if_pos (by grind), Bool.true_and]
    refine leafV hK9 ?_
    rw [e]
    simp only [optN, nd_eta]; try rfl
theorem s21 : (CtrOK Tryd.prog 21 (.gen .ps C21) ∧ Callable Tryd.prog 21) := by
  refine gen_ok (E := E21) (mkE_cons s33 (mkE_cons s44 (mkE_cons s45 (mkE_nil tab_ok)))) mix (O := O21) (C := C21) (own := .ps) Tryd.func21 rfl (by rfl) (by kernel_rfl) (fun args K h hbd => ?_)
  unfold C21 at h; split at h
  case h_2 => exact h.elim
  exact ⟨Nat.le_of_ble_eq_true rfl, a21 ⟨_, _, _, _, _⟩ ⟨_, _, _, _, _⟩ (by exact hbd) _ h⟩
noncomputable def c93e (n : Nd) (p : List Bs) (K : AV → List AV → Prop) : Prop :=
    Obl (p.length = 0 ∧ smN n) (∀ r, r = n → K (.tup [.st (ndC r), .bool true]) [])
noncomputable def C93e : List AV → (AV → List AV → Prop) → Prop
  | [.st [.int .i64 n_0, .int .i64 n_1, .str n_2, .ps .str n_3, .ps .node n_4], .ps .str p], K => c93e ⟨n_0, n_1, n_2, n_3, n_4⟩ p K
  | _, _ => False
noncomputable def E93e : Ctx := mkE tab [(60, .gen .ps C60), (71, .pure F71)]
noncomputable def O93e : Nat → List DI := ordL [(4, [.q 0, .q 1, .q 2, .q 3, .q 4, .q 5, .q 6])]
theorem a93e (n : Nd) (p : List Bs) (hb : BdAs [.st (ndC n), .ps .str p]) (K : AV → List AV → Prop) (h : c93e n p K) : abody E93e O93e .ps Tryd.f93 (Tryd.f93.body.getD .skip) [.st (ndC n), .ps .str p] K := by
  simp only [BdAs, BdA, BdL, BdC, MX, ndC, shC, itC, stC, opC, chC, nwC, flC, rqC, rsC, enc, List.cons_append, List.nil_append, and_true, true_and] at hb
  unfold c93e at h
  obtain ⟨⟨h0, hs⟩, hK0⟩ := h
  have hK := hK0 _ rfl
  obtain rfl := List.length_eq_zero_iff.1 h0
  conv => whnf
  refine aloop_intro Nat (fun k => k ≤ ([] : List Bs).length ∧ True) (fun k => ([] : List Bs).length - k) (fun k => [(6, .int .i64 k)]) (fun k => []) [2, 4] 0 [] [] ?_ ?_ (by exact sgOk_of (by rfl)) ?_
  · first | (simp; done) | (simp; assumption)
  · (conv => whnf); (repeat' (first | exact trivial | rfl | (refine nilEq ?_; first | rfl | (simp only [*]; done) | (simp [*]; done) | grind) | apply And.intro | ((first | refine intEq ?_ | refine boolEq ?_ | refine strEq ?_ | refine psEq ?_ | refine nilEq ?_ | refine arrEq ?_); (try simp only [Int.toNat_natCast, nd_eta, sh_eta, it_eta, sto_eta, op_eta, ch_eta, nw_eta, fl_eta, rq_eta, rs_eta, elDef]); first | done | omega | grind | (simp only [*]; done) | (simp [*]; done)))); (all_goals (conv => whnf)); (repeat' (first | exact trivial | rfl | (refine nilEq ?_; first | rfl | (simp only [*]; done) | (simp [*]; done) | grind) | apply And.intro | ((first | refine intEq ?_ | refine boolEq ?_ | refine strEq ?_ | refine psEq ?_ | refine nilEq ?_ | refine arrEq ?_); (try simp only [Int.toNat_natCast, nd_eta, sh_eta, it_eta, sto_eta, op_eta, ch_eta, nw_eta, fl_eta, rq_eta, rs_eta, elDef]); first | done | omega | grind | (simp only [*]; done) | (simp [*]; done)) | ((try simp only [Int.toNat_natCast, nd_eta, sh_eta, it_eta, sto_eta, op_eta, ch_eta, nw_eta, fl_eta, rq_eta, rs_eta, elDef]); first | done | omega | grind | (simp only [*]; done) | (simp [*]; done))))
  rintro i ⟨hi, hj⟩
  conv => whnf
  simp only [List.length_nil] at hi
  repeat' first
    | (refine Cnd.mk (fun h => ?_) (fun h => ?_) <;> (try simp [nd_eta, sh_eta, it_eta, sto_eta, op_eta, ch_eta, nw_eta, fl_eta, rq_eta, rs_eta, elDef, -List.getD_eq_getElem?_getD] at h) <;> conv => whnf)
    | (refine Obl.mk (by first | omega | rfl | exact inK_byte _ | (simp only [inK, Int.toNat_natCast, nd_eta, sh_eta, it_eta, sto_eta, op_eta, ch_eta, nw_eta, fl_eta, rq_eta, rs_eta, elDef, m60, o71] <;> first | omega | grind) | grind [inK, m60, o71]) ?_ <;> conv => whnf)
    | (refine OblG.mk (by conv => whnf
                          repeat (first | (refine Bx.mk ?_) | (intro h; (try simp [nd_eta, sh_eta, it_eta, sto_eta, op_eta, ch_eta, nw_eta, fl_eta, rq_eta, rs_eta, elDef, -List.getD_eq_getElem?_getD] at h); conv => whnf))
                          first | omega | rfl | exact inK_byte _ | (simp only [inK, Int.toNat_natCast, nd_eta, sh_eta, it_eta, sto_eta, op_eta, ch_eta, nw_eta, fl_eta, rq_eta, rs_eta, elDef, m60, o71] <;> first | omega | grind) | grind [inK, m60, o71]) ?_ <;> conv => whnf)
    | (refine Gd.mk (fun h => ?_) <;> (try simp [nd_eta, sh_eta, it_eta, sto_eta, op_eta, ch_eta, nw_eta, fl_eta, rq_eta, rs_eta, elDef, -List.getD_eq_getElem?_getD] at h) <;> conv => whnf)
    | (refine And.intro ?_ ?_ <;> conv => whnf)
    | exact True.intro
    | (intro; conv => whnf)
  · exfalso; simp only [List.length_nil] at *; omega
  · exfalso; simp only [List.length_nil] at *; omega
  · exact leafV hK (by simp only [optN, Option.getD_some, Option.isSome_some, ndC, enc])
theorem s93e : (CtrOK Tryd.prog 93 (.gen .ps C93e) ∧ Callable Tryd.prog 93) := by
  refine gen_ok (E := E93e) (mkE_cons s60 (mkE_cons s71 (mkE_nil tab_ok))) mix (O := O93e) (C := C93e) (own := .ps) Tryd.func93 rfl (by rfl) (by kernel_rfl) (fun args K h hbd => ?_)
  unfold C93e at h; split at h
  case h_2 => exact h.elim
  exact ⟨Nat.le_of_ble_eq_true rfl, a93e ⟨_, _, _, _, _⟩ _ (by exact hbd) _ h⟩
noncomputable def c65e (n : Nd) (p : List Bs) (x : Nd) (K : AV → List AV → Prop) : Prop :=
    Obl (p.length = 0) (Gx (smN x) (K (optN (some x)) []))
noncomputable def C65e : List AV → (AV → List AV → Prop) → Prop
  | [.st [.int .i64 n_0, .int .i64 n_1, .str n_2, .ps .str n_3, .ps .node n_4], .ps .str p, .st [.int .i64 x_0, .int .i64 x_1, .str x_2, .ps .str x_3, .ps .node x_4]], K => c65e ⟨n_0, n_1, n_2, n_3, n_4⟩ p ⟨x_0, x_1, x_2, x_3, x_4⟩ K
  | _, _ => False
noncomputable def E65e : Ctx := mkE tab [(60, .gen .ps C60), (65, .gen .ps C65), (71, .pure F71), (85, .gen .ps C85)]
noncomputable def O65e : Nat → List DI := ordL [(3, [.q 0, .q 1, .q 2, .q 3, .q 4, .q 5]), (6, [.q 0, .q 1, .q 2, .q 3, .q 4, .q 5, .q 6, .q 7, .l 8 [], .q 9, .q 10, .q 11, .a 12, .l 13 [], .q 14])]
theorem a65e (n : Nd) (p : List Bs) (x : Nd) (hb : BdAs [.st (ndC n), .ps .str p, .st (ndC x)]) (K : AV → List AV → Prop) (h : c65e n p x K) : abody E65e O65e .ps Tryd.f65 (Tryd.f65.body.getD .skip) [.st (ndC n), .ps .str p, .st (ndC x)] K := by
  simp only [BdAs, BdA, BdL, BdC, MX, ndC, shC, itC, stC, opC, chC, nwC, flC, rqC, rsC, enc, List.cons_append, List.nil_append, and_true, true_and] at hb
  unfold c65e at h
  obtain ⟨h0, hx, hK⟩ := h
  obtain rfl := List.length_eq_zero_iff.1 h0
  conv => whnf
  repeat' first
    | (refine Cnd.mk (fun h => ?_) (fun h => ?_) <;> (try simp [nd_eta, sh_eta, it_eta, sto_eta, op_eta, ch_eta, nw_eta, fl_eta, rq_eta, rs_eta, elDef, -List.getD_eq_getElem?_getD] at h) <;> conv => whnf)
    | (refine Obl.mk (by first | omega | rfl | exact inK_byte _ | (simp only [inK, Int.toNat_natCast, nd_eta, sh_eta, it_eta, sto_eta, op_eta, ch_eta, nw_eta, fl_eta, rq_eta, rs_eta, elDef, m60, m65, o71] <;> first | omega | grind) | grind [inK, m60, m65, o71]) ?_ <;> conv => whnf)
    | (refine OblG.mk (by conv => whnf
                          repeat (first | (refine Bx.mk ?_) | (intro h; (try simp [nd_eta, sh_eta, it_eta, sto_eta, op_eta, ch_eta, nw_eta, fl_eta, rq_eta, rs_eta, elDef, -List.getD_eq_getElem?_getD] at h); conv => whnf))
                          first | omega | rfl | exact inK_byte _ | (simp only [inK, Int.toNat_natCast, nd_eta, sh_eta, it_eta, sto_eta, op_eta, ch_eta, nw_eta, fl_eta, rq_eta, rs_eta, elDef, m60, m65, o71] <;> first | omega | grind) | grind [inK, m60, m65, o71]) ?_ <;> conv => whnf)
    | (refine Gd.mk (fun h => ?_) <;> (try simp [nd_eta, sh_eta, it_eta, sto_eta, op_eta, ch_eta, nw_eta, fl_eta, rq_eta, rs_eta, elDef, -List.getD_eq_getElem?_getD] at h) <;> conv => whnf)
    | (refine And.intro ?_ ?_ <;> conv => whnf)
    | exact True.intro
    | (intro; conv => whnf)
  · exact leafV hK (by simp only [optN, Option.getD_some, Option.isSome_some, ndC, enc])
  all_goals (exfalso; simp_all)
theorem s65e : (CtrOK Tryd.prog 65 (.gen .ps C65e) ∧ Callable Tryd.prog 65) := by
  refine gen_ok (E := E65e) (mkE_cons s60 (mkE_cons s65 (mkE_cons s71 (mkE_cons s85 (mkE_nil tab_ok))))) mix (O := O65e) (C := C65e) (own := .ps) Tryd.func65 rfl (by rfl) (by kernel_rfl) (fun args K h hbd => ?_)
  unfold C65e at h; split at h
  case h_2 => exact h.elim
  exact ⟨Nat.le_of_ble_eq_true rfl, a65e ⟨_, _, _, _, _⟩ _ ⟨_, _, _, _, _⟩ (by exact hbd) _ h⟩
set_option maxHeartbeats 1000000
noncomputable def c61m (n : Nd) (p : List Bs) (K : AV → List AV → Prop) : Prop :=
    Obl ((((p.length = 1 ∧ n.kind = 4) ∧ smN n) ∧ evenN n) ∧ n.kids.length ≤ 100000 ∧ 0 ≤ placeM n (p.getD 0 [])) (K (optN (some (withoutM n (placeM n (p.getD 0 [])).toNat))) [])
noncomputable def C61m : List AV → (AV → List AV → Prop) → Prop
  | [.st [.int .i64 n_0, .int .i64 n_1, .str n_2, .ps .str n_3, .ps .node n_4], .ps .str p], K => c61m ⟨n_0, n_1, n_2, n_3, n_4⟩ p K
  | _, _ => False
noncomputable def E61m : Ctx := mkE tab [(65, .gen .ps C65e), (71, .pure F71), (93, .gen .ps C93e)]
noncomputable def O61m : Nat → List DI := ordL [(4, [.q 0, .q 1, .q 2, .q 3, .l 4 [], .q 5, .q 6, .q 7, .a 8, .l 9 [], .q 10]), (7, [.q 0, .q 1, .q 2, .q 3, .q 4, .q 5, .q 6]), (10, [.q 1, .q 2, .q 3, .q 4, .q 6, .q 7, .q 8, .q 9, .q 10, .l 0 [2, 4, 7, 10], .l 5 [7, 10], .l 11 [], .q 12]), (13, [.q 1, .q 2, .q 3, .q 4, .q 6, .q 7, .q 8, .q 9, .q 10, .l 0 [2, 4, 7, 10], .l 5 [7, 10], .l 11 [], .q 12]), (14, [.q 0, .q 1, .q 2, .q 3, .q 4, .q 5, .q 6, .q 7, .q 8, .l 9 [], .q 10, .q 11, .l 12 [], .q 13])]
theorem a61m (n : Nd) (p : List Bs) (hb : BdAs [.st (ndC n), .ps .str p]) (K : AV → List AV → Prop) (h : c61m n p K) : abody E61m O61m .ps Tryd.f61 (Tryd.f61.body.getD .skip) [.st (ndC n), .ps .str p] K := by
  simp only [BdAs, BdA, BdL, BdC, MX, ndC, shC, itC, stC, opC, chC, nwC, flC, rqC, rsC, enc, List.cons_append, List.nil_append, and_true, true_and] at hb
  unfold c61m at h
  obtain ⟨⟨⟨⟨⟨hl, hk⟩, hs⟩, hev⟩, hc, hp0⟩, hK⟩ := h
  have hn := hev hk
  conv => whnf
  repeat' first
    | (refine Cnd.mk (fun h => ?_) (fun h => ?_) <;> (try simp [nd_eta, sh_eta, it_eta, sto_eta, op_eta, ch_eta, nw_eta, fl_eta, rq_eta, rs_eta, elDef, -List.getD_eq_getElem?_getD] at h) <;> conv => whnf)
    | (refine Obl.mk (by first | omega | rfl | exact inK_byte _ | (simp only [inK, Int.toNat_natCast, nd_eta, sh_eta, it_eta, sto_eta, op_eta, ch_eta, nw_eta, fl_eta, rq_eta, rs_eta, elDef, List.length_take, List.length_drop, List.length_append, List.length_nil, Int.toNat_zero, List.drop_zero, o71] <;> first | omega | grind) | grind [inK, List.length_take, List.length_drop, List.length_append, List.length_nil, Int.toNat_zero, List.drop_zero, o71]) ?_ <;> conv => whnf)
    | (refine OblG.mk (by conv => whnf
                          repeat (first | (refine Bx.mk ?_) | (intro h; (try simp [nd_eta, sh_eta, it_eta, sto_eta, op_eta, ch_eta, nw_eta, fl_eta, rq_eta, rs_eta, elDef, -List.getD_eq_getElem?_getD] at h); conv => whnf))
                          first | omega | rfl | exact inK_byte _ | (simp only [inK, Int.toNat_natCast, nd_eta, sh_eta, it_eta, sto_eta, op_eta, ch_eta, nw_eta, fl_eta, rq_eta, rs_eta, elDef, List.length_take, List.length_drop, List.length_append, List.length_nil, Int.toNat_zero, List.drop_zero, o71] <;> first | omega | grind) | grind [inK, List.length_take, List.length_drop, List.length_append, List.length_nil, Int.toNat_zero, List.drop_zero, o71]) ?_ <;> conv => whnf)
    | (refine Gd.mk (fun h => ?_) <;> (try simp [nd_eta, sh_eta, it_eta, sto_eta, op_eta, ch_eta, nw_eta, fl_eta, rq_eta, rs_eta, elDef, -List.getD_eq_getElem?_getD] at h) <;> conv => whnf)
    | (refine And.intro ?_ ?_ <;> conv => whnf)
    | exact True.intro
  · exfalso; omega
  intro r hr
  rw [nd_eta] at hr
  have hrk : r.kind = 4 := by rw [hr]; exact hk
  have hrn : r.names.length = r.kids.length := by rw [hr]; exact hn
  have hrc : r.kids.length ≤ 100000 := by rw [hr]; exact hc
  have e5 : ((p.length : Int) - 1).toNat = p.length - 1 := by omega
  have e4 : p.length - 1 = 0 := by omega
  have hpl := placeM_ge r (p.getD ((p.length : Int) - 1).toNat [])
  have hpz : 0 ≤ placeM r (p.getD (p.length - 1) []) := by rw [hr, e4]; exact hp0
  have e6 : (placeM r (p.getD (p.length - 1) []) + 1).toNat = (placeM r (p.getD (p.length - 1) [])).toNat + 1 := by omega
  have hw := withoutM_sm (i := (placeM r (p.getD (p.length - 1) [])).toNat) (show smN r by rw [hr]; exact hs)
  rw [← hr, ← e4] at hK
  clear hr
  unfold withoutM outM at hw hK
  rw [if_pos hrk] at hw hK
  conv => whnf
  repeat' first
    | (refine Cnd.mk (fun h => ?_) (fun h => ?_) <;> (try simp [nd_eta, sh_eta, it_eta, sto_eta, op_eta, ch_eta, nw_eta, fl_eta, rq_eta, rs_eta, elDef, -List.getD_eq_getElem?_getD] at h) <;> conv => whnf)
    | (refine Obl.mk (by first | omega | rfl | exact inK_byte _ | (simp only [inK, Int.toNat_natCast, nd_eta, sh_eta, it_eta, sto_eta, op_eta, ch_eta, nw_eta, fl_eta, rq_eta, rs_eta, elDef, List.length_take, List.length_drop, List.length_append, List.length_nil, Int.toNat_zero, List.drop_zero, o71] <;> first | omega | grind) | grind [inK, List.length_take, List.length_drop, List.length_append, List.length_nil, Int.toNat_zero, List.drop_zero, o71]) ?_ <;> conv => whnf)
    | (refine OblG.mk (by conv => whnf
                          repeat (first | (refine Bx.mk ?_) | (intro h; (try simp [nd_eta, sh_eta, it_eta, sto_eta, op_eta, ch_eta, nw_eta, fl_eta, rq_eta, rs_eta, elDef, -List.getD_eq_getElem?_getD] at h); conv => whnf))
                          first | omega | rfl | exact inK_byte _ | (simp only [inK, Int.toNat_natCast, nd_eta, sh_eta, it_eta, sto_eta, op_eta, ch_eta, nw_eta, fl_eta, rq_eta, rs_eta, elDef, List.length_take, List.length_drop, List.length_append, List.length_nil, Int.toNat_zero, List.drop_zero, o71] <;> first | omega | grind) | grind [inK, List.length_take, List.length_drop, List.length_append, List.length_nil, Int.toNat_zero, List.drop_zero, o71]) ?_ <;> conv => whnf)
    | (refine Gd.mk (fun h => ?_) <;> (try simp [nd_eta, sh_eta, it_eta, sto_eta, op_eta, ch_eta, nw_eta, fl_eta, rq_eta, rs_eta, elDef, -List.getD_eq_getElem?_getD] at h) <;> conv => whnf)
    | (refine And.intro ?_ ?_ <;> conv => whnf)
    | exact True.intro
  · exfalso; omega
  · refine Gx.mk ?_ ?_
    · simp only [nd_eta, elDef, e5, Int.toNat_zero, List.drop_zero, Int.toNat_natCast, List.take_length, List.nil_append, e6]
      exact hw
    · conv => whnf
      repeat' first
        | (refine Cnd.mk (fun h => ?_) (fun h => ?_) <;> (try simp [nd_eta, sh_eta, it_eta, sto_eta, op_eta, ch_eta, nw_eta, fl_eta, rq_eta, rs_eta, elDef, -List.getD_eq_getElem?_getD] at h) <;> conv => whnf)
        | (refine Obl.mk (by first | omega | rfl | exact inK_byte _ | (simp only [inK, Int.toNat_natCast, nd_eta, sh_eta, it_eta, sto_eta, op_eta, ch_eta, nw_eta, fl_eta, rq_eta, rs_eta, elDef, List.length_take, List.length_drop, List.length_append, List.length_nil, Int.toNat_zero, List.drop_zero, o71] <;> first | omega | grind) | grind [inK, List.length_take, List.length_drop, List.length_append, List.length_nil, Int.toNat_zero, List.drop_zero, o71]) ?_ <;> conv => whnf)
        | (refine OblG.mk (by conv => whnf
                              repeat (first | (refine Bx.mk ?_) | (intro h; (try simp [nd_eta, sh_eta, it_eta, sto_eta, op_eta, ch_eta, nw_eta, fl_eta, rq_eta, rs_eta, elDef, -List.getD_eq_getElem?_getD] at h); conv => whnf))
                              first | omega | rfl | exact inK_byte _ | (simp only [inK, Int.toNat_natCast, nd_eta, sh_eta, it_eta, sto_eta, op_eta, ch_eta, nw_eta, fl_eta, rq_eta, rs_eta, elDef, List.length_take, List.length_drop, List.length_append, List.length_nil, Int.toNat_zero, List.drop_zero, o71] <;> first | omega | grind) | grind [inK, List.length_take, List.length_drop, List.length_append, List.length_nil, Int.toNat_zero, List.drop_zero, o71]) ?_ <;> conv => whnf)
        | (refine Gd.mk (fun h => ?_) <;> (try simp [nd_eta, sh_eta, it_eta, sto_eta, op_eta, ch_eta, nw_eta, fl_eta, rq_eta, rs_eta, elDef, -List.getD_eq_getElem?_getD] at h) <;> conv => whnf)
        | (refine And.intro ?_ ?_ <;> conv => whnf)
        | exact True.intro
        | (intro; conv => whnf)
      refine leafV hK ?_
      simp only [optN, nd_eta, elDef, e5, Int.toNat_zero, List.drop_zero, Int.toNat_natCast, List.take_length, List.nil_append, e6]
      first | done | rfl
  · exact absurd hrk h
theorem s61m : (CtrOK Tryd.prog 61 (.gen .ps C61m) ∧ Callable Tryd.prog 61) := by
  refine gen_ok (E := E61m) (mkE_cons s65e (mkE_cons s71 (mkE_cons s93e (mkE_nil tab_ok)))) mix (O := O61m) (C := C61m) (own := .ps) Tryd.func61 rfl (by rfl) (by kernel_rfl) (fun args K h hbd => ?_)
  unfold C61m at h; split at h
  case h_2 => exact h.elim
  exact ⟨Nat.le_of_ble_eq_true rfl, a61m ⟨_, _, _, _, _⟩ _ (by exact hbd) _ h⟩
set_option maxHeartbeats 400000
noncomputable def c47 (n : Nd) (p : Nd) (K : AV → List AV → Prop) : Prop :=
    Obl (okN n ∧ okN p) (K (.st (ndC (mrgM p n))) [])
noncomputable def m47 (n : Nd) (p : Nd) : Nat := SizeOf.sizeOf p
noncomputable def C47 : List AV → (AV → List AV → Prop) → Prop
  | [.st [.int .i64 n_0, .int .i64 n_1, .str n_2, .ps .str n_3, .ps .node n_4], .st [.int .i64 p_0, .int .i64 p_1, .str p_2, .ps .str p_3, .ps .node p_4]], K => c47 ⟨n_0, n_1, n_2, n_3, n_4⟩ ⟨p_0, p_1, p_2, p_3, p_4⟩ K
  | _, _ => False
noncomputable def Ck47 (k : Nat) : List AV → (AV → List AV → Prop) → Prop
  | [.st [.int .i64 n_0, .int .i64 n_1, .str n_2, .ps .str n_3, .ps .node n_4], .st [.int .i64 p_0, .int .i64 p_1, .str p_2, .ps .str p_3, .ps .node p_4]], K => Obl (m47 ⟨n_0, n_1, n_2, n_3, n_4⟩ ⟨p_0, p_1, p_2, p_3, p_4⟩ < k) (c47 ⟨n_0, n_1, n_2, n_3, n_4⟩ ⟨p_0, p_1, p_2, p_3, p_4⟩ K)
  | _, _ => False
noncomputable def E47 (k : Nat) : Ctx := mkE tab [(47, .gen .ps (Ck47 k)), (60, .gen .ps C60), (61, .gen .ps C61m), (71, .pure F71), (85, .gen .ps C85k), (86, .gen .ps C86k)]
noncomputable def O47 : Nat → List DI := ordL [(14, [.q 0, .q 1, .q 2, .q 3, .q 4, .q 5, .q 6, .q 7, .q 8, .q 9, .q 10, .q 11, .l 12 [0], .l 13 [], .l 14 []]), (16, [.q 0, .q 1, .q 2, .q 3, .q 4, .q 5, .q 6, .q 7, .l 8 [0], .l 9 [], .q 10, .q 11, .q 12, .l 13 []])]
theorem a47 (k : Nat) (n : Nd) (p : Nd) (hm : m47 n p < k + 1) (hb : BdAs [.st (ndC n), .st (ndC p)]) (K : AV → List AV → Prop) (h : c47 n p K) : abody (E47 k) O47 .ps Tryd.f47 (Tryd.f47.body.getD .skip) [.st (ndC n), .st (ndC p)] K := by
  simp only [BdAs, BdA, BdL, BdC, MX, ndC, shC, itC, stC, opC, chC, nwC, flC, rqC, rsC, enc, List.cons_append, List.nil_append, and_true, true_and] at hb
  unfold c47 at h
  unfold m47 at hm
  obtain ⟨⟨hn, hp⟩, hK⟩ := h
  have hsn := hn.sm
  have hsp := hp.sm
  have hme := mrgM_eq p n
  conv => whnf
  repeat' first
    | (refine Cnd.mk (fun h => ?_) (fun h => ?_) <;> (try simp [nd_eta, sh_eta, it_eta, sto_eta, op_eta, ch_eta, nw_eta, fl_eta, rq_eta, rs_eta, elDef, -List.getD_eq_getElem?_getD] at h) <;> conv => whnf)
    | (refine Obl.mk (by first | omega | rfl | exact inK_byte _ | (simp only [inK, Int.toNat_natCast, nd_eta, sh_eta, it_eta, sto_eta, op_eta, ch_eta, nw_eta, fl_eta, rq_eta, rs_eta, elDef, m47, m47, m60, o71] <;> first | omega | grind) | grind [inK, m47, m47, m60, o71]) ?_ <;> conv => whnf)
    | (refine OblG.mk (by conv => whnf
                          repeat (first | (refine Bx.mk ?_) | (intro h; (try simp [nd_eta, sh_eta, it_eta, sto_eta, op_eta, ch_eta, nw_eta, fl_eta, rq_eta, rs_eta, elDef, -List.getD_eq_getElem?_getD] at h); conv => whnf))
                          first | omega | rfl | exact inK_byte _ | (simp only [inK, Int.toNat_natCast, nd_eta, sh_eta, it_eta, sto_eta, op_eta, ch_eta, nw_eta, fl_eta, rq_eta, rs_eta, elDef, m47, m47, m60, o71] <;> first | omega | grind) | grind [inK, m47, m47, m60, o71]) ?_ <;> conv => whnf)
    | (refine Gd.mk (fun h => ?_) <;> (try simp [nd_eta, sh_eta, it_eta, sto_eta, op_eta, ch_eta, nw_eta, fl_eta, rq_eta, rs_eta, elDef, -List.getD_eq_getElem?_getD] at h) <;> conv => whnf)
    | (refine And.intro ?_ ?_ <;> conv => whnf)
    | exact True.intro
    | (intro; conv => whnf)
  · rw [hme, if_neg h] at hK
    exact leafV hK rfl
  · rename_i hk
    have hk4 := h
    clear h
    have hlp := (okN_names hp).2.1 hk
    have h00 : n = ndOf (accM p n 0) := by rw [accM_zero, base_nd hn hk4]
    refine aloop_intro (Nat × Nd) (fun q => q.1 ≤ p.kids.length ∧ q.2 = ndOf (accM p n q.1)) (fun q => p.kids.length - q.1) (fun q => [(6, .int .i64 q.1)]) (fun q => [(5, .box (ndC q.2))]) [2, 3, 4] (0, n) [] [] ⟨Nat.zero_le _, h00⟩ ?_ (by exact sgOk_of (by rfl)) ?_
    · (conv => whnf); (repeat' (first | exact trivial | rfl | (refine nilEq ?_; first | rfl | (simp only [*]; done) | (simp [*]; done) | grind) | apply And.intro | ((first | refine intEq ?_ | refine boolEq ?_ | refine strEq ?_ | refine psEq ?_ | refine nilEq ?_ | refine arrEq ?_); (try simp only [Int.toNat_natCast, nd_eta, sh_eta, it_eta, sto_eta, op_eta, ch_eta, nw_eta, fl_eta, rq_eta, rs_eta, elDef]); first | done | omega | grind | (simp only [*]; done) | (simp [*]; done)))); (all_goals (conv => whnf)); (repeat' (first | exact trivial | rfl | (refine nilEq ?_; first | rfl | (simp only [*]; done) | (simp [*]; done) | grind) | apply And.intro | ((first | refine intEq ?_ | refine boolEq ?_ | refine strEq ?_ | refine psEq ?_ | refine nilEq ?_ | refine arrEq ?_); (try simp only [Int.toNat_natCast, nd_eta, sh_eta, it_eta, sto_eta, op_eta, ch_eta, nw_eta, fl_eta, rq_eta, rs_eta, elDef]); first | done | omega | grind | (simp only [*]; done) | (simp [*]; done)) | ((try simp only [Int.toNat_natCast, nd_eta, sh_eta, it_eta, sto_eta, op_eta, ch_eta, nw_eta, fl_eta, rq_eta, rs_eta, elDef]); first | done | omega | grind | (simp only [*]; done) | (simp [*]; done))))
    rintro ⟨i, m⟩ ⟨hi, hm⟩
    dsimp only at hi hm
    obtain ⟨m1, m2, m3, m4, m5⟩ := merge_now hp hn (show i ≤ p.names.length by omega) hi hm
    have hpl := placeM_ge m (p.names.getD i [])
    have hko := fun (h : i < p.kids.length) => okN_kid hp h
    have hks := fun (h : i < p.kids.length) => kid_size h
    have hst := fun (h : i < p.kids.length) => merge_step hp hk hn h hm rfl rfl
    have hz := okN_zero
    unfold zeroN at hz hst
    clear hme
    conv => whnf
    repeat' first
      | (refine Cnd.mk (fun h => ?_) (fun h => ?_) <;> (try simp [nd_eta, sh_eta, it_eta, sto_eta, op_eta, ch_eta, nw_eta, fl_eta, rq_eta, rs_eta, elDef, -List.getD_eq_getElem?_getD] at h) <;> conv => whnf)
      | (refine Obl.mk (by first | omega | rfl | exact inK_byte _ | (simp only [inK, Int.toNat_natCast, nd_eta, sh_eta, it_eta, sto_eta, op_eta, ch_eta, nw_eta, fl_eta, rq_eta, rs_eta, elDef, m47, m47, m60, o71] <;> first | omega | grind) | grind [inK, m47, m47, m60, o71]) ?_ <;> conv => whnf)
      | (refine OblG.mk (by conv => whnf
                            repeat (first | (refine Bx.mk ?_) | (intro h; (try simp [nd_eta, sh_eta, it_eta, sto_eta, op_eta, ch_eta, nw_eta, fl_eta, rq_eta, rs_eta, elDef, -List.getD_eq_getElem?_getD] at h); conv => whnf))
                            first | omega | rfl | exact inK_byte _ | (simp only [inK, Int.toNat_natCast, nd_eta, sh_eta, it_eta, sto_eta, op_eta, ch_eta, nw_eta, fl_eta, rq_eta, rs_eta, elDef, m47, m47, m60, o71] <;> first | omega | grind) | grind [inK, m47, m47, m60, o71]) ?_ <;> conv => whnf)
      | (refine Gd.mk (fun h => ?_) <;> (try simp [nd_eta, sh_eta, it_eta, sto_eta, op_eta, ch_eta, nw_eta, fl_eta, rq_eta, rs_eta, elDef, -List.getD_eq_getElem?_getD] at h) <;> conv => whnf)
      | (refine And.intro ?_ ?_ <;> conv => whnf)
      | exact True.intro
      | (intro; conv => whnf)
    · rename_i h1
      have e9 := (hst h1).1 (of_decide_eq_true h.1) h.2
      exact ⟨(i + 1, withoutM m (placeM m (p.names.getD i [])).toNat), [], [], ⟨by simp only; omega, e9⟩, by simp only; omega, by (conv => whnf); (repeat' (first | exact trivial | rfl | (refine nilEq ?_; first | rfl | (simp only [*]; done) | (simp [*]; done) | grind) | apply And.intro | ((first | refine intEq ?_ | refine boolEq ?_ | refine strEq ?_ | refine psEq ?_ | refine nilEq ?_ | refine arrEq ?_); (try simp only [Int.toNat_natCast, nd_eta, sh_eta, it_eta, sto_eta, op_eta, ch_eta, nw_eta, fl_eta, rq_eta, rs_eta, elDef]); first | done | omega | grind | (simp only [*]; done) | (simp [*]; done)))); (all_goals (conv => whnf)); (repeat' (first | exact trivial | rfl | (refine nilEq ?_; first | rfl | (simp only [*]; done) | (simp [*]; done) | grind) | apply And.intro | ((first | refine intEq ?_ | refine boolEq ?_ | refine strEq ?_ | refine psEq ?_ | refine nilEq ?_ | refine arrEq ?_); (try simp only [Int.toNat_natCast, nd_eta, sh_eta, it_eta, sto_eta, op_eta, ch_eta, nw_eta, fl_eta, rq_eta, rs_eta, elDef]); first | done | omega | grind | (simp only [*]; done) | (simp [*]; done)) | ((try simp only [Int.toNat_natCast, nd_eta, sh_eta, it_eta, sto_eta, op_eta, ch_eta, nw_eta, fl_eta, rq_eta, rs_eta, elDef]); first | done | omega | grind | (simp only [*]; done) | (simp [*]; done)))), (by exact sgOk_of (by rfl))⟩
    · rename_i h1 h2
      have e9 := (hst h1).2.2.2.1 (of_decide_eq_false h.1) h.2
      exact ⟨(i + 1, withKidM m (placeM m (p.names.getD i [])).toNat (mrgM (p.kids.getD i default) (m.kids.getD (placeM m (p.names.getD i [])).toNat default))), [], [], ⟨by simp only; omega, e9⟩, by simp only; omega, by (conv => whnf); (repeat' (first | exact trivial | rfl | (refine nilEq ?_; first | rfl | (simp only [*]; done) | (simp [*]; done) | grind) | apply And.intro | ((first | refine intEq ?_ | refine boolEq ?_ | refine strEq ?_ | refine psEq ?_ | refine nilEq ?_ | refine arrEq ?_); (try simp only [Int.toNat_natCast, nd_eta, sh_eta, it_eta, sto_eta, op_eta, ch_eta, nw_eta, fl_eta, rq_eta, rs_eta, elDef]); first | done | omega | grind | (simp only [*]; done) | (simp [*]; done)))); (all_goals (conv => whnf)); (repeat' (first | exact trivial | rfl | (refine nilEq ?_; first | rfl | (simp only [*]; done) | (simp [*]; done) | grind) | apply And.intro | ((first | refine intEq ?_ | refine boolEq ?_ | refine strEq ?_ | refine psEq ?_ | refine nilEq ?_ | refine arrEq ?_); (try simp only [Int.toNat_natCast, nd_eta, sh_eta, it_eta, sto_eta, op_eta, ch_eta, nw_eta, fl_eta, rq_eta, rs_eta, elDef]); first | done | omega | grind | (simp only [*]; done) | (simp [*]; done)) | ((try simp only [Int.toNat_natCast, nd_eta, sh_eta, it_eta, sto_eta, op_eta, ch_eta, nw_eta, fl_eta, rq_eta, rs_eta, elDef]); first | done | omega | grind | (simp only [*]; done) | (simp [*]; done)))), (by exact sgOk_of (by rfl))⟩
    · rename_i h1 h2 h3
      have e9 := (hst h1).2.2.2.2.2 (of_decide_eq_false h) (h3 h)
      exact ⟨(i + 1, (addHereM m (p.names.getD i []) (mrgM (p.kids.getD i default) ⟨0, 0, [], [], []⟩)).getD default), [], [], ⟨by simp only; omega, by rw [e9]; rfl⟩, by simp only; omega, by (conv => whnf); (repeat' (first | exact trivial | rfl | (refine nilEq ?_; first | rfl | (simp only [*]; done) | (simp [*]; done) | grind) | apply And.intro | ((first | refine intEq ?_ | refine boolEq ?_ | refine strEq ?_ | refine psEq ?_ | refine nilEq ?_ | refine arrEq ?_); (try simp only [Int.toNat_natCast, nd_eta, sh_eta, it_eta, sto_eta, op_eta, ch_eta, nw_eta, fl_eta, rq_eta, rs_eta, elDef]); first | done | omega | grind | (simp only [*]; done) | (simp [*]; done)))); (all_goals (conv => whnf)); (repeat' (first | exact trivial | rfl | (refine nilEq ?_; first | rfl | (simp only [*]; done) | (simp [*]; done) | grind) | apply And.intro | ((first | refine intEq ?_ | refine boolEq ?_ | refine strEq ?_ | refine psEq ?_ | refine nilEq ?_ | refine arrEq ?_); (try simp only [Int.toNat_natCast, nd_eta, sh_eta, it_eta, sto_eta, op_eta, ch_eta, nw_eta, fl_eta, rq_eta, rs_eta, elDef]); first | done | omega | grind | (simp only [*]; done) | (simp [*]; done)) | ((try simp only [Int.toNat_natCast, nd_eta, sh_eta, it_eta, sto_eta, op_eta, ch_eta, nw_eta, fl_eta, rq_eta, rs_eta, elDef]); first | done | omega | grind | (simp only [*]; done) | (simp [*]; done)))), (by exact sgOk_of (by rfl))⟩
    · rename_i h1 h2 h3
      have e9 := (hst h1).2.1 (of_decide_eq_true h) (h2 h)
      exact ⟨(i + 1, m), [], [], ⟨by simp only; omega, e9⟩, by simp only; omega, by (conv => whnf); (repeat' (first | exact trivial | rfl | (refine nilEq ?_; first | rfl | (simp only [*]; done) | (simp [*]; done) | grind) | apply And.intro | ((first | refine intEq ?_ | refine boolEq ?_ | refine strEq ?_ | refine psEq ?_ | refine nilEq ?_ | refine arrEq ?_); (try simp only [Int.toNat_natCast, nd_eta, sh_eta, it_eta, sto_eta, op_eta, ch_eta, nw_eta, fl_eta, rq_eta, rs_eta, elDef]); first | done | omega | grind | (simp only [*]; done) | (simp [*]; done)))); (all_goals (conv => whnf)); (repeat' (first | exact trivial | rfl | (refine nilEq ?_; first | rfl | (simp only [*]; done) | (simp [*]; done) | grind) | apply And.intro | ((first | refine intEq ?_ | refine boolEq ?_ | refine strEq ?_ | refine psEq ?_ | refine nilEq ?_ | refine arrEq ?_); (try simp only [Int.toNat_natCast, nd_eta, sh_eta, it_eta, sto_eta, op_eta, ch_eta, nw_eta, fl_eta, rq_eta, rs_eta, elDef]); first | done | omega | grind | (simp only [*]; done) | (simp [*]; done)) | ((try simp only [Int.toNat_natCast, nd_eta, sh_eta, it_eta, sto_eta, op_eta, ch_eta, nw_eta, fl_eta, rq_eta, rs_eta, elDef]); first | done | omega | grind | (simp only [*]; done) | (simp [*]; done)))), (by exact sgOk_of (by rfl))⟩
    · rw [mrgM_eq p n, if_pos hk, ← accM_all n hlp, show p.names.length = i by omega, ← hm] at hK
      exact hK
  · rename_i hk
    have hk4 := h
    clear h
    have hlp := (okN_names hp).2.1 hk
    have h00 : ndOf [] = ndOf (accM p n 0) := by rw [accM_zero]; unfold baseI; rw [if_neg hk4]
    refine aloop_intro (Nat × Nd) (fun q => q.1 ≤ p.kids.length ∧ q.2 = ndOf (accM p n q.1)) (fun q => p.kids.length - q.1) (fun q => [(6, .int .i64 q.1)]) (fun q => [(5, .box (ndC q.2))]) [2, 3, 4] (0, ndOf []) [] [14, 15] ⟨Nat.zero_le _, h00⟩ ?_ (by exact sgOk_of (by rfl)) ?_
    · (conv => whnf); (repeat' (first | exact trivial | rfl | (refine nilEq ?_; first | rfl | (simp only [*]; done) | (simp [*]; done) | grind) | apply And.intro | ((first | refine intEq ?_ | refine boolEq ?_ | refine strEq ?_ | refine psEq ?_ | refine nilEq ?_ | refine arrEq ?_); (try simp only [Int.toNat_natCast, nd_eta, sh_eta, it_eta, sto_eta, op_eta, ch_eta, nw_eta, fl_eta, rq_eta, rs_eta, elDef]); first | done | omega | grind | (simp only [*]; done) | (simp [*]; done)))); (all_goals (conv => whnf)); (repeat' (first | exact trivial | rfl | (refine nilEq ?_; first | rfl | (simp only [*]; done) | (simp [*]; done) | grind) | apply And.intro | ((first | refine intEq ?_ | refine boolEq ?_ | refine strEq ?_ | refine psEq ?_ | refine nilEq ?_ | refine arrEq ?_); (try simp only [Int.toNat_natCast, nd_eta, sh_eta, it_eta, sto_eta, op_eta, ch_eta, nw_eta, fl_eta, rq_eta, rs_eta, elDef]); first | done | omega | grind | (simp only [*]; done) | (simp [*]; done)) | ((try simp only [Int.toNat_natCast, nd_eta, sh_eta, it_eta, sto_eta, op_eta, ch_eta, nw_eta, fl_eta, rq_eta, rs_eta, elDef]); first | done | omega | grind | (simp only [*]; done) | (simp [*]; done))))
    rintro ⟨i, m⟩ ⟨hi, hm⟩
    dsimp only at hi hm
    obtain ⟨m1, m2, m3, m4, m5⟩ := merge_now hp hn (show i ≤ p.names.length by omega) hi hm
    have hpl := placeM_ge m (p.names.getD i [])
    have hko := fun (h : i < p.kids.length) => okN_kid hp h
    have hks := fun (h : i < p.kids.length) => kid_size h
    have hst := fun (h : i < p.kids.length) => merge_step hp hk hn h hm rfl rfl
    have hz := okN_zero
    unfold zeroN at hz hst
    clear hme
    conv => whnf
    repeat' first
      | (refine Cnd.mk (fun h => ?_) (fun h => ?_) <;> (try simp [nd_eta, sh_eta, it_eta, sto_eta, op_eta, ch_eta, nw_eta, fl_eta, rq_eta, rs_eta, elDef, -List.getD_eq_getElem?_getD] at h) <;> conv => whnf)
      | (refine Obl.mk (by first | omega | rfl | exact inK_byte _ | (simp only [inK, Int.toNat_natCast, nd_eta, sh_eta, it_eta, sto_eta, op_eta, ch_eta, nw_eta, fl_eta, rq_eta, rs_eta, elDef, m47, m47, m60, o71] <;> first | omega | grind) | grind [inK, m47, m47, m60, o71]) ?_ <;> conv => whnf)
      | (refine OblG.mk (by conv => whnf
                            repeat (first | (refine Bx.mk ?_) | (intro h; (try simp [nd_eta, sh_eta, it_eta, sto_eta, op_eta, ch_eta, nw_eta, fl_eta, rq_eta, rs_eta, elDef, -List.getD_eq_getElem?_getD] at h); conv => whnf))
                            first | omega | rfl | exact inK_byte _ | (simp only [inK, Int.toNat_natCast, nd_eta, sh_eta, it_eta, sto_eta, op_eta, ch_eta, nw_eta, fl_eta, rq_eta, rs_eta, elDef, m47, m47, m60, o71] <;> first | omega | grind) | grind [inK, m47, m47, m60, o71]) ?_ <;> conv => whnf)
      | (refine Gd.mk (fun h => ?_) <;> (try simp [nd_eta, sh_eta, it_eta, sto_eta, op_eta, ch_eta, nw_eta, fl_eta, rq_eta, rs_eta, elDef, -List.getD_eq_getElem?_getD] at h) <;> conv => whnf)
      | (refine And.intro ?_ ?_ <;> conv => whnf)
      | exact True.intro
      | (intro; conv => whnf)
    · rename_i h1
      have e9 := (hst h1).1 (of_decide_eq_true h.1) h.2
      exact ⟨(i + 1, withoutM m (placeM m (p.names.getD i [])).toNat), [], [], ⟨by simp only; omega, e9⟩, by simp only; omega, by (conv => whnf); (repeat' (first | exact trivial | rfl | (refine nilEq ?_; first | rfl | (simp only [*]; done) | (simp [*]; done) | grind) | apply And.intro | ((first | refine intEq ?_ | refine boolEq ?_ | refine strEq ?_ | refine psEq ?_ | refine nilEq ?_ | refine arrEq ?_); (try simp only [Int.toNat_natCast, nd_eta, sh_eta, it_eta, sto_eta, op_eta, ch_eta, nw_eta, fl_eta, rq_eta, rs_eta, elDef]); first | done | omega | grind | (simp only [*]; done) | (simp [*]; done)))); (all_goals (conv => whnf)); (repeat' (first | exact trivial | rfl | (refine nilEq ?_; first | rfl | (simp only [*]; done) | (simp [*]; done) | grind) | apply And.intro | ((first | refine intEq ?_ | refine boolEq ?_ | refine strEq ?_ | refine psEq ?_ | refine nilEq ?_ | refine arrEq ?_); (try simp only [Int.toNat_natCast, nd_eta, sh_eta, it_eta, sto_eta, op_eta, ch_eta, nw_eta, fl_eta, rq_eta, rs_eta, elDef]); first | done | omega | grind | (simp only [*]; done) | (simp [*]; done)) | ((try simp only [Int.toNat_natCast, nd_eta, sh_eta, it_eta, sto_eta, op_eta, ch_eta, nw_eta, fl_eta, rq_eta, rs_eta, elDef]); first | done | omega | grind | (simp only [*]; done) | (simp [*]; done)))), (by exact sgOk_of (by rfl))⟩
    · rename_i h1 h2
      have e9 := (hst h1).2.2.2.1 (of_decide_eq_false h.1) h.2
      exact ⟨(i + 1, withKidM m (placeM m (p.names.getD i [])).toNat (mrgM (p.kids.getD i default) (m.kids.getD (placeM m (p.names.getD i [])).toNat default))), [], [], ⟨by simp only; omega, e9⟩, by simp only; omega, by (conv => whnf); (repeat' (first | exact trivial | rfl | (refine nilEq ?_; first | rfl | (simp only [*]; done) | (simp [*]; done) | grind) | apply And.intro | ((first | refine intEq ?_ | refine boolEq ?_ | refine strEq ?_ | refine psEq ?_ | refine nilEq ?_ | refine arrEq ?_); (try simp only [Int.toNat_natCast, nd_eta, sh_eta, it_eta, sto_eta, op_eta, ch_eta, nw_eta, fl_eta, rq_eta, rs_eta, elDef]); first | done | omega | grind | (simp only [*]; done) | (simp [*]; done)))); (all_goals (conv => whnf)); (repeat' (first | exact trivial | rfl | (refine nilEq ?_; first | rfl | (simp only [*]; done) | (simp [*]; done) | grind) | apply And.intro | ((first | refine intEq ?_ | refine boolEq ?_ | refine strEq ?_ | refine psEq ?_ | refine nilEq ?_ | refine arrEq ?_); (try simp only [Int.toNat_natCast, nd_eta, sh_eta, it_eta, sto_eta, op_eta, ch_eta, nw_eta, fl_eta, rq_eta, rs_eta, elDef]); first | done | omega | grind | (simp only [*]; done) | (simp [*]; done)) | ((try simp only [Int.toNat_natCast, nd_eta, sh_eta, it_eta, sto_eta, op_eta, ch_eta, nw_eta, fl_eta, rq_eta, rs_eta, elDef]); first | done | omega | grind | (simp only [*]; done) | (simp [*]; done)))), (by exact sgOk_of (by rfl))⟩
    · rename_i h1 h2 h3
      have e9 := (hst h1).2.2.2.2.2 (of_decide_eq_false h) (h3 h)
      exact ⟨(i + 1, (addHereM m (p.names.getD i []) (mrgM (p.kids.getD i default) ⟨0, 0, [], [], []⟩)).getD default), [], [], ⟨by simp only; omega, by rw [e9]; rfl⟩, by simp only; omega, by (conv => whnf); (repeat' (first | exact trivial | rfl | (refine nilEq ?_; first | rfl | (simp only [*]; done) | (simp [*]; done) | grind) | apply And.intro | ((first | refine intEq ?_ | refine boolEq ?_ | refine strEq ?_ | refine psEq ?_ | refine nilEq ?_ | refine arrEq ?_); (try simp only [Int.toNat_natCast, nd_eta, sh_eta, it_eta, sto_eta, op_eta, ch_eta, nw_eta, fl_eta, rq_eta, rs_eta, elDef]); first | done | omega | grind | (simp only [*]; done) | (simp [*]; done)))); (all_goals (conv => whnf)); (repeat' (first | exact trivial | rfl | (refine nilEq ?_; first | rfl | (simp only [*]; done) | (simp [*]; done) | grind) | apply And.intro | ((first | refine intEq ?_ | refine boolEq ?_ | refine strEq ?_ | refine psEq ?_ | refine nilEq ?_ | refine arrEq ?_); (try simp only [Int.toNat_natCast, nd_eta, sh_eta, it_eta, sto_eta, op_eta, ch_eta, nw_eta, fl_eta, rq_eta, rs_eta, elDef]); first | done | omega | grind | (simp only [*]; done) | (simp [*]; done)) | ((try simp only [Int.toNat_natCast, nd_eta, sh_eta, it_eta, sto_eta, op_eta, ch_eta, nw_eta, fl_eta, rq_eta, rs_eta, elDef]); first | done | omega | grind | (simp only [*]; done) | (simp [*]; done)))), (by exact sgOk_of (by rfl))⟩
    · rename_i h1 h2 h3
      have e9 := (hst h1).2.1 (of_decide_eq_true h) (h2 h)
      exact ⟨(i + 1, m), [], [], ⟨by simp only; omega, e9⟩, by simp only; omega, by (conv => whnf); (repeat' (first | exact trivial | rfl | (refine nilEq ?_; first | rfl | (simp only [*]; done) | (simp [*]; done) | grind) | apply And.intro | ((first | refine intEq ?_ | refine boolEq ?_ | refine strEq ?_ | refine psEq ?_ | refine nilEq ?_ | refine arrEq ?_); (try simp only [Int.toNat_natCast, nd_eta, sh_eta, it_eta, sto_eta, op_eta, ch_eta, nw_eta, fl_eta, rq_eta, rs_eta, elDef]); first | done | omega | grind | (simp only [*]; done) | (simp [*]; done)))); (all_goals (conv => whnf)); (repeat' (first | exact trivial | rfl | (refine nilEq ?_; first | rfl | (simp only [*]; done) | (simp [*]; done) | grind) | apply And.intro | ((first | refine intEq ?_ | refine boolEq ?_ | refine strEq ?_ | refine psEq ?_ | refine nilEq ?_ | refine arrEq ?_); (try simp only [Int.toNat_natCast, nd_eta, sh_eta, it_eta, sto_eta, op_eta, ch_eta, nw_eta, fl_eta, rq_eta, rs_eta, elDef]); first | done | omega | grind | (simp only [*]; done) | (simp [*]; done)) | ((try simp only [Int.toNat_natCast, nd_eta, sh_eta, it_eta, sto_eta, op_eta, ch_eta, nw_eta, fl_eta, rq_eta, rs_eta, elDef]); first | done | omega | grind | (simp only [*]; done) | (simp [*]; done)))), (by exact sgOk_of (by rfl))⟩
    · rw [mrgM_eq p n, if_pos hk, ← accM_all n hlp, show p.names.length = i by omega, ← hm] at hK
      exact hK
theorem r47 : ∀ k, (CtrOK Tryd.prog 47 (.gen .ps (Ck47 k)) ∧ Callable Tryd.prog 47) := by
  intro k
  induction k with
  | zero =>
    exact ⟨fun args K h => by
        unfold Ck47 at h; split at h
        · exact absurd h.o (Nat.not_lt_zero _)
        · exact h.elim, callable Tryd.func47 rfl (by rfl)⟩
  | succ k ih =>
    refine gen_ok (E := E47 k) (mkE_cons ih (mkE_cons s60 (mkE_cons s61m (mkE_cons s71 (mkE_cons s85k (mkE_cons s86k (mkE_nil tab_ok))))))) mix (O := O47) (C := (Ck47 (k + 1))) (own := .ps) Tryd.func47 rfl (by rfl) (by kernel_rfl) (fun args K h hbd => ?_)
    unfold Ck47 at h; split at h
    case h_2 => exact h.elim
    exact ⟨Nat.le_of_ble_eq_true rfl, a47 k ⟨_, _, _, _, _⟩ ⟨_, _, _, _, _⟩ h.o (by exact hbd) _ h.k⟩
theorem s47 : (CtrOK Tryd.prog 47 (.gen .ps C47) ∧ Callable Tryd.prog 47) := by
  refine ⟨fun args K h => ?_, (r47 0).2⟩
  unfold C47 at h; split at h
  · exact (r47 (m47 ⟨_, _, _, _, _⟩ ⟨_, _, _, _, _⟩ + 1)).1 _ K ⟨Nat.lt_succ_self _, h⟩
  · exact h.elim
noncomputable def c22 (n : Nd) (p : Nd) (K : AV → List AV → Prop) : Prop :=
    K (optN (mergeNodeM n p)) []
noncomputable def C22 : List AV → (AV → List AV → Prop) → Prop
  | [.st [.int .i64 n_0, .int .i64 n_1, .str n_2, .ps .str n_3, .ps .node n_4], .st [.int .i64 p_0, .int .i64 p_1, .str p_2, .ps .str p_3, .ps .node p_4]], K => c22 ⟨n_0, n_1, n_2, n_3, n_4⟩ ⟨p_0, p_1, p_2, p_3, p_4⟩ K
  | _, _ => False
noncomputable def E22 : Ctx := mkE tab [(30, .pure F30), (46, .gen .ps C46), (47, .gen .ps C47)]
noncomputable def O22 : Nat → List DI := ordL []
theorem a22 (n : Nd) (p : Nd) (hb : BdAs [.st (ndC n), .st (ndC p)]) (K : AV → List AV → Prop) (h : c22 n p K) : abody E22 O22 .ps Tryd.f22 (Tryd.f22.body.getD .skip) [.st (ndC n), .st (ndC p)] K := by
  simp only [BdAs, BdA, BdL, BdC, MX, ndC, shC, itC, stC, opC, chC, nwC, flC, rqC, rsC, enc, List.cons_append, List.nil_append, and_true, true_and] at hb
  unfold c22 at h
  have hK9 := h
  have h1 := fun h => validM_ok (n := n) h
  have h2 := fun h => validM_ok (n := p) h
  conv => whnf
  repeat' first
    | (refine Cnd.mk (fun h => ?_) (fun h => ?_) <;> (try simp [nd_eta, sh_eta, it_eta, sto_eta, op_eta, ch_eta, nw_eta, fl_eta, rq_eta, rs_eta, elDef, -List.getD_eq_getElem?_getD] at h) <;> conv => whnf)
    | (refine Obl.mk (by first | omega | rfl | exact inK_byte _ | (simp only [inK, Int.toNat_natCast, nd_eta, sh_eta, it_eta, sto_eta, op_eta, ch_eta, nw_eta, fl_eta, rq_eta, rs_eta, elDef, m47] <;> first | omega | grind) | grind [inK, m47]) ?_ <;> conv => whnf)
    | (refine OblG.mk (by conv => whnf
                          repeat (first | (refine Bx.mk ?_) | (intro h; (try simp [nd_eta, sh_eta, it_eta, sto_eta, op_eta, ch_eta, nw_eta, fl_eta, rq_eta, rs_eta, elDef, -List.getD_eq_getElem?_getD] at h); conv => whnf))
                          first | omega | rfl | exact inK_byte _ | (simp only [inK, Int.toNat_natCast, nd_eta, sh_eta, it_eta, sto_eta, op_eta, ch_eta, nw_eta, fl_eta, rq_eta, rs_eta, elDef, m47] <;> first | omega | grind) | grind [inK, m47]) ?_ <;> conv => whnf)
    | (refine Gd.mk (fun h => ?_) <;> (try simp [nd_eta, sh_eta, it_eta, sto_eta, op_eta, ch_eta, nw_eta, fl_eta, rq_eta, rs_eta, elDef, -List.getD_eq_getElem?_getD] at h) <;> conv => whnf)
    | (refine And.intro ?_ ?_ <;> conv => whnf)
    | exact True.intro
    | (intro; conv => whnf)
  · have e : mergeNodeM n p = none := by unfold mergeNodeM; rw [if_neg (by grind)]
    exact leafV hK9 (by rw [e]; rfl)
  · have e : mergeNodeM n p = if true && validM (mrgM p n) then some (mrgM p n) else none := by
      unfold mergeNodeM
      rw [if_pos (by grind), Bool.true_and]
    refine leafV hK9 ?_
    rw [e]
    simp only [optN, nd_eta]; try rfl
theorem s22 : (CtrOK Tryd.prog 22 (.gen .ps C22) ∧ Callable Tryd.prog 22) := by
  refine gen_ok (E := E22) (mkE_cons s30 (mkE_cons s46 (mkE_cons s47 (mkE_nil tab_ok)))) mix (O := O22) (C := C22) (own := .ps) Tryd.func22 rfl (by rfl) (by kernel_rfl) (fun args K h hbd => ?_)
  unfold C22 at h; split at h
  case h_2 => exact h.elim
  exact ⟨Nat.le_of_ble_eq_true rfl, a22 ⟨_, _, _, _, _⟩ ⟨_, _, _, _, _⟩ (by exact hbd) _ h⟩
end Go.Rs

