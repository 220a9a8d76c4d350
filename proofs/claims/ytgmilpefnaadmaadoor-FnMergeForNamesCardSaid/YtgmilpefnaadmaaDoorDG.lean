import Derived.Test.YtgmilpefnaadmaaDoorDF
import Derived.Test.YtgmilpefnaadmaaDoorCT
import Derived.Test.YtgmilpefnaadmaaDoorME
set_option linter.all false
namespace Go.Rs
open Go.Proofs
set_option maxRecDepth 100000
set_option linter.unusedVariables false
set_option linter.unusedSimpArgs false
noncomputable def c38 (n : Nd) (b : Bool) (K : AV → List AV → Prop) : Prop :=
    K (optN (if b && validM n then some n else none)) []
noncomputable def C38 : List AV → (AV → List AV → Prop) → Prop
  | [.st [.int .i64 n_0, .int .i64 n_1, .str n_2, .ps .str n_3, .ps .node n_4], .bool b], K => c38 ⟨n_0, n_1, n_2, n_3, n_4⟩ b K
  | _, _ => False
noncomputable def E38 : Ctx := mkE tab [(19, .pure F19)]
noncomputable def O38 : Nat → List DI := ordL []
theorem a38 (n : Nd) (b : Bool) (hb : BdAs [.st (ndC n), .bool b]) (K : AV → List AV → Prop) (h : c38 n b K) : abody E38 O38 .ps Tryd.f38 (Tryd.f38.body.getD .skip) [.st (ndC n), .bool b] K := by
  simp only [BdAs, BdA, BdL, BdC, MX, ndC, shC, itC, stC, opC, chC, nwC, flC, rqC, rsC, enc, List.cons_append, List.nil_append, and_true, true_and] at hb
  unfold c38 at h
  have hK9 := h
  conv => whnf
  repeat' first
    | (refine Cnd.mk (fun h => ?_) (fun h => ?_) <;> (try simp [etas, elDef, -List.getD_eq_getElem?_getD] at h) <;> conv => whnf)
    | (refine Obl.mk (by first | omega | rfl | exact inK_byte _ | (simp only [inK, Int.toNat_natCast, etas, elDef] <;> first | omega | grind) | grind [inK]) ?_ <;> conv => whnf)
    | (refine OblG.mk (by conv => whnf
                          repeat (first | (refine Bx.mk ?_) | (intro h; (try simp [etas, elDef, -List.getD_eq_getElem?_getD] at h); conv => whnf))
                          first | omega | rfl | exact inK_byte _ | (simp only [inK, Int.toNat_natCast, etas, elDef] <;> first | omega | grind) | grind [inK]) ?_ <;> conv => whnf)
    | (refine Gd.mk (fun h => ?_) <;> (try simp [etas, elDef, -List.getD_eq_getElem?_getD] at h) <;> conv => whnf)
    | (refine And.intro ?_ ?_ <;> conv => whnf)
    | exact True.intro
    | (intro; conv => whnf)
  · exact leafV hK9 (by rw [if_neg (by grind)]; rfl)
  · exact leafV hK9 (by rw [if_pos (by grind)]; rfl)
theorem s38 : (CtrOK Tryd.prog 38 (.gen .ps C38) ∧ Callable Tryd.prog 38) := by
  refine gen_ok (E := E38) (mkE_cons s19 (mkE_nil tab_ok)) mix (O := O38) (C := C38) (own := .ps) Tryd.func38 rfl (by rfl) (by kernel_rfl) (fun args K h hbd => ?_)
  unfold C38 at h; split at h
  case h_2 => exact h.elim
  exact ⟨Nat.le_of_ble_eq_true rfl, a38 ⟨_, _, _, _, _⟩ _ (by exact hbd) _ h⟩
noncomputable def c61e (n : Nd) (p : List Bs) (K : AV → List AV → Prop) : Prop :=
    Obl (p.length = 0 ∧ smN n) (∀ r, r = n → K (.tup [.st (ndC r), .bool true]) [])
noncomputable def C61e : List AV → (AV → List AV → Prop) → Prop
  | [.st [.int .i64 n_0, .int .i64 n_1, .str n_2, .ps .str n_3, .ps .node n_4], .ps .str p], K => c61e ⟨n_0, n_1, n_2, n_3, n_4⟩ p K
  | _, _ => False
noncomputable def E61e : Ctx := mkE tab [(62, .pure F62), (69, .gen .ps C69)]
noncomputable def O61e : Nat → List DI := ordL [(4, [.q 0, .q 1, .q 2, .q 3, .q 4, .q 5, .q 6])]
theorem a61e (n : Nd) (p : List Bs) (hb : BdAs [.st (ndC n), .ps .str p]) (K : AV → List AV → Prop) (h : c61e n p K) : abody E61e O61e .ps Tryd.f61 (Tryd.f61.body.getD .skip) [.st (ndC n), .ps .str p] K := by
  simp only [BdAs, BdA, BdL, BdC, MX, ndC, shC, itC, stC, opC, chC, nwC, flC, rqC, rsC, enc, List.cons_append, List.nil_append, and_true, true_and] at hb
  unfold c61e at h
  obtain ⟨⟨h0, hs⟩, hK0⟩ := h
  have hK := hK0 _ rfl
  obtain rfl := List.length_eq_zero_iff.1 h0
  conv => whnf
  refine aloop_intro Nat (fun k => k ≤ ([] : List Bs).length ∧ True) (fun k => ([] : List Bs).length - k) (fun k => [(6, .int .i64 k)]) (fun k => []) [2, 4] 0 [] [] ?_ ?_ (by exact sgOk_of (by rfl)) ?_
  · first | (simp; done) | (simp; assumption)
  · (conv => whnf); (repeat' (first | exact trivial | rfl | (refine nilEq ?_; first | rfl | (simp only [*]; done) | (simp [*]; done) | grind) | apply And.intro | ((first | refine intEq ?_ | refine boolEq ?_ | refine strEq ?_ | refine psEq ?_ | refine nilEq ?_ | refine arrEq ?_); (try simp only [Int.toNat_natCast, etas, elDef]); first | done | omega | grind | (simp only [*]; done) | (simp [*]; done)))); (all_goals (conv => whnf)); (repeat' (first | exact trivial | rfl | (refine nilEq ?_; first | rfl | (simp only [*]; done) | (simp [*]; done) | grind) | apply And.intro | ((first | refine intEq ?_ | refine boolEq ?_ | refine strEq ?_ | refine psEq ?_ | refine nilEq ?_ | refine arrEq ?_); (try simp only [Int.toNat_natCast, etas, elDef]); first | done | omega | grind | (simp only [*]; done) | (simp [*]; done)) | ((try simp only [Int.toNat_natCast, etas, elDef]); first | done | omega | grind | (simp only [*]; done) | (simp [*]; done))))
  rintro i ⟨hi, hj⟩
  conv => whnf
  simp only [List.length_nil] at hi
  repeat' first
    | (refine Cnd.mk (fun h => ?_) (fun h => ?_) <;> (try simp [etas, elDef, -List.getD_eq_getElem?_getD] at h) <;> conv => whnf)
    | (refine Obl.mk (by first | omega | rfl | exact inK_byte _ | (simp only [inK, Int.toNat_natCast, etas, elDef, o62, m69] <;> first | omega | grind) | grind [inK, o62, m69]) ?_ <;> conv => whnf)
    | (refine OblG.mk (by conv => whnf
                          repeat (first | (refine Bx.mk ?_) | (intro h; (try simp [etas, elDef, -List.getD_eq_getElem?_getD] at h); conv => whnf))
                          first | omega | rfl | exact inK_byte _ | (simp only [inK, Int.toNat_natCast, etas, elDef, o62, m69] <;> first | omega | grind) | grind [inK, o62, m69]) ?_ <;> conv => whnf)
    | (refine Gd.mk (fun h => ?_) <;> (try simp [etas, elDef, -List.getD_eq_getElem?_getD] at h) <;> conv => whnf)
    | (refine And.intro ?_ ?_ <;> conv => whnf)
    | exact True.intro
    | (intro; conv => whnf)
  · exfalso; simp only [List.length_nil] at *; omega
  · exfalso; simp only [List.length_nil] at *; omega
  · exact leafV hK (by simp only [optN, Option.getD_some, Option.isSome_some, ndC, enc])
theorem s61e : (CtrOK Tryd.prog 61 (.gen .ps C61e) ∧ Callable Tryd.prog 61) := by
  refine gen_ok (E := E61e) (mkE_cons s62 (mkE_cons s69 (mkE_nil tab_ok))) mix (O := O61e) (C := C61e) (own := .ps) Tryd.func61 rfl (by rfl) (by kernel_rfl) (fun args K h hbd => ?_)
  unfold C61e at h; split at h
  case h_2 => exact h.elim
  exact ⟨Nat.le_of_ble_eq_true rfl, a61e ⟨_, _, _, _, _⟩ _ (by exact hbd) _ h⟩
noncomputable def c63e (n : Nd) (p : List Bs) (x : Nd) (K : AV → List AV → Prop) : Prop :=
    Obl (p.length = 0) (Gx (smN x) (K (optN (some x)) []))
noncomputable def C63e : List AV → (AV → List AV → Prop) → Prop
  | [.st [.int .i64 n_0, .int .i64 n_1, .str n_2, .ps .str n_3, .ps .node n_4], .ps .str p, .st [.int .i64 x_0, .int .i64 x_1, .str x_2, .ps .str x_3, .ps .node x_4]], K => c63e ⟨n_0, n_1, n_2, n_3, n_4⟩ p ⟨x_0, x_1, x_2, x_3, x_4⟩ K
  | _, _ => False
noncomputable def E63e : Ctx := mkE tab [(62, .pure F62), (63, .gen .ps C63), (69, .gen .ps C69), (76, .gen .ps C76)]
noncomputable def O63e : Nat → List DI := ordL [(3, [.q 0, .q 1, .q 2, .q 3, .q 4, .q 5]), (6, [.q 0, .q 1, .q 2, .q 3, .q 4, .q 5, .q 6, .q 7, .l 8 [], .q 9, .q 10, .q 11, .a 12, .l 13 [], .q 14])]
theorem a63e (n : Nd) (p : List Bs) (x : Nd) (hb : BdAs [.st (ndC n), .ps .str p, .st (ndC x)]) (K : AV → List AV → Prop) (h : c63e n p x K) : abody E63e O63e .ps Tryd.f63 (Tryd.f63.body.getD .skip) [.st (ndC n), .ps .str p, .st (ndC x)] K := by
  simp only [BdAs, BdA, BdL, BdC, MX, ndC, shC, itC, stC, opC, chC, nwC, flC, rqC, rsC, enc, List.cons_append, List.nil_append, and_true, true_and] at hb
  unfold c63e at h
  obtain ⟨h0, hx, hK⟩ := h
  obtain rfl := List.length_eq_zero_iff.1 h0
  conv => whnf
  repeat' first
    | (refine Cnd.mk (fun h => ?_) (fun h => ?_) <;> (try simp [etas, elDef, -List.getD_eq_getElem?_getD] at h) <;> conv => whnf)
    | (refine Obl.mk (by first | omega | rfl | exact inK_byte _ | (simp only [inK, Int.toNat_natCast, etas, elDef, o62, m63, m69] <;> first | omega | grind) | grind [inK, o62, m63, m69]) ?_ <;> conv => whnf)
    | (refine OblG.mk (by conv => whnf
                          repeat (first | (refine Bx.mk ?_) | (intro h; (try simp [etas, elDef, -List.getD_eq_getElem?_getD] at h); conv => whnf))
                          first | omega | rfl | exact inK_byte _ | (simp only [inK, Int.toNat_natCast, etas, elDef, o62, m63, m69] <;> first | omega | grind) | grind [inK, o62, m63, m69]) ?_ <;> conv => whnf)
    | (refine Gd.mk (fun h => ?_) <;> (try simp [etas, elDef, -List.getD_eq_getElem?_getD] at h) <;> conv => whnf)
    | (refine And.intro ?_ ?_ <;> conv => whnf)
    | exact True.intro
    | (intro; conv => whnf)
  · exact leafV hK (by simp only [optN, Option.getD_some, Option.isSome_some, ndC, enc])
  all_goals (exfalso; simp_all)
theorem s63e : (CtrOK Tryd.prog 63 (.gen .ps C63e) ∧ Callable Tryd.prog 63) := by
  refine gen_ok (E := E63e) (mkE_cons s62 (mkE_cons s63 (mkE_cons s69 (mkE_cons s76 (mkE_nil tab_ok))))) mix (O := O63e) (C := C63e) (own := .ps) Tryd.func63 rfl (by rfl) (by kernel_rfl) (fun args K h hbd => ?_)
  unfold C63e at h; split at h
  case h_2 => exact h.elim
  exact ⟨Nat.le_of_ble_eq_true rfl, a63e ⟨_, _, _, _, _⟩ _ ⟨_, _, _, _, _⟩ (by exact hbd) _ h⟩
set_option maxHeartbeats 1000000
noncomputable def c34m (n : Nd) (p : List Bs) (K : AV → List AV → Prop) : Prop :=
    Obl ((((p.length = 1 ∧ n.kind = 4) ∧ smN n) ∧ evenN n) ∧ n.kids.length ≤ 100000 ∧ 0 ≤ placeM n (p.getD 0 [])) (K (optN (some (withoutM n (placeM n (p.getD 0 [])).toNat))) [])
noncomputable def C34m : List AV → (AV → List AV → Prop) → Prop
  | [.st [.int .i64 n_0, .int .i64 n_1, .str n_2, .ps .str n_3, .ps .node n_4], .ps .str p], K => c34m ⟨n_0, n_1, n_2, n_3, n_4⟩ p K
  | _, _ => False
noncomputable def E34m : Ctx := mkE tab [(61, .gen .ps C61e), (62, .pure F62), (63, .gen .ps C63e)]
noncomputable def O34m : Nat → List DI := ordL [(4, [.q 0, .q 1, .q 2, .q 3, .l 4 [], .q 5, .q 6, .q 7, .a 8, .l 9 [], .q 10]), (7, [.q 0, .q 1, .q 2, .q 3, .q 4, .q 5, .q 6]), (10, [.q 1, .q 2, .q 3, .q 4, .q 6, .q 7, .q 8, .q 9, .q 10, .l 0 [2, 4, 7, 10], .l 5 [7, 10], .l 11 [], .q 12]), (13, [.q 1, .q 2, .q 3, .q 4, .q 6, .q 7, .q 8, .q 9, .q 10, .l 0 [2, 4, 7, 10], .l 5 [7, 10], .l 11 [], .q 12]), (14, [.q 0, .q 1, .q 2, .q 3, .q 4, .q 5, .q 6, .q 7, .q 8, .l 9 [], .q 10, .q 11, .l 12 [], .q 13])]
theorem a34m (n : Nd) (p : List Bs) (hb : BdAs [.st (ndC n), .ps .str p]) (K : AV → List AV → Prop) (h : c34m n p K) : abody E34m O34m .ps Tryd.f34 (Tryd.f34.body.getD .skip) [.st (ndC n), .ps .str p] K := by
  simp only [BdAs, BdA, BdL, BdC, MX, ndC, shC, itC, stC, opC, chC, nwC, flC, rqC, rsC, enc, List.cons_append, List.nil_append, and_true, true_and] at hb
  unfold c34m at h
  obtain ⟨⟨⟨⟨⟨hl, hk⟩, hs⟩, hev⟩, hc, hp0⟩, hK⟩ := h
  have hn := hev hk
  conv => whnf
  repeat' first
    | (refine Cnd.mk (fun h => ?_) (fun h => ?_) <;> (try simp [etas, elDef, -List.getD_eq_getElem?_getD] at h) <;> conv => whnf)
    | (refine Obl.mk (by first | omega | rfl | exact inK_byte _ | (simp only [inK, Int.toNat_natCast, etas, elDef, List.length_take, List.length_drop, List.length_append, List.length_nil, Int.toNat_zero, List.drop_zero, o62] <;> first | omega | grind) | grind [inK, List.length_take, List.length_drop, List.length_append, List.length_nil, Int.toNat_zero, List.drop_zero, o62]) ?_ <;> conv => whnf)
    | (refine OblG.mk (by conv => whnf
                          repeat (first | (refine Bx.mk ?_) | (intro h; (try simp [etas, elDef, -List.getD_eq_getElem?_getD] at h); conv => whnf))
                          first | omega | rfl | exact inK_byte _ | (simp only [inK, Int.toNat_natCast, etas, elDef, List.length_take, List.length_drop, List.length_append, List.length_nil, Int.toNat_zero, List.drop_zero, o62] <;> first | omega | grind) | grind [inK, List.length_take, List.length_drop, List.length_append, List.length_nil, Int.toNat_zero, List.drop_zero, o62]) ?_ <;> conv => whnf)
    | (refine Gd.mk (fun h => ?_) <;> (try simp [etas, elDef, -List.getD_eq_getElem?_getD] at h) <;> conv => whnf)
    | (refine And.intro ?_ ?_ <;> conv => whnf)
    | exact True.intro
  · exfalso; omega
  intro r hr
  rw [nd_eta] at hr
  have hrk : r.kind = 4 := by rw [hr]; exact hk
  have hrn : r.names.length = r.kids.length := by rw [hr]; exact hn
  have hrc : r.kids.length ≤ 100000 := by rw [hr]; exact hc
  have e5 : ((p.length : Int) - 1).toNat = p.length - 1 := by omega
  have e4 : p.length - 1 = 0 := by omega
  have hpl := placeM_ge r (p.getD ((p.length : Int) - 1).toNat [])
  have hpz : 0 ≤ placeM r (p.getD (p.length - 1) []) := by rw [hr, e4]; exact hp0
  have e6 : (placeM r (p.getD (p.length - 1) []) + 1).toNat = (placeM r (p.getD (p.length - 1) [])).toNat + 1 := by omega
  have hw := withoutM_sm (i := (placeM r (p.getD (p.length - 1) [])).toNat) (show smN r by rw [hr]; exact hs)
  rw [← hr, ← e4] at hK
  clear hr
  unfold withoutM outM at hw hK
  rw [if_pos hrk] at hw hK
  conv => whnf
  repeat' first
    | (refine Cnd.mk (fun h => ?_) (fun h => ?_) <;> (try simp [etas, elDef, -List.getD_eq_getElem?_getD] at h) <;> conv => whnf)
    | (refine Obl.mk (by first | omega | rfl | exact inK_byte _ | (simp only [inK, Int.toNat_natCast, etas, elDef, List.length_take, List.length_drop, List.length_append, List.length_nil, Int.toNat_zero, List.drop_zero, o62] <;> first | omega | grind) | grind [inK, List.length_take, List.length_drop, List.length_append, List.length_nil, Int.toNat_zero, List.drop_zero, o62]) ?_ <;> conv => whnf)
    | (refine OblG.mk (by conv => whnf
                          repeat (first | (refine Bx.mk ?_) | (intro h; (try simp [etas, elDef, -List.getD_eq_getElem?_getD] at h); conv => whnf))
                          first | omega | rfl | exact inK_byte _ | (simp only [inK, Int.toNat_natCast, etas, elDef, List.length_take, List.length_drop, List.length_append, List.length_nil, Int.toNat_zero, List.drop_zero, o62] <;> first | omega | grind) | grind [inK, List.length_take, List.length_drop, List.length_append, List.length_nil, Int.toNat_zero, List.drop_zero, o62]) ?_ <;> conv => whnf)
    | (refine Gd.mk (fun h => ?_) <;> (try simp [etas, elDef, -List.getD_eq_getElem?_getD] at h) <;> conv => whnf)
    | (refine And.intro ?_ ?_ <;> conv => whnf)
    | exact True.intro
  · exfalso; omega
  · refine Gx.mk ?_ ?_
    · simp only [nd_eta, elDef, e5, Int.toNat_zero, List.drop_zero, Int.toNat_natCast, List.take_length, List.nil_append, e6]
      exact hw
    · conv => whnf
      repeat' first
        | (refine Cnd.mk (fun h => ?_) (fun h => ?_) <;> (try simp [etas, elDef, -List.getD_eq_getElem?_getD] at h) <;> conv => whnf)
        | (refine Obl.mk (by first | omega | rfl | exact inK_byte _ | (simp only [inK, Int.toNat_natCast, etas, elDef, List.length_take, List.length_drop, List.length_append, List.length_nil, Int.toNat_zero, List.drop_zero, o62] <;> first | omega | grind) | grind [inK, List.length_take, List.length_drop, List.length_append, List.length_nil, Int.toNat_zero, List.drop_zero, o62]) ?_ <;> conv => whnf)
        | (refine OblG.mk (by conv => whnf
                              repeat (first | (refine Bx.mk ?_) | (intro h; (try simp [etas, elDef, -List.getD_eq_getElem?_getD] at h); conv => whnf))
                              first | omega | rfl | exact inK_byte _ | (simp only [inK, Int.toNat_natCast, etas, elDef, List.length_take, List.length_drop, List.length_append, List.length_nil, Int.toNat_zero, List.drop_zero, o62] <;> first | omega | grind) | grind [inK, List.length_take, List.length_drop, List.length_append, List.length_nil, Int.toNat_zero, List.drop_zero, o62]) ?_ <;> conv => whnf)
        | (refine Gd.mk (fun h => ?_) <;> (try simp [etas, elDef, -List.getD_eq_getElem?_getD] at h) <;> conv => whnf)
        | (refine And.intro ?_ ?_ <;> conv => whnf)
        | exact True.intro
        | (intro; conv => whnf)
      refine leafV hK ?_
      simp only [optN, nd_eta, elDef, e5, Int.toNat_zero, List.drop_zero, Int.toNat_natCast, List.take_length, List.nil_append, e6]
      first | done | rfl
  · exact absurd hrk h
theorem s34m : (CtrOK Tryd.prog 34 (.gen .ps C34m) ∧ Callable Tryd.prog 34) := by
  refine gen_ok (E := E34m) (mkE_cons s61e (mkE_cons s62 (mkE_cons s63e (mkE_nil tab_ok)))) mix (O := O34m) (C := C34m) (own := .ps) Tryd.func34 rfl (by rfl) (by kernel_rfl) (fun args K h hbd => ?_)
  unfold C34m at h; split at h
  case h_2 => exact h.elim
  exact ⟨Nat.le_of_ble_eq_true rfl, a34m ⟨_, _, _, _, _⟩ _ (by exact hbd) _ h⟩
set_option maxHeartbeats 400000
noncomputable def c50 (n : Nd) (p : Nd) (K : AV → List AV → Prop) : Prop :=
    Obl (okN n ∧ okN p) (K (.st (ndC (mrgM p n))) [])
noncomputable def m50 (n : Nd) (p : Nd) : Nat := SizeOf.sizeOf p
noncomputable def C50 : List AV → (AV → List AV → Prop) → Prop
  | [.st [.int .i64 n_0, .int .i64 n_1, .str n_2, .ps .str n_3, .ps .node n_4], .st [.int .i64 p_0, .int .i64 p_1, .str p_2, .ps .str p_3, .ps .node p_4]], K => c50 ⟨n_0, n_1, n_2, n_3, n_4⟩ ⟨p_0, p_1, p_2, p_3, p_4⟩ K
  | _, _ => False
noncomputable def Ck50 (k : Nat) : List AV → (AV → List AV → Prop) → Prop
  | [.st [.int .i64 n_0, .int .i64 n_1, .str n_2, .ps .str n_3, .ps .node n_4], .st [.int .i64 p_0, .int .i64 p_1, .str p_2, .ps .str p_3, .ps .node p_4]], K => Obl (m50 ⟨n_0, n_1, n_2, n_3, n_4⟩ ⟨p_0, p_1, p_2, p_3, p_4⟩ < k) (c50 ⟨n_0, n_1, n_2, n_3, n_4⟩ ⟨p_0, p_1, p_2, p_3, p_4⟩ K)
  | _, _ => False
noncomputable def E50 (k : Nat) : Ctx := mkE tab [(34, .gen .ps C34m), (50, .gen .ps (Ck50 k)), (62, .pure F62), (69, .gen .ps C69), (74, .gen .ps C74k), (76, .gen .ps C76k)]
noncomputable def O50 : Nat → List DI := ordL [(14, [.q 0, .q 1, .q 2, .q 3, .q 4, .q 5, .q 6, .q 7, .q 8, .q 9, .q 10, .q 11, .l 12 [0], .l 13 [], .l 14 []]), (16, [.q 0, .q 1, .q 2, .q 3, .q 4, .q 5, .q 6, .q 7, .l 8 [0], .l 9 [], .q 10, .q 11, .q 12, .l 13 []])]
theorem a50 (k : Nat) (n : Nd) (p : Nd) (hm : m50 n p < k + 1) (hb : BdAs [.st (ndC n), .st (ndC p)]) (K : AV → List AV → Prop) (h : c50 n p K) : abody (E50 k) O50 .ps Tryd.f50 (Tryd.f50.body.getD .skip) [.st (ndC n), .st (ndC p)] K := by
  simp only [BdAs, BdA, BdL, BdC, MX, ndC, shC, itC, stC, opC, chC, nwC, flC, rqC, rsC, enc, List.cons_append, List.nil_append, and_true, true_and] at hb
  unfold c50 at h
  unfold m50 at hm
  obtain ⟨⟨hn, hp⟩, hK⟩ := h
  have hsn := hn.sm
  have hsp := hp.sm
  have hme := mrgM_eq p n
  conv => whnf
  repeat' first
    | (refine Cnd.mk (fun h => ?_) (fun h => ?_) <;> (try simp [etas, elDef, -List.getD_eq_getElem?_getD] at h) <;> conv => whnf)
    | (refine Obl.mk (by first | omega | rfl | exact inK_byte _ | (simp only [inK, Int.toNat_natCast, etas, elDef, m50, m50, o62, m69] <;> first | omega | grind) | grind [inK, m50, m50, o62, m69]) ?_ <;> conv => whnf)
    | (refine OblG.mk (by conv => whnf
                          repeat (first | (refine Bx.mk ?_) | (intro h; (try simp [etas, elDef, -List.getD_eq_getElem?_getD] at h); conv => whnf))
                          first | omega | rfl | exact inK_byte _ | (simp only [inK, Int.toNat_natCast, etas, elDef, m50, m50, o62, m69] <;> first | omega | grind) | grind [inK, m50, m50, o62, m69]) ?_ <;> conv => whnf)
    | (refine Gd.mk (fun h => ?_) <;> (try simp [etas, elDef, -List.getD_eq_getElem?_getD] at h) <;> conv => whnf)
    | (refine And.intro ?_ ?_ <;> conv => whnf)
    | exact True.intro
    | (intro; conv => whnf)
  · rw [hme, if_neg h] at hK
    exact leafV hK rfl
  · rename_i hk
    have hk4 := h
    clear h
    have hlp := (okN_names hp).2.1 hk
    have h00 : n = ndOf (accM p n 0) := by rw [accM_zero, base_nd hn hk4]
    refine aloop_intro (Nat × Nd) (fun q => q.1 ≤ p.kids.length ∧ q.2 = ndOf (accM p n q.1)) (fun q => p.kids.length - q.1) (fun q => [(6, .int .i64 q.1)]) (fun q => [(5, .box (ndC q.2))]) [2, 3, 4] (0, n) [] [] ⟨Nat.zero_le _, h00⟩ ?_ (by exact sgOk_of (by rfl)) ?_
    · (conv => whnf); (repeat' (first | exact trivial | rfl | (refine nilEq ?_; first | rfl | (simp only [*]; done) | (simp [*]; done) | grind) | apply And.intro | ((first | refine intEq ?_ | refine boolEq ?_ | refine strEq ?_ | refine psEq ?_ | refine nilEq ?_ | refine arrEq ?_); (try simp only [Int.toNat_natCast, etas, elDef]); first | done | omega | grind | (simp only [*]; done) | (simp [*]; done)))); (all_goals (conv => whnf)); (repeat' (first | exact trivial | rfl | (refine nilEq ?_; first | rfl | (simp only [*]; done) | (simp [*]; done) | grind) | apply And.intro | ((first | refine intEq ?_ | refine boolEq ?_ | refine strEq ?_ | refine psEq ?_ | refine nilEq ?_ | refine arrEq ?_); (try simp only [Int.toNat_natCast, etas, elDef]); first | done | omega | grind | (simp only [*]; done) | (simp [*]; done)) | ((try simp only [Int.toNat_natCast, etas, elDef]); first | done | omega | grind | (simp only [*]; done) | (simp [*]; done))))
    rintro ⟨i, m⟩ ⟨hi, hm⟩
    dsimp only at hi hm
    obtain ⟨m1, m2, m3, m4, m5⟩ := merge_now hp hn (show i ≤ p.names.length by omega) hi hm
    have hpl := placeM_ge m (p.names.getD i [])
    have hko := fun (h : i < p.kids.length) => okN_kid hp h
    have hks := fun (h : i < p.kids.length) => kid_size h
    have hst := fun (h : i < p.kids.length) => merge_step hp hk hn h hm rfl rfl
    have hz := okN_zero
    unfold zeroN at hz hst
    clear hme
    conv => whnf
    repeat' first
      | (refine Cnd.mk (fun h => ?_) (fun h => ?_) <;> (try simp [etas, elDef, -List.getD_eq_getElem?_getD] at h) <;> conv => whnf)
      | (refine Obl.mk (by first | omega | rfl | exact inK_byte _ | (simp only [inK, Int.toNat_natCast, etas, elDef, m50, m50, o62, m69] <;> first | omega | grind) | grind [inK, m50, m50, o62, m69]) ?_ <;> conv => whnf)
      | (refine OblG.mk (by conv => whnf
                            repeat (first | (refine Bx.mk ?_) | (intro h; (try simp [etas, elDef, -List.getD_eq_getElem?_getD] at h); conv => whnf))
                            first | omega | rfl | exact inK_byte _ | (simp only [inK, Int.toNat_natCast, etas, elDef, m50, m50, o62, m69] <;> first | omega | grind) | grind [inK, m50, m50, o62, m69]) ?_ <;> conv => whnf)
      | (refine Gd.mk (fun h => ?_) <;> (try simp [etas, elDef, -List.getD_eq_getElem?_getD] at h) <;> conv => whnf)
      | (refine And.intro ?_ ?_ <;> conv => whnf)
      | exact True.intro
      | (intro; conv => whnf)
    · rename_i h1
      have e9 := (hst h1).1 (of_decide_eq_true h.1) h.2
      exact ⟨(i + 1, withoutM m (placeM m (p.names.getD i [])).toNat), [], [], ⟨by simp only; omega, e9⟩, by simp only; omega, by (conv => whnf); (repeat' (first | exact trivial | rfl | (refine nilEq ?_; first | rfl | (simp only [*]; done) | (simp [*]; done) | grind) | apply And.intro | ((first | refine intEq ?_ | refine boolEq ?_ | refine strEq ?_ | refine psEq ?_ | refine nilEq ?_ | refine arrEq ?_); (try simp only [Int.toNat_natCast, etas, elDef]); first | done | omega | grind | (simp only [*]; done) | (simp [*]; done)))); (all_goals (conv => whnf)); (repeat' (first | exact trivial | rfl | (refine nilEq ?_; first | rfl | (simp only [*]; done) | (simp [*]; done) | grind) | apply And.intro | ((first | refine intEq ?_ | refine boolEq ?_ | refine strEq ?_ | refine psEq ?_ | refine nilEq ?_ | refine arrEq ?_); (try simp only [Int.toNat_natCast, etas, elDef]); first | done | omega | grind | (simp only [*]; done) | (simp [*]; done)) | ((try simp only [Int.toNat_natCast, etas, elDef]); first | done | omega | grind | (simp only [*]; done) | (simp [*]; done)))), (by exact sgOk_of (by rfl))⟩
    · rename_i h1 h2
      have e9 := (hst h1).2.2.2.1 (of_decide_eq_false h.1) h.2
      exact ⟨(i + 1, withKidM m (placeM m (p.names.getD i [])).toNat (mrgM (p.kids.getD i default) (m.kids.getD (placeM m (p.names.getD i [])).toNat default))), [], [], ⟨by simp only; omega, e9⟩, by simp only; omega, by (conv => whnf); (repeat' (first | exact trivial | rfl | (refine nilEq ?_; first | rfl | (simp only [*]; done) | (simp [*]; done) | grind) | apply And.intro | ((first | refine intEq ?_ | refine boolEq ?_ | refine strEq ?_ | refine psEq ?_ | refine nilEq ?_ | refine arrEq ?_); (try simp only [Int.toNat_natCast, etas, elDef]); first | done | omega | grind | (simp only [*]; done) | (simp [*]; done)))); (all_goals (conv => whnf)); (repeat' (first | exact trivial | rfl | (refine nilEq ?_; first | rfl | (simp only [*]; done) | (simp [*]; done) | grind) | apply And.intro | ((first | refine intEq ?_ | refine boolEq ?_ | refine strEq ?_ | refine psEq ?_ | refine nilEq ?_ | refine arrEq ?_); (try simp only [Int.toNat_natCast, etas, elDef]); first | done | omega | grind | (simp only [*]; done) | (simp [*]; done)) | ((try simp only [Int.toNat_natCast, etas, elDef]); first | done | omega | grind | (simp only [*]; done) | (simp [*]; done)))), (by exact sgOk_of (by rfl))⟩
    · rename_i h1 h2 h3
      have e9 := (hst h1).2.2.2.2.2 (of_decide_eq_false h) (h3 h)
      exact ⟨(i + 1, (addHereM m (p.names.getD i []) (mrgM (p.kids.getD i default) ⟨0, 0, [], [], []⟩)).getD default), [], [], ⟨by simp only; omega, by rw [e9]; rfl⟩, by simp only; omega, by (conv => whnf); (repeat' (first | exact trivial | rfl | (refine nilEq ?_; first | rfl | (simp only [*]; done) | (simp [*]; done) | grind) | apply And.intro | ((first | refine intEq ?_ | refine boolEq ?_ | refine strEq ?_ | refine psEq ?_ | refine nilEq ?_ | refine arrEq ?_); (try simp only [Int.toNat_natCast, etas, elDef]); first | done | omega | grind | (simp only [*]; done) | (simp [*]; done)))); (all_goals (conv => whnf)); (repeat' (first | exact trivial | rfl | (refine nilEq ?_; first | rfl | (simp only [*]; done) | (simp [*]; done) | grind) | apply And.intro | ((first | refine intEq ?_ | refine boolEq ?_ | refine strEq ?_ | refine psEq ?_ | refine nilEq ?_ | refine arrEq ?_); (try simp only [Int.toNat_natCast, etas, elDef]); first | done | omega | grind | (simp only [*]; done) | (simp [*]; done)) | ((try simp only [Int.toNat_natCast, etas, elDef]); first | done | omega | grind | (simp only [*]; done) | (simp [*]; done)))), (by exact sgOk_of (by rfl))⟩
    · rename_i h1 h2 h3
      have e9 := (hst h1).2.1 (of_decide_eq_true h) (h2 h)
      exact ⟨(i + 1, m), [], [], ⟨by simp only; omega, e9⟩, by simp only; omega, by (conv => whnf); (repeat' (first | exact trivial | rfl | (refine nilEq ?_; first | rfl | (simp only [*]; done) | (simp [*]; done) | grind) | apply And.intro | ((first | refine intEq ?_ | refine boolEq ?_ | refine strEq ?_ | refine psEq ?_ | refine nilEq ?_ | refine arrEq ?_); (try simp only [Int.toNat_natCast, etas, elDef]); first | done | omega | grind | (simp only [*]; done) | (simp [*]; done)))); (all_goals (conv => whnf)); (repeat' (first | exact trivial | rfl | (refine nilEq ?_; first | rfl | (simp only [*]; done) | (simp [*]; done) | grind) | apply And.intro | ((first | refine intEq ?_ | refine boolEq ?_ | refine strEq ?_ | refine psEq ?_ | refine nilEq ?_ | refine arrEq ?_); (try simp only [Int.toNat_natCast, etas, elDef]); first | done | omega | grind | (simp only [*]; done) | (simp [*]; done)) | ((try simp only [Int.toNat_natCast, etas, elDef]); first | done | omega | grind | (simp only [*]; done) | (simp [*]; done)))), (by exact sgOk_of (by rfl))⟩
    · rw [mrgM_eq p n, if_pos hk, ← accM_all n hlp, show p.names.length = i by omega, ← hm] at hK
      exact hK
  · rename_i hk
    have hk4 := h
    clear h
    have hlp := (okN_names hp).2.1 hk
    have h00 : ndOf [] = ndOf (accM p n 0) := by rw [accM_zero]; unfold baseI; rw [if_neg hk4]
    refine aloop_intro (Nat × Nd) (fun q => q.1 ≤ p.kids.length ∧ q.2 = ndOf (accM p n q.1)) (fun q => p.kids.length - q.1) (fun q => [(6, .int .i64 q.1)]) (fun q => [(5, .box (ndC q.2))]) [2, 3, 4] (0, ndOf []) [] [14, 15] ⟨Nat.zero_le _, h00⟩ ?_ (by exact sgOk_of (by rfl)) ?_
    · (conv => whnf); (repeat' (first | exact trivial | rfl | (refine nilEq ?_; first | rfl | (simp only [*]; done) | (simp [*]; done) | grind) | apply And.intro | ((first | refine intEq ?_ | refine boolEq ?_ | refine strEq ?_ | refine psEq ?_ | refine nilEq ?_ | refine arrEq ?_); (try simp only [Int.toNat_natCast, etas, elDef]); first | done | omega | grind | (simp only [*]; done) | (simp [*]; done)))); (all_goals (conv => whnf)); (repeat' (first | exact trivial | rfl | (refine nilEq ?_; first | rfl | (simp only [*]; done) | (simp [*]; done) | grind) | apply And.intro | ((first | refine intEq ?_ | refine boolEq ?_ | refine strEq ?_ | refine psEq ?_ | refine nilEq ?_ | refine arrEq ?_); (try simp only [Int.toNat_natCast, etas, elDef]); first | done | omega | grind | (simp only [*]; done) | (simp [*]; done)) | ((try simp only [Int.toNat_natCast, etas, elDef]); first | done | omega | grind | (simp only [*]; done) | (simp [*]; done))))
    rintro ⟨i, m⟩ ⟨hi, hm⟩
    dsimp only at hi hm
    obtain ⟨m1, m2, m3, m4, m5⟩ := merge_now hp hn (show i ≤ p.names.length by omega) hi hm
    have hpl := placeM_ge m (p.names.getD i [])
    have hko := fun (h : i < p.kids.length) => okN_kid hp h
    have hks := fun (h : i < p.kids.length) => kid_size h
    have hst := fun (h : i < p.kids.length) => merge_step hp hk hn h hm rfl rfl
    have hz := okN_zero
    unfold zeroN at hz hst
    clear hme
    conv => whnf
    repeat' first
      | (refine Cnd.mk (fun h => ?_) (fun h => ?_) <;> (try simp [etas, elDef, -List.getD_eq_getElem?_getD] at h) <;> conv => whnf)
      | (refine Obl.mk (by first | omega | rfl | exact inK_byte _ | (simp only [inK, Int.toNat_natCast, etas, elDef, m50, m50, o62, m69] <;> first | omega | grind) | grind [inK, m50, m50, o62, m69]) ?_ <;> conv => whnf)
      | (refine OblG.mk (by conv => whnf
                            repeat (first | (refine Bx.mk ?_) | (intro h; (try simp [etas, elDef, -List.getD_eq_getElem?_getD] at h); conv => whnf))
                            first | omega | rfl | exact inK_byte _ | (simp only [inK, Int.toNat_natCast, etas, elDef, m50, m50, o62, m69] <;> first | omega | grind) | grind [inK, m50, m50, o62, m69]) ?_ <;> conv => whnf)
      | (refine Gd.mk (fun h => ?_) <;> (try simp [etas, elDef, -List.getD_eq_getElem?_getD] at h) <;> conv => whnf)
      | (refine And.intro ?_ ?_ <;> conv => whnf)
      | exact True.intro
      | (intro; conv => whnf)
    · rename_i h1
      have e9 := (hst h1).1 (of_decide_eq_true h.1) h.2
      exact ⟨(i + 1, withoutM m (placeM m (p.names.getD i [])).toNat), [], [], ⟨by simp only; omega, e9⟩, by simp only; omega, by (conv => whnf); (repeat' (first | exact trivial | rfl | (refine nilEq ?_; first | rfl | (simp only [*]; done) | (simp [*]; done) | grind) | apply And.intro | ((first | refine intEq ?_ | refine boolEq ?_ | refine strEq ?_ | refine psEq ?_ | refine nilEq ?_ | refine arrEq ?_); (try simp only [Int.toNat_natCast, etas, elDef]); first | done | omega | grind | (simp only [*]; done) | (simp [*]; done)))); (all_goals (conv => whnf)); (repeat' (first | exact trivial | rfl | (refine nilEq ?_; first | rfl | (simp only [*]; done) | (simp [*]; done) | grind) | apply And.intro | ((first | refine intEq ?_ | refine boolEq ?_ | refine strEq ?_ | refine psEq ?_ | refine nilEq ?_ | refine arrEq ?_); (try simp only [Int.toNat_natCast, etas, elDef]); first | done | omega | grind | (simp only [*]; done) | (simp [*]; done)) | ((try simp only [Int.toNat_natCast, etas, elDef]); first | done | omega | grind | (simp only [*]; done) | (simp [*]; done)))), (by exact sgOk_of (by rfl))⟩
    · rename_i h1 h2
      have e9 := (hst h1).2.2.2.1 (of_decide_eq_false h.1) h.2
      exact ⟨(i + 1, withKidM m (placeM m (p.names.getD i [])).toNat (mrgM (p.kids.getD i default) (m.kids.getD (placeM m (p.names.getD i [])).toNat default))), [], [], ⟨by simp only; omega, e9⟩, by simp only; omega, by (conv => whnf); (repeat' (first | exact trivial | rfl | (refine nilEq ?_; first | rfl | (simp only [*]; done) | (simp [*]; done) | grind) | apply And.intro | ((first | refine intEq ?_ | refine boolEq ?_ | refine strEq ?_ | refine psEq ?_ | refine nilEq ?_ | refine arrEq ?_); (try simp only [Int.toNat_natCast, etas, elDef]); first | done | omega | grind | (simp only [*]; done) | (simp [*]; done)))); (all_goals (conv => whnf)); (repeat' (first | exact trivial | rfl | (refine nilEq ?_; first | rfl | (simp only [*]; done) | (simp [*]; done) | grind) | apply And.intro | ((first | refine intEq ?_ | refine boolEq ?_ | refine strEq ?_ | refine psEq ?_ | refine nilEq ?_ | refine arrEq ?_); (try simp only [Int.toNat_natCast, etas, elDef]); first | done | omega | grind | (simp only [*]; done) | (simp [*]; done)) | ((try simp only [Int.toNat_natCast, etas, elDef]); first | done | omega | grind | (simp only [*]; done) | (simp [*]; done)))), (by exact sgOk_of (by rfl))⟩
    · rename_i h1 h2 h3
      have e9 := (hst h1).2.2.2.2.2 (of_decide_eq_false h) (h3 h)
      exact ⟨(i + 1, (addHereM m (p.names.getD i []) (mrgM (p.kids.getD i default) ⟨0, 0, [], [], []⟩)).getD default), [], [], ⟨by simp only; omega, by rw [e9]; rfl⟩, by simp only; omega, by (conv => whnf); (repeat' (first | exact trivial | rfl | (refine nilEq ?_; first | rfl | (simp only [*]; done) | (simp [*]; done) | grind) | apply And.intro | ((first | refine intEq ?_ | refine boolEq ?_ | refine strEq ?_ | refine psEq ?_ | refine nilEq ?_ | refine arrEq ?_); (try simp only [Int.toNat_natCast, etas, elDef]); first | done | omega | grind | (simp only [*]; done) | (simp [*]; done)))); (all_goals (conv => whnf)); (repeat' (first | exact trivial | rfl | (refine nilEq ?_; first | rfl | (simp only [*]; done) | (simp [*]; done) | grind) | apply And.intro | ((first | refine intEq ?_ | refine boolEq ?_ | refine strEq ?_ | refine psEq ?_ | refine nilEq ?_ | refine arrEq ?_); (try simp only [Int.toNat_natCast, etas, elDef]); first | done | omega | grind | (simp only [*]; done) | (simp [*]; done)) | ((try simp only [Int.toNat_natCast, etas, elDef]); first | done | omega | grind | (simp only [*]; done) | (simp [*]; done)))), (by exact sgOk_of (by rfl))⟩
    · rename_i h1 h2 h3
      have e9 := (hst h1).2.1 (of_decide_eq_true h) (h2 h)
      exact ⟨(i + 1, m), [], [], ⟨by simp only; omega, e9⟩, by simp only; omega, by (conv => whnf); (repeat' (first | exact trivial | rfl | (refine nilEq ?_; first | rfl | (simp only [*]; done) | (simp [*]; done) | grind) | apply And.intro | ((first | refine intEq ?_ | refine boolEq ?_ | refine strEq ?_ | refine psEq ?_ | refine nilEq ?_ | refine arrEq ?_); (try simp only [Int.toNat_natCast, etas, elDef]); first | done | omega | grind | (simp only [*]; done) | (simp [*]; done)))); (all_goals (conv => whnf)); (repeat' (first | exact trivial | rfl | (refine nilEq ?_; first | rfl | (simp only [*]; done) | (simp [*]; done) | grind) | apply And.intro | ((first | refine intEq ?_ | refine boolEq ?_ | refine strEq ?_ | refine psEq ?_ | refine nilEq ?_ | refine arrEq ?_); (try simp only [Int.toNat_natCast, etas, elDef]); first | done | omega | grind | (simp only [*]; done) | (simp [*]; done)) | ((try simp only [Int.toNat_natCast, etas, elDef]); first | done | omega | grind | (simp only [*]; done) | (simp [*]; done)))), (by exact sgOk_of (by rfl))⟩
    · rw [mrgM_eq p n, if_pos hk, ← accM_all n hlp, show p.names.length = i by omega, ← hm] at hK
      exact hK
theorem r50 : ∀ k, (CtrOK Tryd.prog 50 (.gen .ps (Ck50 k)) ∧ Callable Tryd.prog 50) := by
  intro k
  induction k with
  | zero =>
    exact ⟨fun args K h => by
        unfold Ck50 at h; split at h
        · exact absurd h.o (Nat.not_lt_zero _)
        · exact h.elim, callable Tryd.func50 rfl (by rfl)⟩
  | succ k ih =>
    refine gen_ok (E := E50 k) (mkE_cons s34m (mkE_cons ih (mkE_cons s62 (mkE_cons s69 (mkE_cons s74k (mkE_cons s76k (mkE_nil tab_ok))))))) mix (O := O50) (C := (Ck50 (k + 1))) (own := .ps) Tryd.func50 rfl (by rfl) (by kernel_rfl) (fun args K h hbd => ?_)
    unfold Ck50 at h; split at h
    case h_2 => exact h.elim
    exact ⟨Nat.le_of_ble_eq_true rfl, a50 k ⟨_, _, _, _, _⟩ ⟨_, _, _, _, _⟩ h.o (by exact hbd) _ h.k⟩
theorem s50 : (CtrOK Tryd.prog 50 (.gen .ps C50) ∧ Callable Tryd.prog 50) := by
  refine ⟨fun args K h => ?_, (r50 0).2⟩
  unfold C50 at h; split at h
  · exact (r50 (m50 ⟨_, _, _, _, _⟩ ⟨_, _, _, _, _⟩ + 1)).1 _ K ⟨Nat.lt_succ_self _, h⟩
  · exact h.elim
end Go.Rs

