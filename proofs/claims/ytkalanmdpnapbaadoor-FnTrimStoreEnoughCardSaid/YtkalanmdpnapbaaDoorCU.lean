import Derived.Test.YtkalanmdpnapbaaDoorCT
set_option linter.all false
namespace Go.Rs
open Go.Proofs
set_option maxRecDepth 100000
set_option linter.unusedVariables false
set_option linter.unusedSimpArgs false
noncomputable def c98w (n : Nd) (p : List Bs) (x : Nd) (K : AV → List AV → Prop) : Prop :=
    Obl (okN n) (Gx (smN x) (K (optN (setAtM n p x)) []))
noncomputable def C98w : List AV → (AV → List AV → Prop) → Prop
  | [.st [.int .i64 n_0, .int .i64 n_1, .str n_2, .ps .str n_3, .ps .node n_4], .ps .str p, .st [.int .i64 x_0, .int .i64 x_1, .str x_2, .ps .str x_3, .ps .node x_4]], K => c98w ⟨n_0, n_1, n_2, n_3, n_4⟩ p ⟨x_0, x_1, x_2, x_3, x_4⟩ K
  | _, _ => False
noncomputable def E98w : Ctx := mkE tab [(67, .gen .ps C67), (98, .gen .ps C98), (108, .pure F108), (113, .gen .ps C113k)]
noncomputable def O98w : Nat → List DI := ordL [(3, [.q 0, .q 1, .q 2, .q 3, .q 4, .q 5]), (6, [.q 0, .q 1, .q 2, .q 3, .q 4, .q 5, .q 6, .q 7, .l 8 [], .q 9, .q 10, .q 11, .a 12, .l 13 [], .q 14])]
theorem a98w (n : Nd) (p : List Bs) (x : Nd) (hb : BdAs [.st (ndC n), .ps .str p, .st (ndC x)]) (K : AV → List AV → Prop) (h : c98w n p x K) : abody E98w O98w .ps Tryd.f98 (Tryd.f98.body.getD .skip) [.st (ndC n), .ps .str p, .st (ndC x)] K := by
  simp only [BdAs, BdA, BdL, BdC, MX, ndC, shC, itC, stC, opC, chC, nwC, flC, rqC, rsC, enc, List.cons_append, List.nil_append, and_true, true_and] at hb
  unfold c98w at h
  obtain ⟨ho, hx, hK⟩ := h
  have h6 := okN_kids ho
  have h5 := (okN_names ho).2.1
  have hsm := ho.sm
  have hpl := placeM_ge n (p.getD 0 [])
  have hok := fun h => okN_kid ho (j := (placeM n (p.getD 0 [])).toNat) h
  have hsa := fun h => setAtM_get_sm (p := p.drop 1) (okN_kid ho (j := (placeM n (p.getD 0 [])).toNat) h).sm hx
  rcases Nat.eq_zero_or_pos p.length with h0 | h0
  · obtain rfl := List.length_eq_zero_iff.1 h0
    conv => whnf
    repeat' first
      | (refine Cnd.mk (fun h => ?_) (fun h => ?_) <;> (try simp [etas, elDef, -List.getD_eq_getElem?_getD] at h) <;> conv => whnf)
      | (refine Obl.mk (by first | omega | rfl | exact inK_byte _ | (simp only [inK, Int.toNat_natCast, etas, elDef, m67, m98, o108] <;> first | omega | grind) | grind [inK, m67, m98, o108]) ?_ <;> conv => whnf)
      | (refine OblG.mk (by conv => whnf
                            repeat (first | (refine Bx.mk ?_) | (intro h; (try simp [etas, elDef, -List.getD_eq_getElem?_getD] at h); conv => whnf))
                            first | omega | rfl | exact inK_byte _ | (simp only [inK, Int.toNat_natCast, etas, elDef, m67, m98, o108] <;> first | omega | grind) | grind [inK, m67, m98, o108]) ?_ <;> conv => whnf)
      | (refine Gd.mk (fun h => ?_) <;> (try simp [etas, elDef, -List.getD_eq_getElem?_getD] at h) <;> conv => whnf)
      | (refine And.intro ?_ ?_ <;> conv => whnf)
      | exact True.intro
      | (intro; conv => whnf)
    · exact leafV hK (by simp only [setAtM, optN, Option.getD_some, Option.isSome_some, ndC, enc])
    all_goals (exfalso; simp_all)
  · have e0 := setAtM_at (n := n) (x := x) h0
    rw [List.drop_one] at hsa e0
    have el : List.drop (Int.toNat 1) (List.take p.length p) = p.tail := by simp
    rw [← el] at hsa
    have hsa2 := fun h1 => hsa h1
    conv => whnf
    repeat' first
      | (refine Cnd.mk (fun h => ?_) (fun h => ?_) <;> (try simp [etas, elDef, -List.getD_eq_getElem?_getD] at h) <;> conv => whnf)
      | (refine Obl.mk (by first | omega | rfl | exact inK_byte _ | (simp only [inK, Int.toNat_natCast, etas, elDef, m67, m98, o108] <;> first | omega | grind) | grind [inK, m67, m98, o108]) ?_ <;> conv => whnf)
      | (refine OblG.mk (by conv => whnf
                            repeat (first | (refine Bx.mk ?_) | (intro h; (try simp [etas, elDef, -List.getD_eq_getElem?_getD] at h); conv => whnf))
                            first | omega | rfl | exact inK_byte _ | (simp only [inK, Int.toNat_natCast, etas, elDef, m67, m98, o108] <;> first | omega | grind) | grind [inK, m67, m98, o108]) ?_ <;> conv => whnf)
      | (refine Gd.mk (fun h => ?_) <;> (try simp [etas, elDef, -List.getD_eq_getElem?_getD] at h) <;> conv => whnf)
      | (refine And.intro ?_ ?_ <;> conv => whnf)
      | exact True.intro
      | (intro; conv => whnf)
    · exfalso; subst h; simp at h0
    · have e : setAtM n p x = none := by rw [e0, if_pos h]
      exact leafV hK (by rw [e]; rfl)
    · have e : setAtM n p x = none := by rw [e0, if_neg (by omega), h]; rfl
      exact leafV hK (by rw [e]; rfl)
    · obtain ⟨m, hm⟩ := Option.isSome_iff_exists.1 h
      have e : setAtM n p x = some (withKidM n (placeM n (p.getD 0 [])).toNat m) := by rw [e0, if_neg (by omega), hm]; rfl
      refine leafV hK ?_
      rw [e]
      simp only [optN, Option.getD_some, Option.isSome_some, nd_eta, elDef, Int.toNat_zero, Int.toNat_natCast, List.take_length, List.drop_one, Int.toNat_one, hm]
      first | done | rfl
theorem s98w : (CtrOK Tryd.prog 98 (.gen .ps C98w) ∧ Callable Tryd.prog 98) := by
  refine gen_ok (E := E98w) (mkE_cons s67 (mkE_cons s98 (mkE_cons s108 (mkE_cons s113k (mkE_nil tab_ok))))) mix (O := O98w) (C := C98w) (own := .ps) Tryd.func98 rfl (by rfl) (by kernel_rfl) (fun args K h hbd => ?_)
  unfold C98w at h; split at h
  case h_2 => exact h.elim
  exact ⟨Nat.le_of_ble_eq_true rfl, a98w ⟨_, _, _, _, _⟩ _ ⟨_, _, _, _, _⟩ (by exact hbd) _ h⟩
noncomputable def c112v (n : Nd) (p : List Bs) (K : AV → List AV → Prop) : Prop :=
    Obl (okN n) (∀ r, r = findM n p → K (optN r) [])
noncomputable def C112v : List AV → (AV → List AV → Prop) → Prop
  | [.st [.int .i64 n_0, .int .i64 n_1, .str n_2, .ps .str n_3, .ps .node n_4], .ps .str p], K => c112v ⟨n_0, n_1, n_2, n_3, n_4⟩ p K
  | _, _ => False
noncomputable def E112v : Ctx := mkE tab [(67, .gen .ps C67), (108, .pure F108)]
noncomputable def O112v : Nat → List DI := ordL [(4, [.q 0, .q 1, .q 2, .q 3, .q 4, .q 5, .q 6])]
theorem a112v (n : Nd) (p : List Bs) (hb : BdAs [.st (ndC n), .ps .str p]) (K : AV → List AV → Prop) (h : c112v n p K) : abody E112v O112v .ps Tryd.f112 (Tryd.f112.body.getD .skip) [.st (ndC n), .ps .str p] K := by
  simp only [BdAs, BdA, BdL, BdC, MX, ndC, shC, itC, stC, opC, chC, nwC, flC, rqC, rsC, enc, List.cons_append, List.nil_append, and_true, true_and] at hb
  unfold c112v at h
  obtain ⟨ho, hK0⟩ := h
  have hK := hK0 _ rfl
  conv => whnf
  repeat' first
    | (refine Cnd.mk (fun h => ?_) (fun h => ?_) <;> (try simp [etas, elDef, -List.getD_eq_getElem?_getD] at h) <;> conv => whnf)
    | (refine Obl.mk (by first | omega | rfl | exact inK_byte _ | (simp only [inK, Int.toNat_natCast, etas, elDef, m67, o108] <;> first | omega | grind) | grind [inK, m67, o108]) ?_ <;> conv => whnf)
    | (refine OblG.mk (by conv => whnf
                          repeat (first | (refine Bx.mk ?_) | (intro h; (try simp [etas, elDef, -List.getD_eq_getElem?_getD] at h); conv => whnf))
                          first | omega | rfl | exact inK_byte _ | (simp only [inK, Int.toNat_natCast, etas, elDef, m67, o108] <;> first | omega | grind) | grind [inK, m67, o108]) ?_ <;> conv => whnf)
    | (refine Gd.mk (fun h => ?_) <;> (try simp [etas, elDef, -List.getD_eq_getElem?_getD] at h) <;> conv => whnf)
    | (refine And.intro ?_ ?_ <;> conv => whnf)
    | exact True.intro
    | (intro; conv => whnf)
  refine aloop_intro (Nat × Nd) (fun q => q.1 ≤ p.length ∧ okN q.2 ∧ findM n p = findM q.2 (p.drop q.1)) (fun q => p.length - q.1) (fun q => [(6, .int .i64 q.1)]) (fun q => [(2, .box (ndC q.2))]) [4] (0, n) [] [] ⟨Nat.zero_le _, ho, rfl⟩ ?_ (by exact sgOk_of (by rfl)) ?_
  · (conv => whnf); (repeat' (first | exact trivial | rfl | (refine nilEq ?_; first | rfl | (simp only [*]; done) | (simp [*]; done) | grind) | apply And.intro | ((first | refine intEq ?_ | refine boolEq ?_ | refine strEq ?_ | refine psEq ?_ | refine nilEq ?_ | refine arrEq ?_); (try simp only [Int.toNat_natCast, etas, elDef]); first | done | omega | grind | (simp only [*]; done) | (simp [*]; done)))); (all_goals (conv => whnf)); (repeat' (first | exact trivial | rfl | (refine nilEq ?_; first | rfl | (simp only [*]; done) | (simp [*]; done) | grind) | apply And.intro | ((first | refine intEq ?_ | refine boolEq ?_ | refine strEq ?_ | refine psEq ?_ | refine nilEq ?_ | refine arrEq ?_); (try simp only [Int.toNat_natCast, etas, elDef]); first | done | omega | grind | (simp only [*]; done) | (simp [*]; done)) | ((try simp only [Int.toNat_natCast, etas, elDef]); first | done | omega | grind | (simp only [*]; done) | (simp [*]; done))))
  rintro ⟨i, m⟩ ⟨hi, hm, hj⟩
  dsimp only at hi hm hj
  have hst := fun h => findM_drop (n := m) (p := p) (i := i) h
  have hpl := placeM_ge m (p.getD i [])
  have h6 := okN_kids hm
  have h5 := (okN_names hm).2.1
  have hsm := hm.sm
  conv => whnf
  repeat' first
    | (refine Cnd.mk (fun h => ?_) (fun h => ?_) <;> (try simp [etas, elDef, -List.getD_eq_getElem?_getD] at h) <;> conv => whnf)
    | (refine Obl.mk (by first | omega | rfl | exact inK_byte _ | (simp only [inK, Int.toNat_natCast, etas, elDef, m67, o108] <;> first | omega | grind) | grind [inK, m67, o108]) ?_ <;> conv => whnf)
    | (refine OblG.mk (by conv => whnf
                          repeat (first | (refine Bx.mk ?_) | (intro h; (try simp [etas, elDef, -List.getD_eq_getElem?_getD] at h); conv => whnf))
                          first | omega | rfl | exact inK_byte _ | (simp only [inK, Int.toNat_natCast, etas, elDef, m67, o108] <;> first | omega | grind) | grind [inK, m67, o108]) ?_ <;> conv => whnf)
    | (refine Gd.mk (fun h => ?_) <;> (try simp [etas, elDef, -List.getD_eq_getElem?_getD] at h) <;> conv => whnf)
    | (refine And.intro ?_ ?_ <;> conv => whnf)
    | exact True.intro
    | (intro; conv => whnf)
  · have e : findM n p = none := by rw [hj, hst (by assumption), if_pos h]
    exact leafV hK (by rw [e]; rfl)
  · have e : findM n p = findM (m.kids.getD (placeM m (p.getD i [])).toNat default) (p.drop (i + 1)) := by rw [hj, hst (by assumption), if_neg (by omega)]
    exact ⟨(i + 1, m.kids.getD (placeM m (p.getD i [])).toNat default), [], [], ⟨by simp only; omega, okN_kid hm (by omega), e⟩, by simp only; omega, by (conv => whnf); (repeat' (first | exact trivial | rfl | (refine nilEq ?_; first | rfl | (simp only [*]; done) | (simp [*]; done) | grind) | apply And.intro | ((first | refine intEq ?_ | refine boolEq ?_ | refine strEq ?_ | refine psEq ?_ | refine nilEq ?_ | refine arrEq ?_); (try simp only [Int.toNat_natCast, etas, elDef]); first | done | omega | grind | (simp only [*]; done) | (simp [*]; done)))); (all_goals (conv => whnf)); (repeat' (first | exact trivial | rfl | (refine nilEq ?_; first | rfl | (simp only [*]; done) | (simp [*]; done) | grind) | apply And.intro | ((first | refine intEq ?_ | refine boolEq ?_ | refine strEq ?_ | refine psEq ?_ | refine nilEq ?_ | refine arrEq ?_); (try simp only [Int.toNat_natCast, etas, elDef]); first | done | omega | grind | (simp only [*]; done) | (simp [*]; done)) | ((try simp only [Int.toNat_natCast, etas, elDef]); first | done | omega | grind | (simp only [*]; done) | (simp [*]; done)))), (by exact sgOk_of (by rfl))⟩
  · have e : findM n p = some m := by rw [hj, List.drop_of_length_le (by omega)]; rfl
    exact leafV hK (by rw [e]; rfl)
theorem s112v : (CtrOK Tryd.prog 112 (.gen .ps C112v) ∧ Callable Tryd.prog 112) := by
  refine gen_ok (E := E112v) (mkE_cons s67 (mkE_cons s108 (mkE_nil tab_ok))) mix (O := O112v) (C := C112v) (own := .ps) Tryd.func112 rfl (by rfl) (by kernel_rfl) (fun args K h hbd => ?_)
  unfold C112v at h; split at h
  case h_2 => exact h.elim
  exact ⟨Nat.le_of_ble_eq_true rfl, a112v ⟨_, _, _, _, _⟩ _ (by exact hbd) _ h⟩
set_option maxHeartbeats 1000000
noncomputable def c96 (n : Nd) (p : List Bs) (K : AV → List AV → Prop) : Prop :=
    Obl (okN n) (K (optN (removeAtM n p)) [])
noncomputable def C96 : List AV → (AV → List AV → Prop) → Prop
  | [.st [.int .i64 n_0, .int .i64 n_1, .str n_2, .ps .str n_3, .ps .node n_4], .ps .str p], K => c96 ⟨n_0, n_1, n_2, n_3, n_4⟩ p K
  | _, _ => False
noncomputable def E96 : Ctx := mkE tab [(98, .gen .ps C98w), (108, .pure F108), (112, .gen .ps C112v)]
noncomputable def O96 : Nat → List DI := ordL [(4, [.q 0, .q 1, .q 2, .q 3, .l 4 [], .q 5, .q 6, .q 7, .a 8, .l 9 [], .q 10]), (7, [.q 0, .q 1, .q 2, .q 3, .q 4, .q 5, .q 6]), (10, [.q 1, .q 2, .q 3, .q 4, .q 6, .q 7, .q 8, .q 9, .q 10, .l 0 [2, 4, 7, 10], .l 5 [7, 10], .l 11 [], .q 12]), (13, [.q 1, .q 2, .q 3, .q 4, .q 6, .q 7, .q 8, .q 9, .q 10, .l 0 [2, 4, 7, 10], .l 5 [7, 10], .l 11 [], .q 12]), (14, [.q 0, .q 1, .q 2, .q 3, .q 4, .q 5, .q 6, .q 7, .q 8, .l 9 [], .q 10, .q 11, .l 12 [], .q 13])]
theorem a96 (n : Nd) (p : List Bs) (hb : BdAs [.st (ndC n), .ps .str p]) (K : AV → List AV → Prop) (h : c96 n p K) : abody E96 O96 .ps Tryd.f96 (Tryd.f96.body.getD .skip) [.st (ndC n), .ps .str p] K := by
  simp only [BdAs, BdA, BdL, BdC, MX, ndC, shC, itC, stC, opC, chC, nwC, flC, rqC, rsC, enc, List.cons_append, List.nil_append, and_true, true_and] at hb
  unfold c96 at h
  obtain ⟨ho, hK⟩ := h
  have el := front_eq p
  rcases Nat.eq_zero_or_pos p.length with h0 | h0
  · obtain rfl := List.length_eq_zero_iff.1 h0
    conv => whnf
    repeat' first
      | (refine Cnd.mk (fun h => ?_) (fun h => ?_) <;> (try simp [etas, elDef, -List.getD_eq_getElem?_getD] at h) <;> conv => whnf)
      | (refine Obl.mk (by first | omega | rfl | exact inK_byte _ | (simp only [inK, Int.toNat_natCast, etas, elDef, List.length_take, List.length_drop, List.length_append, List.length_nil, Int.toNat_zero, List.drop_zero, o108] <;> first | omega | grind) | grind [inK, List.length_take, List.length_drop, List.length_append, List.length_nil, Int.toNat_zero, List.drop_zero, o108]) ?_ <;> conv => whnf)
      | (refine OblG.mk (by conv => whnf
                            repeat (first | (refine Bx.mk ?_) | (intro h; (try simp [etas, elDef, -List.getD_eq_getElem?_getD] at h); conv => whnf))
                            first | omega | rfl | exact inK_byte _ | (simp only [inK, Int.toNat_natCast, etas, elDef, List.length_take, List.length_drop, List.length_append, List.length_nil, Int.toNat_zero, List.drop_zero, o108] <;> first | omega | grind) | grind [inK, List.length_take, List.length_drop, List.length_append, List.length_nil, Int.toNat_zero, List.drop_zero, o108]) ?_ <;> conv => whnf)
      | (refine Gd.mk (fun h => ?_) <;> (try simp [etas, elDef, -List.getD_eq_getElem?_getD] at h) <;> conv => whnf)
      | (refine And.intro ?_ ?_ <;> conv => whnf)
      | exact True.intro
      | (intro; conv => whnf)
    all_goals exact leafV hK (by simp only [removeAtM, if_true]; rfl)
  · have hp : p ≠ [] := by rintro rfl; simp at h0
    have e5 : ((p.length : Int) - 1).toNat = p.length - 1 := by omega
    have hl : p.getD (p.length - 1) [] = lastD p := rfl
    conv => whnf
    repeat' first
      | (refine Cnd.mk (fun h => ?_) (fun h => ?_) <;> (try simp [etas, elDef, -List.getD_eq_getElem?_getD] at h) <;> conv => whnf)
      | (refine Obl.mk (by first | omega | rfl | exact inK_byte _ | (simp only [inK, Int.toNat_natCast, etas, elDef, List.length_take, List.length_drop, List.length_append, List.length_nil, Int.toNat_zero, List.drop_zero, o108] <;> first | omega | grind) | grind [inK, List.length_take, List.length_drop, List.length_append, List.length_nil, Int.toNat_zero, List.drop_zero, o108]) ?_ <;> conv => whnf)
      | (refine OblG.mk (by conv => whnf
                            repeat (first | (refine Bx.mk ?_) | (intro h; (try simp [etas, elDef, -List.getD_eq_getElem?_getD] at h); conv => whnf))
                            first | omega | rfl | exact inK_byte _ | (simp only [inK, Int.toNat_natCast, etas, elDef, List.length_take, List.length_drop, List.length_append, List.length_nil, Int.toNat_zero, List.drop_zero, o108] <;> first | omega | grind) | grind [inK, List.length_take, List.length_drop, List.length_append, List.length_nil, Int.toNat_zero, List.drop_zero, o108]) ?_ <;> conv => whnf)
      | (refine Gd.mk (fun h => ?_) <;> (try simp [etas, elDef, -List.getD_eq_getElem?_getD] at h) <;> conv => whnf)
      | (refine And.intro ?_ ?_ <;> conv => whnf)
      | exact True.intro
    · exfalso; omega
    intro r hr
    rw [nd_eta, el] at hr
    have hro : okN (r.getD default) := by rw [hr]; exact find_get_ok ho _
    have hi2 := okN_kids hro
    have hi3 := (okN_names hro).1
    have hi4 := (okN_names hro).2.1
    have hpl := placeM_ge (r.getD default) (p.getD ((p.length : Int) - 1).toNat [])
    clear el
    conv => whnf
    repeat' first
      | (refine Cnd.mk (fun h => ?_) (fun h => ?_) <;> (try simp [etas, elDef, -List.getD_eq_getElem?_getD] at h) <;> conv => whnf)
      | (refine Obl.mk (by first | omega | rfl | exact inK_byte _ | (simp only [inK, Int.toNat_natCast, etas, elDef, List.length_take, List.length_drop, List.length_append, List.length_nil, Int.toNat_zero, List.drop_zero, o108] <;> first | omega | grind) | grind [inK, List.length_take, List.length_drop, List.length_append, List.length_nil, Int.toNat_zero, List.drop_zero, o108]) ?_ <;> conv => whnf)
      | (refine OblG.mk (by conv => whnf
                            repeat (first | (refine Bx.mk ?_) | (intro h; (try simp [etas, elDef, -List.getD_eq_getElem?_getD] at h); conv => whnf))
                            first | omega | rfl | exact inK_byte _ | (simp only [inK, Int.toNat_natCast, etas, elDef, List.length_take, List.length_drop, List.length_append, List.length_nil, Int.toNat_zero, List.drop_zero, o108] <;> first | omega | grind) | grind [inK, List.length_take, List.length_drop, List.length_append, List.length_nil, Int.toNat_zero, List.drop_zero, o108]) ?_ <;> conv => whnf)
      | (refine Gd.mk (fun h => ?_) <;> (try simp [etas, elDef, -List.getD_eq_getElem?_getD] at h) <;> conv => whnf)
      | (refine And.intro ?_ ?_ <;> conv => whnf)
      | exact True.intro
    · have e : removeAtM n p = none := by unfold removeAtM; rw [if_neg hp, ← hr, h]
      exact leafV hK (by rw [e]; rfl)
    · obtain ⟨m, rfl⟩ := Option.isSome_iff_exists.1 (show r.isSome = true by assumption)
      have e : removeAtM n p = none := by unfold removeAtM; rw [if_neg hp, ← hr]; exact if_pos h
      exact leafV hK (by rw [e]; rfl)
    · have hs : r.isSome = true := by assumption
      have hp0 : 0 ≤ placeM (r.getD default) (p.getD (p.length - 1) []) := by assumption
      have e6 : (placeM (r.getD default) (p.getD (p.length - 1) []) + 1).toNat = (placeM (r.getD default) (p.getD (p.length - 1) [])).toNat + 1 := by omega
      have hw := withoutM_sm (i := (placeM (r.getD default) (p.getD (p.length - 1) [])).toNat) hro.sm
      have e := removeAtM_at hp hr hs hp0
      unfold withoutM outM at hw e
      rw [if_pos h] at hw e
      refine Gx.mk ?_ ?_
      · simp only [nd_eta, elDef, e5, Int.toNat_zero, List.drop_zero, Int.toNat_natCast, List.take_length, List.nil_append, e6]
        exact hw
      · conv => whnf
        repeat' first
          | (refine Cnd.mk (fun h => ?_) (fun h => ?_) <;> (try simp [etas, elDef, -List.getD_eq_getElem?_getD] at h) <;> conv => whnf)
          | (refine Obl.mk (by first | omega | rfl | exact inK_byte _ | (simp only [inK, Int.toNat_natCast, etas, elDef, List.length_take, List.length_drop, List.length_append, List.length_nil, Int.toNat_zero, List.drop_zero, o108] <;> first | omega | grind) | grind [inK, List.length_take, List.length_drop, List.length_append, List.length_nil, Int.toNat_zero, List.drop_zero, o108]) ?_ <;> conv => whnf)
          | (refine OblG.mk (by conv => whnf
                                repeat (first | (refine Bx.mk ?_) | (intro h; (try simp [etas, elDef, -List.getD_eq_getElem?_getD] at h); conv => whnf))
                                first | omega | rfl | exact inK_byte _ | (simp only [inK, Int.toNat_natCast, etas, elDef, List.length_take, List.length_drop, List.length_append, List.length_nil, Int.toNat_zero, List.drop_zero, o108] <;> first | omega | grind) | grind [inK, List.length_take, List.length_drop, List.length_append, List.length_nil, Int.toNat_zero, List.drop_zero, o108]) ?_ <;> conv => whnf)
          | (refine Gd.mk (fun h => ?_) <;> (try simp [etas, elDef, -List.getD_eq_getElem?_getD] at h) <;> conv => whnf)
          | (refine And.intro ?_ ?_ <;> conv => whnf)
          | exact True.intro
          | (intro; conv => whnf)
        refine leafV hK ?_
        rw [e]
        simp only [optN, nd_eta, elDef, e5, Int.toNat_zero, List.drop_zero, Int.toNat_natCast, List.take_length, List.nil_append, e6]
        first | done | rfl
    · have hs : r.isSome = true := by assumption
      have hp0 : 0 ≤ placeM (r.getD default) (p.getD (p.length - 1) []) := by assumption
      have e6 : (placeM (r.getD default) (p.getD (p.length - 1) []) + 1).toNat = (placeM (r.getD default) (p.getD (p.length - 1) [])).toNat + 1 := by omega
      have hw := withoutM_sm (i := (placeM (r.getD default) (p.getD (p.length - 1) [])).toNat) hro.sm
      have e := removeAtM_at hp hr hs hp0
      unfold withoutM outM at hw e
      rw [if_neg h] at hw e
      refine Gx.mk ?_ ?_
      · simp only [nd_eta, elDef, e5, Int.toNat_zero, List.drop_zero, Int.toNat_natCast, List.take_length, List.nil_append, e6]
        exact hw
      · conv => whnf
        repeat' first
          | (refine Cnd.mk (fun h => ?_) (fun h => ?_) <;> (try simp [etas, elDef, -List.getD_eq_getElem?_getD] at h) <;> conv => whnf)
          | (refine Obl.mk (by first | omega | rfl | exact inK_byte _ | (simp only [inK, Int.toNat_natCast, etas, elDef, List.length_take, List.length_drop, List.length_append, List.length_nil, Int.toNat_zero, List.drop_zero, o108] <;> first | omega | grind) | grind [inK, List.length_take, List.length_drop, List.length_append, List.length_nil, Int.toNat_zero, List.drop_zero, o108]) ?_ <;> conv => whnf)
          | (refine OblG.mk (by conv => whnf
                                repeat (first | (refine Bx.mk ?_) | (intro h; (try simp [etas, elDef, -List.getD_eq_getElem?_getD] at h); conv => whnf))
                                first | omega | rfl | exact inK_byte _ | (simp only [inK, Int.toNat_natCast, etas, elDef, List.length_take, List.length_drop, List.length_append, List.length_nil, Int.toNat_zero, List.drop_zero, o108] <;> first | omega | grind) | grind [inK, List.length_take, List.length_drop, List.length_append, List.length_nil, Int.toNat_zero, List.drop_zero, o108]) ?_ <;> conv => whnf)
          | (refine Gd.mk (fun h => ?_) <;> (try simp [etas, elDef, -List.getD_eq_getElem?_getD] at h) <;> conv => whnf)
          | (refine And.intro ?_ ?_ <;> conv => whnf)
          | exact True.intro
          | (intro; conv => whnf)
        refine leafV hK ?_
        rw [e]
        simp only [optN, nd_eta, elDef, e5, Int.toNat_zero, List.drop_zero, Int.toNat_natCast, List.take_length, List.nil_append, e6]
        first | done | rfl
theorem s96 : (CtrOK Tryd.prog 96 (.gen .ps C96) ∧ Callable Tryd.prog 96) := by
  refine gen_ok (E := E96) (mkE_cons s98w (mkE_cons s108 (mkE_cons s112v (mkE_nil tab_ok)))) mix (O := O96) (C := C96) (own := .ps) Tryd.func96 rfl (by rfl) (by kernel_rfl) (fun args K h hbd => ?_)
  unfold C96 at h; split at h
  case h_2 => exact h.elim
  exact ⟨Nat.le_of_ble_eq_true rfl, a96 ⟨_, _, _, _, _⟩ _ (by exact hbd) _ h⟩
end Go.Rs

