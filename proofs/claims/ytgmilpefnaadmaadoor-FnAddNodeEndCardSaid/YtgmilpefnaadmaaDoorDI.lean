import Derived.Test.YtgmilpefnaadmaaDoorDE
import Derived.Test.YtgmilpefnaadmaaDoorCT
import Derived.Test.YtgmilpefnaadmaaDoorDG
import Derived.Test.YtgmilpefnaadmaaDoorMF
set_option linter.all false
namespace Go.Rs
open Go.Proofs
set_option maxRecDepth 100000
set_option linter.unusedVariables false
set_option linter.unusedSimpArgs false
noncomputable def c40 (n : Nd) (b : Bs) (x : Nd) (K : AV → List AV → Prop) : Prop :=
    Obl (okN n ∧ smN x) (K (optN (addHereM n b x)) [])
noncomputable def C40 : List AV → (AV → List AV → Prop) → Prop
  | [.st [.int .i64 n_0, .int .i64 n_1, .str n_2, .ps .str n_3, .ps .node n_4], .str b, .st [.int .i64 x_0, .int .i64 x_1, .str x_2, .ps .str x_3, .ps .node x_4]], K => c40 ⟨n_0, n_1, n_2, n_3, n_4⟩ b ⟨x_0, x_1, x_2, x_3, x_4⟩ K
  | _, _ => False
noncomputable def E40 : Ctx := mkE tab [(27, .pure F27), (28, .gen .ow C28), (57, .pure F57), (64, .gen .ps C64), (65, .gen .ow C65)]
noncomputable def O40 : Nat → List DI := ordL [(12, [.q 0, .q 1, .q 2, .q 3, .l 4 [1], .l 5 [1], .l 6 [], .q 7, .l 8 []])]
theorem a40 (n : Nd) (b : Bs) (x : Nd) (hb : BdAs [.st (ndC n), .str b, .st (ndC x)]) (K : AV → List AV → Prop) (h : c40 n b x K) : abody E40 O40 .ps Tryd.f40 (Tryd.f40.body.getD .skip) [.st (ndC n), .str b, .st (ndC x)] K := by
  simp only [BdAs, BdA, BdL, BdC, MX, ndC, shC, itC, stC, opC, chC, nwC, flC, rqC, rsC, enc, List.cons_append, List.nil_append, and_true, true_and] at hb
  unfold c40 at h
  obtain ⟨⟨hn, hx⟩, hK⟩ := h
  have hsn := hn.sm
  have h6 := okN_kids hn
  have h7 := (okN_names hn).1
  have hbare := okN_bare hn
  have hpl := placeM_ge n b
  have hso := fun h => okN_sorted hn h
  have hev := (okN_names hn).2.1
  have hnm := (okN_names hn).2.2
  have hkm := kidM_ok (b := b) hn
  have hk0 : (kidM n b).2 = true → 0 ≤ (kidM n b).1 ∧ (kidM n b).1 ≤ n.kids.length := fun h => by
    have h1 := hkm.1
    have h2 := hkm.2 h
    rw [h] at h1
    have : ¬ placeM n b < 0 := by simpa using h1
    omega
  conv => whnf
  repeat' first
    | (refine Cnd.mk (fun h => ?_) (fun h => ?_) <;> (try simp [etas, elDef, -List.getD_eq_getElem?_getD] at h) <;> conv => whnf)
    | (refine Obl.mk (by first | omega | rfl | exact inK_byte _ | (simp only [inK, Int.toNat_natCast, etas, elDef, o27, m28, o57] <;> first | omega | grind) | grind [inK, o27, m28, o57]) ?_ <;> conv => whnf)
    | (refine OblG.mk (by conv => whnf
                          repeat (first | (refine Bx.mk ?_) | (intro h; (try simp [etas, elDef, -List.getD_eq_getElem?_getD] at h); conv => whnf))
                          first | omega | rfl | exact inK_byte _ | (simp only [inK, Int.toNat_natCast, etas, elDef, o27, m28, o57] <;> first | omega | grind) | grind [inK, o27, m28, o57]) ?_ <;> conv => whnf)
    | (refine Gd.mk (fun h => ?_) <;> (try simp [etas, elDef, -List.getD_eq_getElem?_getD] at h) <;> conv => whnf)
    | (refine And.intro ?_ ?_ <;> conv => whnf)
    | exact True.intro
    | (intro; conv => whnf)
  · have e := add_map hn h b x
    have e2 : baseI n = zipI n.names n.kids := by unfold baseI; rw [if_pos h]
    have n0 := hbare.1 (by omega)
    have t0 := hbare.2 (by omega)
    exact leafV hK (by rw [e, e2]; simp only [optN, ndOf, ndC, enc, Option.getD_some, Option.isSome_some, nd_eta, h, n0, t0])
  · rename_i h4 h3 h1
    have hp : placeM n b < 0 := by have := hkm.1; rw [h1.1] at this; simpa using this
    have e := add_list h3 b x
    rw [if_neg (by omega), if_pos h1.2] at e
    exact leafV hK (by rw [e]; simp only [optN, ndC, enc, Option.getD_some, Option.isSome_some, nd_eta, h3, hbare.1 (show n.kind ≠ 1 by omega), hbare.2 (show n.kind ≠ 2 by omega), hnm h4, insM, Int.toNat_natCast])
  · rename_i h4 h3 h1
    have hp : placeM n b < 0 := by have := hkm.1; rw [h] at this; simpa using this
    have e := add_list h3 b x
    rw [if_neg (by omega), if_neg (by have := h1 h; grind)] at e
    exact leafV hK (by rw [e]; rfl)
  · rename_i h4 h3 h1
    have hp : ¬ placeM n b < 0 := by have := hkm.1; rw [h] at this; simpa using this
    have e1 := hkm.2 h
    have e := add_list h3 b x
    rw [if_pos (by omega)] at e
    exact leafV hK (by rw [e]; simp only [nd_eta, e1]; simp only [optN, ndC, enc, Option.getD_some, Option.isSome_some, nd_eta, h3, hbare.1 (show n.kind ≠ 1 by omega), hbare.2 (show n.kind ≠ 2 by omega), hnm h4, insM])
  · have e := add_leaf h (by assumption) b x
    exact leafV hK (by rw [e]; rfl)
theorem s40 : (CtrOK Tryd.prog 40 (.gen .ps C40) ∧ Callable Tryd.prog 40) := by
  refine gen_ok (E := E40) (mkE_cons s27 (mkE_cons s28 (mkE_cons s57 (mkE_cons s64 (mkE_cons s65 (mkE_nil tab_ok)))))) mix (O := O40) (C := C40) (own := .ps) Tryd.func40 rfl (by rfl) (by kernel_rfl) (fun args K h hbd => ?_)
  unfold C40 at h; split at h
  case h_2 => exact h.elim
  exact ⟨Nat.le_of_ble_eq_true rfl, a40 ⟨_, _, _, _, _⟩ _ ⟨_, _, _, _, _⟩ (by exact hbd) _ h⟩
noncomputable def c39 (n : Nd) (q : List Bs) (k : Int) (x : Nd) (K : AV → List AV → Prop) : Prop :=
    Obl ((okN n ∧ smN x) ∧ 0 ≤ k ∧ k < q.length) (K (optN (addHereM n (q.getD k.toNat []) x)) [])
noncomputable def C39 : List AV → (AV → List AV → Prop) → Prop
  | [.st [.int .i64 n_0, .int .i64 n_1, .str n_2, .ps .str n_3, .ps .node n_4], .ep .strs [q] 0 0, .ep .i64 [k] 0 0, .ep .node [x] 0 0], K => c39 ⟨n_0, n_1, n_2, n_3, n_4⟩ q k x K
  | _, _ => False
noncomputable def E39 : Ctx := mkE tab [(40, .gen .ps C40)]
noncomputable def O39 : Nat → List DI := ordL [(1, [.q 0, .q 1, .q 2, .q 3, .q 4, .q 5, .l 6 [], .q 7, .q 8, .l 9 [], .q 10])]
theorem a39 (n : Nd) (q : List Bs) (k : Int) (x : Nd) (hb : BdAs [.st (ndC n), .ep .strs [q] 0 0, .ep .i64 [k] 0 0, .ep .node [x] 0 0]) (K : AV → List AV → Prop) (h : c39 n q k x K) : abody E39 O39 .ps Tryd.f39 (Tryd.f39.body.getD .skip) [.st (ndC n), .ep .strs [q] 0 0, .ep .i64 [k] 0 0, .ep .node [x] 0 0] K := by
  simp only [BdAs, BdA, BdL, BdC, MX, ndC, shC, itC, stC, opC, chC, nwC, flC, rqC, rsC, enc, List.cons_append, List.nil_append, and_true, true_and] at hb
  unfold c39 at h
  obtain ⟨⟨⟨hn, hx⟩, hk⟩, hK⟩ := h
  conv => whnf
  repeat' first
    | (refine Cnd.mk (fun h => ?_) (fun h => ?_) <;> (try simp [etas, elDef, -List.getD_eq_getElem?_getD] at h) <;> conv => whnf)
    | (refine Obl.mk (by first | omega | rfl | exact inK_byte _ | (simp only [inK, Int.toNat_natCast, etas, elDef] <;> first | omega | grind) | grind [inK]) ?_ <;> conv => whnf)
    | (refine OblG.mk (by conv => whnf
                          repeat (first | (refine Bx.mk ?_) | (intro h; (try simp [etas, elDef, -List.getD_eq_getElem?_getD] at h); conv => whnf))
                          first | omega | rfl | exact inK_byte _ | (simp only [inK, Int.toNat_natCast, etas, elDef] <;> first | omega | grind) | grind [inK]) ?_ <;> conv => whnf)
    | (refine Gd.mk (fun h => ?_) <;> (try simp [etas, elDef, -List.getD_eq_getElem?_getD] at h) <;> conv => whnf)
    | (refine And.intro ?_ ?_ <;> conv => whnf)
    | exact True.intro
    | (intro; conv => whnf)
  exact leafV hK (by simp only [optN, nd_eta, elDef, List.getD_cons_zero, Int.toNat_zero]; try rfl)
theorem s39 : (CtrOK Tryd.prog 39 (.gen .ps C39) ∧ Callable Tryd.prog 39) := by
  refine gen_ok (E := E39) (mkE_cons s40 (mkE_nil tab_ok)) mix (O := O39) (C := C39) (own := .ps) Tryd.func39 rfl (by rfl) (by kernel_rfl) (fun args K h hbd => ?_)
  unfold C39 at h; split at h
  case h_2 => exact h.elim
  exact ⟨Nat.le_of_ble_eq_true rfl, a39 ⟨_, _, _, _, _⟩ _ _ _ (by exact hbd) _ h⟩
noncomputable def c25a (n : Nd) (p : List Bs) (q : List Bs) (j : Int) (x : Nd) (K : AV → List AV → Prop) : Prop :=
    Obl ((okN n ∧ smN x) ∧ 0 ≤ j ∧ j < q.length) (K (optN (chgM (fun m => addHereM m (q.getD j.toNat []) x) n p)) [])
noncomputable def m25a (n : Nd) (p : List Bs) (q : List Bs) (j : Int) (x : Nd) : Nat := p.length
noncomputable def C25a : List AV → (AV → List AV → Prop) → Prop
  | [.st [.int .i64 n_0, .int .i64 n_1, .str n_2, .ps .str n_3, .ps .node n_4], .ps .str p, .fn 39 [.ep .strs [q] 0 0, .ep .i64 [j] 0 0, .ep .node [x] 0 0]], K => c25a ⟨n_0, n_1, n_2, n_3, n_4⟩ p q j x K
  | _, _ => False
noncomputable def Ck25a (k : Nat) : List AV → (AV → List AV → Prop) → Prop
  | [.st [.int .i64 n_0, .int .i64 n_1, .str n_2, .ps .str n_3, .ps .node n_4], .ps .str p, .fn 39 [.ep .strs [q] 0 0, .ep .i64 [j] 0 0, .ep .node [x] 0 0]], K => Obl (m25a ⟨n_0, n_1, n_2, n_3, n_4⟩ p q j x < k) (c25a ⟨n_0, n_1, n_2, n_3, n_4⟩ p q j x K)
  | _, _ => False
noncomputable def E25a (k : Nat) : Ctx := mkE tab [(25, .gen .ps (Ck25a k)), (27, .pure F27), (28, .gen .ow C28), (39, .gen .ps C39)]
noncomputable def O25a : Nat → List DI := ordL [(3, [.q 0, .q 1, .q 2, .q 3, .q 4, .q 5, .q 6, .q 7, .q 8, .q 9]), (6, [.q 0, .q 1, .q 2, .q 3, .q 4, .q 5, .q 6, .q 7, .l 8 [], .q 9, .q 10, .q 11, .a 12, .l 13 [], .q 14])]
theorem a25a (k : Nat) (n : Nd) (p : List Bs) (q : List Bs) (j : Int) (x : Nd) (hm : m25a n p q j x < k + 1) (hb : BdAs [.st (ndC n), .ps .str p, .fn 39 [.ep .strs [q] 0 0, .ep .i64 [j] 0 0, .ep .node [x] 0 0]]) (K : AV → List AV → Prop) (h : c25a n p q j x K) : abody (E25a k) O25a .ps Tryd.f25 (Tryd.f25.body.getD .skip) [.st (ndC n), .ps .str p, .fn 39 [.ep .strs [q] 0 0, .ep .i64 [j] 0 0, .ep .node [x] 0 0]] K := by
  simp only [BdAs, BdA, BdL, BdC, MX, ndC, shC, itC, stC, opC, chC, nwC, flC, rqC, rsC, enc, List.cons_append, List.nil_append, and_true, true_and] at hb
  unfold c25a at h
  unfold m25a at hm
  obtain ⟨⟨⟨hn, hx⟩, hk⟩, hK⟩ := h
  have hsn := hn.sm
  have h6 := okN_kids hn
  have hkm := kidM_ok (b := p.getD 0 []) hn
  have hpl := placeM_ge n (p.getD 0 [])
  have hok := fun h => okN_kid hn (j := (placeM n (p.getD 0 [])).toNat) h
  rcases Nat.eq_zero_or_pos p.length with h0 | h0
  · obtain rfl := List.length_eq_zero_iff.1 h0
    conv => whnf
    repeat' first
      | (refine Cnd.mk (fun h => ?_) (fun h => ?_) <;> (try simp [etas, elDef, -List.getD_eq_getElem?_getD] at h) <;> conv => whnf)
      | (refine Obl.mk (by first | omega | rfl | exact inK_byte _ | (simp only [inK, Int.toNat_natCast, etas, elDef, m25a, m25a, o27, m28] <;> first | omega | grind) | grind [inK, m25a, m25a, o27, m28]) ?_ <;> conv => whnf)
      | (refine OblG.mk (by conv => whnf
                            repeat (first | (refine Bx.mk ?_) | (intro h; (try simp [etas, elDef, -List.getD_eq_getElem?_getD] at h); conv => whnf))
                            first | omega | rfl | exact inK_byte _ | (simp only [inK, Int.toNat_natCast, etas, elDef, m25a, m25a, o27, m28] <;> first | omega | grind) | grind [inK, m25a, m25a, o27, m28]) ?_ <;> conv => whnf)
      | (refine Gd.mk (fun h => ?_) <;> (try simp [etas, elDef, -List.getD_eq_getElem?_getD] at h) <;> conv => whnf)
      | (refine And.intro ?_ ?_ <;> conv => whnf)
      | exact True.intro
      | (intro; conv => whnf)
    · exact leafV hK (by simp only [chgM, optN, nd_eta]; rfl)
    all_goals (exfalso; simp_all)
  · have e0 := chgM_at (f := fun m => addHereM m (q.getD j.toNat []) x) (n := n) h0
    rw [List.drop_one] at e0
    have hpk := fun (h : (kidM n (p.getD 0 [])).2 = true) => show ¬ placeM n (p.getD 0 []) < 0 by have := hkm.1; rw [h] at this; simpa using this
    have hk2 := fun (h : (kidM n (p.getD 0 [])).2 = true) => show 0 ≤ (kidM n (p.getD 0 [])).1 ∧ (kidM n (p.getD 0 [])).1 < n.kids.length by have h1 := hpk h; have h2 := hkm.2 h; omega
    have hok2 := fun (h : (kidM n (p.getD 0 [])).2 = true) => okN_kid hn (j := (kidM n (p.getD 0 [])).1.toNat) (by have := hk2 h; omega)
    conv => whnf
    repeat' first
      | (refine Cnd.mk (fun h => ?_) (fun h => ?_) <;> (try simp [etas, elDef, -List.getD_eq_getElem?_getD] at h) <;> conv => whnf)
      | (refine Obl.mk (by first | omega | rfl | exact inK_byte _ | (simp only [inK, Int.toNat_natCast, etas, elDef, m25a, m25a, o27, m28] <;> first | omega | grind) | grind [inK, m25a, m25a, o27, m28]) ?_ <;> conv => whnf)
      | (refine OblG.mk (by conv => whnf
                            repeat (first | (refine Bx.mk ?_) | (intro h; (try simp [etas, elDef, -List.getD_eq_getElem?_getD] at h); conv => whnf))
                            first | omega | rfl | exact inK_byte _ | (simp only [inK, Int.toNat_natCast, etas, elDef, m25a, m25a, o27, m28] <;> first | omega | grind) | grind [inK, m25a, m25a, o27, m28]) ?_ <;> conv => whnf)
      | (refine Gd.mk (fun h => ?_) <;> (try simp [etas, elDef, -List.getD_eq_getElem?_getD] at h) <;> conv => whnf)
      | (refine And.intro ?_ ?_ <;> conv => whnf)
      | exact True.intro
      | (intro; conv => whnf)
    · exfalso; subst h; simp at h0
    · have hp : placeM n (p.getD 0 []) < 0 := by have := hkm.1; rw [h] at this; simpa using this
      exact leafV hK (by rw [e0, if_pos hp]; rfl)
    · rename_i h1
      have hp := hpk h1
      rw [hkm.2 h1] at h
      exact leafV hK (by rw [e0, if_neg hp, h]; rfl)
    · rename_i h1
      have hp := hpk h1
      have e1 := hkm.2 h1
      rw [e1] at h
      obtain ⟨m, hm⟩ := Option.isSome_iff_exists.1 h
      rw [hm] at e0
      refine leafV hK ?_
      rw [e0, if_neg hp]
      simp only [optN, nd_eta, elDef, Int.toNat_zero, Int.toNat_natCast, List.take_length, List.drop_one, Int.toNat_one, e1, hm, Option.map_some, Option.getD_some, Option.isSome_some]
      first | done | rfl
theorem r25a : ∀ k, (CtrOK Tryd.prog 25 (.gen .ps (Ck25a k)) ∧ Callable Tryd.prog 25) := by
  intro k
  induction k with
  | zero =>
    exact ⟨fun args K h => by
        unfold Ck25a at h; split at h
        · exact absurd h.o (Nat.not_lt_zero _)
        · exact h.elim, callable Tryd.func25 rfl (by rfl)⟩
  | succ k ih =>
    refine gen_ok (E := E25a k) (mkE_cons ih (mkE_cons s27 (mkE_cons s28 (mkE_cons s39 (mkE_nil tab_ok))))) mix (O := O25a) (C := (Ck25a (k + 1))) (own := .ps) Tryd.func25 rfl (by rfl) (by kernel_rfl) (fun args K h hbd => ?_)
    unfold Ck25a at h; split at h
    case h_2 => exact h.elim
    exact ⟨Nat.le_of_ble_eq_true rfl, a25a k ⟨_, _, _, _, _⟩ _ _ _ _ h.o (by exact hbd) _ h.k⟩
theorem s25a : (CtrOK Tryd.prog 25 (.gen .ps C25a) ∧ Callable Tryd.prog 25) := by
  refine ⟨fun args K h => ?_, (r25a 0).2⟩
  unfold C25a at h; split at h
  · exact (r25a (m25a ⟨_, _, _, _, _⟩ _ _ _ _ + 1)).1 _ K ⟨Nat.lt_succ_self _, h⟩
  · exact h.elim
noncomputable def c26 (n : Nd) (q : List Bs) (j : Int) (K : AV → List AV → Prop) : Prop :=
    Obl (okN n ∧ 0 ≤ j ∧ j < q.length) (K (optN (dropHereM (q.getD j.toNat []) n)) [])
noncomputable def C26 : List AV → (AV → List AV → Prop) → Prop
  | [.st [.int .i64 n_0, .int .i64 n_1, .str n_2, .ps .str n_3, .ps .node n_4], .ep .strs [q] 0 0, .ep .i64 [j] 0 0], K => c26 ⟨n_0, n_1, n_2, n_3, n_4⟩ q j K
  | _, _ => False
noncomputable def E26 : Ctx := mkE tab [(27, .pure F27), (28, .gen .ow C28), (29, .gen .ow C29), (30, .gen .ow C30)]
noncomputable def O26 : Nat → List DI := ordL [(1, [.q 0, .q 1, .q 2, .q 3, .q 4, .q 5, .q 6, .q 7, .q 8, .q 9, .q 10])]
theorem a26 (n : Nd) (q : List Bs) (j : Int) (hb : BdAs [.st (ndC n), .ep .strs [q] 0 0, .ep .i64 [j] 0 0]) (K : AV → List AV → Prop) (h : c26 n q j K) : abody E26 O26 .ps Tryd.f26 (Tryd.f26.body.getD .skip) [.st (ndC n), .ep .strs [q] 0 0, .ep .i64 [j] 0 0] K := by
  simp only [BdAs, BdA, BdL, BdC, MX, ndC, shC, itC, stC, opC, chC, nwC, flC, rqC, rsC, enc, List.cons_append, List.nil_append, and_true, true_and] at hb
  unfold c26 at h
  obtain ⟨⟨hn, hj⟩, hK⟩ := h
  have hsn := hn.sm
  have h6 := okN_kids hn
  have h7 := (okN_names hn).1
  have hbare := okN_bare hn
  have hev := (okN_names hn).2.1
  have hnm := (okN_names hn).2.2
  have hkm := kidM_ok (b := q.getD j.toNat []) hn
  have hpl := placeM_ge n (q.getD j.toNat [])
  have hpk := fun (h : (kidM n (q.getD j.toNat [])).2 = true) => show ¬ placeM n (q.getD j.toNat []) < 0 by have := hkm.1; rw [h] at this; simpa using this
  have hk2 := fun (h : (kidM n (q.getD j.toNat [])).2 = true) => show 0 ≤ (kidM n (q.getD j.toNat [])).1 ∧ (kidM n (q.getD j.toNat [])).1 < n.kids.length by have h1 := hpk h; have h2 := hkm.2 h; omega
  conv => whnf
  repeat' first
    | (refine Cnd.mk (fun h => ?_) (fun h => ?_) <;> (try simp [etas, elDef, -List.getD_eq_getElem?_getD] at h) <;> conv => whnf)
    | (refine Obl.mk (by first | omega | rfl | exact inK_byte _ | (simp only [inK, Int.toNat_natCast, etas, elDef, o27, m28] <;> first | omega | grind) | grind [inK, o27, m28]) ?_ <;> conv => whnf)
    | (refine OblG.mk (by conv => whnf
                          repeat (first | (refine Bx.mk ?_) | (intro h; (try simp [etas, elDef, -List.getD_eq_getElem?_getD] at h); conv => whnf))
                          first | omega | rfl | exact inK_byte _ | (simp only [inK, Int.toNat_natCast, etas, elDef, o27, m28] <;> first | omega | grind) | grind [inK, o27, m28]) ?_ <;> conv => whnf)
    | (refine Gd.mk (fun h => ?_) <;> (try simp [etas, elDef, -List.getD_eq_getElem?_getD] at h) <;> conv => whnf)
    | (refine And.intro ?_ ?_ <;> conv => whnf)
    | exact True.intro
    | (intro; conv => whnf)
  · have h : (kidM n (q.getD j.toNat [])).2 = false := h
    have hp : placeM n (q.getD j.toNat []) < 0 := by have := hkm.1; rw [h] at this; simpa using this
    exact leafV hK (by unfold dropHereM; rw [if_pos hp]; rfl)
  · rename_i h1
    have h1 : (kidM n (q.getD j.toNat [])).2 = true := h1
    have hp := hpk h1
    have e1 := hkm.2 h1
    have e2 := hk2 h1
    rw [e1] at e2
    have en := hbare.1 (by omega)
    have et := hbare.2 (by omega)
    refine leafV hK ?_
    rw [show dropHereM (q.getD j.toNat []) n = some (withoutM n (placeM n (q.getD j.toNat [])).toNat) from if_neg hp]
    simp only [nd_eta]
    simp only [optN, withoutM, outM, ndC, enc, Option.getD_some, Option.isSome_some, if_pos h]
    rw [en, et]
    rw [← List.eraseIdx_eq_take_drop_succ, ← List.eraseIdx_eq_take_drop_succ, ← e1]
    rfl
  · rename_i h1
    have h1 : (kidM n (q.getD j.toNat [])).2 = true := h1
    have hp := hpk h1
    have e1 := hkm.2 h1
    have e2 := hk2 h1
    rw [e1] at e2
    have h3 := hitM_iff.1 (hpl.2.2 e2.1)
    have hn0 := hnm h
    have en := hbare.1 (by omega)
    have et := hbare.2 (by omega)
    refine leafV hK ?_
    rw [show dropHereM (q.getD j.toNat []) n = some (withoutM n (placeM n (q.getD j.toNat [])).toNat) from if_neg hp]
    simp only [nd_eta]
    simp only [optN, withoutM, outM, ndC, enc, Option.getD_some, Option.isSome_some, if_neg h]
    rw [en, et, hn0]
    rw [← List.eraseIdx_eq_take_drop_succ, ← e1]
    rfl
theorem s26 : (CtrOK Tryd.prog 26 (.gen .ps C26) ∧ Callable Tryd.prog 26) := by
  refine gen_ok (E := E26) (mkE_cons s27 (mkE_cons s28 (mkE_cons s29 (mkE_cons s30 (mkE_nil tab_ok))))) mix (O := O26) (C := C26) (own := .ps) Tryd.func26 rfl (by rfl) (by kernel_rfl) (fun args K h hbd => ?_)
  unfold C26 at h; split at h
  case h_2 => exact h.elim
  exact ⟨Nat.le_of_ble_eq_true rfl, a26 ⟨_, _, _, _, _⟩ _ _ (by exact hbd) _ h⟩
noncomputable def c25r (n : Nd) (p : List Bs) (q : List Bs) (j : Int) (K : AV → List AV → Prop) : Prop :=
    Obl (okN n ∧ 0 ≤ j ∧ j < q.length) (K (optN (chgM (dropHereM (q.getD j.toNat [])) n p)) [])
noncomputable def m25r (n : Nd) (p : List Bs) (q : List Bs) (j : Int) : Nat := p.length
noncomputable def C25r : List AV → (AV → List AV → Prop) → Prop
  | [.st [.int .i64 n_0, .int .i64 n_1, .str n_2, .ps .str n_3, .ps .node n_4], .ps .str p, .fn 26 [.ep .strs [q] 0 0, .ep .i64 [j] 0 0]], K => c25r ⟨n_0, n_1, n_2, n_3, n_4⟩ p q j K
  | _, _ => False
noncomputable def Ck25r (k : Nat) : List AV → (AV → List AV → Prop) → Prop
  | [.st [.int .i64 n_0, .int .i64 n_1, .str n_2, .ps .str n_3, .ps .node n_4], .ps .str p, .fn 26 [.ep .strs [q] 0 0, .ep .i64 [j] 0 0]], K => Obl (m25r ⟨n_0, n_1, n_2, n_3, n_4⟩ p q j < k) (c25r ⟨n_0, n_1, n_2, n_3, n_4⟩ p q j K)
  | _, _ => False
noncomputable def E25r (k : Nat) : Ctx := mkE tab [(25, .gen .ps (Ck25r k)), (26, .gen .ps C26), (27, .pure F27), (28, .gen .ow C28)]
noncomputable def O25r : Nat → List DI := ordL [(3, [.q 0, .q 1, .q 2, .q 3, .q 4, .q 5, .q 6, .q 7, .q 8, .q 9]), (6, [.q 0, .q 1, .q 2, .q 3, .q 4, .q 5, .q 6, .q 7, .l 8 [], .q 9, .q 10, .q 11, .a 12, .l 13 [], .q 14])]
theorem a25r (k : Nat) (n : Nd) (p : List Bs) (q : List Bs) (j : Int) (hm : m25r n p q j < k + 1) (hb : BdAs [.st (ndC n), .ps .str p, .fn 26 [.ep .strs [q] 0 0, .ep .i64 [j] 0 0]]) (K : AV → List AV → Prop) (h : c25r n p q j K) : abody (E25r k) O25r .ps Tryd.f25 (Tryd.f25.body.getD .skip) [.st (ndC n), .ps .str p, .fn 26 [.ep .strs [q] 0 0, .ep .i64 [j] 0 0]] K := by
  simp only [BdAs, BdA, BdL, BdC, MX, ndC, shC, itC, stC, opC, chC, nwC, flC, rqC, rsC, enc, List.cons_append, List.nil_append, and_true, true_and] at hb
  unfold c25r at h
  unfold m25r at hm
  obtain ⟨⟨hn, hk⟩, hK⟩ := h
  have hsn := hn.sm
  have h6 := okN_kids hn
  have hkm := kidM_ok (b := p.getD 0 []) hn
  have hpl := placeM_ge n (p.getD 0 [])
  have hok := fun h => okN_kid hn (j := (placeM n (p.getD 0 [])).toNat) h
  rcases Nat.eq_zero_or_pos p.length with h0 | h0
  · obtain rfl := List.length_eq_zero_iff.1 h0
    conv => whnf
    repeat' first
      | (refine Cnd.mk (fun h => ?_) (fun h => ?_) <;> (try simp [etas, elDef, -List.getD_eq_getElem?_getD] at h) <;> conv => whnf)
      | (refine Obl.mk (by first | omega | rfl | exact inK_byte _ | (simp only [inK, Int.toNat_natCast, etas, elDef, m25r, m25r, o27, m28] <;> first | omega | grind) | grind [inK, m25r, m25r, o27, m28]) ?_ <;> conv => whnf)
      | (refine OblG.mk (by conv => whnf
                            repeat (first | (refine Bx.mk ?_) | (intro h; (try simp [etas, elDef, -List.getD_eq_getElem?_getD] at h); conv => whnf))
                            first | omega | rfl | exact inK_byte _ | (simp only [inK, Int.toNat_natCast, etas, elDef, m25r, m25r, o27, m28] <;> first | omega | grind) | grind [inK, m25r, m25r, o27, m28]) ?_ <;> conv => whnf)
      | (refine Gd.mk (fun h => ?_) <;> (try simp [etas, elDef, -List.getD_eq_getElem?_getD] at h) <;> conv => whnf)
      | (refine And.intro ?_ ?_ <;> conv => whnf)
      | exact True.intro
      | (intro; conv => whnf)
    · exact leafV hK (by simp only [chgM, optN, nd_eta]; rfl)
    all_goals (exfalso; simp_all)
  · have e0 := chgM_at (f := dropHereM (q.getD j.toNat [])) (n := n) h0
    rw [List.drop_one] at e0
    have hpk := fun (h : (kidM n (p.getD 0 [])).2 = true) => show ¬ placeM n (p.getD 0 []) < 0 by have := hkm.1; rw [h] at this; simpa using this
    have hk2 := fun (h : (kidM n (p.getD 0 [])).2 = true) => show 0 ≤ (kidM n (p.getD 0 [])).1 ∧ (kidM n (p.getD 0 [])).1 < n.kids.length by have h1 := hpk h; have h2 := hkm.2 h; omega
    have hok2 := fun (h : (kidM n (p.getD 0 [])).2 = true) => okN_kid hn (j := (kidM n (p.getD 0 [])).1.toNat) (by have := hk2 h; omega)
    conv => whnf
    repeat' first
      | (refine Cnd.mk (fun h => ?_) (fun h => ?_) <;> (try simp [etas, elDef, -List.getD_eq_getElem?_getD] at h) <;> conv => whnf)
      | (refine Obl.mk (by first | omega | rfl | exact inK_byte _ | (simp only [inK, Int.toNat_natCast, etas, elDef, m25r, m25r, o27, m28] <;> first | omega | grind) | grind [inK, m25r, m25r, o27, m28]) ?_ <;> conv => whnf)
      | (refine OblG.mk (by conv => whnf
                            repeat (first | (refine Bx.mk ?_) | (intro h; (try simp [etas, elDef, -List.getD_eq_getElem?_getD] at h); conv => whnf))
                            first | omega | rfl | exact inK_byte _ | (simp only [inK, Int.toNat_natCast, etas, elDef, m25r, m25r, o27, m28] <;> first | omega | grind) | grind [inK, m25r, m25r, o27, m28]) ?_ <;> conv => whnf)
      | (refine Gd.mk (fun h => ?_) <;> (try simp [etas, elDef, -List.getD_eq_getElem?_getD] at h) <;> conv => whnf)
      | (refine And.intro ?_ ?_ <;> conv => whnf)
      | exact True.intro
      | (intro; conv => whnf)
    · exfalso; subst h; simp at h0
    · have hp : placeM n (p.getD 0 []) < 0 := by have := hkm.1; rw [h] at this; simpa using this
      exact leafV hK (by rw [e0, if_pos hp]; rfl)
    · rename_i h1
      have hp := hpk h1
      rw [hkm.2 h1] at h
      exact leafV hK (by rw [e0, if_neg hp, h]; rfl)
    · rename_i h1
      have hp := hpk h1
      have e1 := hkm.2 h1
      rw [e1] at h
      obtain ⟨m, hm⟩ := Option.isSome_iff_exists.1 h
      rw [hm] at e0
      refine leafV hK ?_
      rw [e0, if_neg hp]
      simp only [optN, nd_eta, elDef, Int.toNat_zero, Int.toNat_natCast, List.take_length, List.drop_one, Int.toNat_one, e1, hm, Option.map_some, Option.getD_some, Option.isSome_some]
      first | done | rfl
theorem r25r : ∀ k, (CtrOK Tryd.prog 25 (.gen .ps (Ck25r k)) ∧ Callable Tryd.prog 25) := by
  intro k
  induction k with
  | zero =>
    exact ⟨fun args K h => by
        unfold Ck25r at h; split at h
        · exact absurd h.o (Nat.not_lt_zero _)
        · exact h.elim, callable Tryd.func25 rfl (by rfl)⟩
  | succ k ih =>
    refine gen_ok (E := E25r k) (mkE_cons ih (mkE_cons s26 (mkE_cons s27 (mkE_cons s28 (mkE_nil tab_ok))))) mix (O := O25r) (C := (Ck25r (k + 1))) (own := .ps) Tryd.func25 rfl (by rfl) (by kernel_rfl) (fun args K h hbd => ?_)
    unfold Ck25r at h; split at h
    case h_2 => exact h.elim
    exact ⟨Nat.le_of_ble_eq_true rfl, a25r k ⟨_, _, _, _, _⟩ _ _ _ h.o (by exact hbd) _ h.k⟩
theorem s25r : (CtrOK Tryd.prog 25 (.gen .ps C25r) ∧ Callable Tryd.prog 25) := by
  refine ⟨fun args K h => ?_, (r25r 0).2⟩
  unfold C25r at h; split at h
  · exact (r25r (m25r ⟨_, _, _, _, _⟩ _ _ _ + 1)).1 _ K ⟨Nat.lt_succ_self _, h⟩
  · exact h.elim
noncomputable def c15 (n : Nd) (p : List Bs) (x : Nd) (K : AV → List AV → Prop) : Prop :=
    K (optN (addNodeM n p x)) []
noncomputable def C15 : List AV → (AV → List AV → Prop) → Prop
  | [.st [.int .i64 n_0, .int .i64 n_1, .str n_2, .ps .str n_3, .ps .node n_4], .ps .str p, .st [.int .i64 x_0, .int .i64 x_1, .str x_2, .ps .str x_3, .ps .node x_4]], K => c15 ⟨n_0, n_1, n_2, n_3, n_4⟩ p ⟨x_0, x_1, x_2, x_3, x_4⟩ K
  | _, _ => False
noncomputable def E15 : Ctx := mkE tab [(19, .pure F19), (24, .pure F24), (25, .gen .ps C25a), (28, .gen .ow C28), (38, .gen .ps C38)]
noncomputable def O15 : Nat → List DI := ordL [(6, [.q 0, .q 1, .q 2, .q 3, .q 4, .l 5 [], .q 6, .q 7, .l 8 [], .q 9, .q 10, .l 11 [], .q 12])]
theorem a15 (n : Nd) (p : List Bs) (x : Nd) (hb : BdAs [.st (ndC n), .ps .str p, .st (ndC x)]) (K : AV → List AV → Prop) (h : c15 n p x K) : abody E15 O15 .ps Tryd.f15 (Tryd.f15.body.getD .skip) [.st (ndC n), .ps .str p, .st (ndC x)] K := by
  simp only [BdAs, BdA, BdL, BdC, MX, ndC, shC, itC, stC, opC, chC, nwC, flC, rqC, rsC, enc, List.cons_append, List.nil_append, and_true, true_and] at hb
  unfold c15 at h
  have hK9 := h
  have h1 := fun h => validM_ok (n := n) h
  have h2 := fun h => (validM_ok (n := x) h).sm
  have el := front_eq p
  have e6 : p ≠ [] → 0 < p.length := fun h => List.length_pos_iff.2 h
  have e5 : p ≠ [] → ((p.length : Int) - 1).toNat = p.length - 1 := fun h => by have := List.length_pos_iff.2 h; omega
  conv => whnf
  repeat' first
    | (refine Cnd.mk (fun h => ?_) (fun h => ?_) <;> (try simp [etas, elDef, -List.getD_eq_getElem?_getD] at h) <;> conv => whnf)
    | (refine Obl.mk (by first | omega | rfl | exact inK_byte _ | (simp only [inK, Int.toNat_natCast, etas, elDef, m25a, m28] <;> first | omega | grind) | grind [inK, m25a, m28]) ?_ <;> conv => whnf)
    | (refine OblG.mk (by conv => whnf
                          repeat (first | (refine Bx.mk ?_) | (intro h; (try simp [etas, elDef, -List.getD_eq_getElem?_getD] at h); conv => whnf))
                          first | omega | rfl | exact inK_byte _ | (simp only [inK, Int.toNat_natCast, etas, elDef, m25a, m28] <;> first | omega | grind) | grind [inK, m25a, m28]) ?_ <;> conv => whnf)
    | (refine Gd.mk (fun h => ?_) <;> (try simp [etas, elDef, -List.getD_eq_getElem?_getD] at h) <;> conv => whnf)
    | (refine And.intro ?_ ?_ <;> conv => whnf)
    | exact True.intro
    | (intro; conv => whnf)
  · exact leafV hK9 (by unfold addNodeM; rw [if_neg (by rcases h with (h | h) | h <;> simp [h])]; rfl)
  · rename_i h5
    subst h
    exact leafV hK9 (by unfold addNodeM addAtM; rw [if_pos (by simp [h5.1.1, h5.1.2, h5.2]), if_pos rfl]; simp only [checkedM, h5.2, if_true, optN, Option.getD_some, Option.isSome_some, nd_eta]; rfl)
  · rename_i h5
    refine leafV hK9 ?_
    have e7 : addNodeM n p x = checkedM (addAtM n p x) := by unfold addNodeM; rw [if_pos (by simp [h5.1.1, h5.1.2, h5.2])]
    rw [e7, checked_if, add_chg h]
    simp only [nd_eta, elDef, el, List.getD_cons_zero, Int.toNat_zero, e5 h, List.drop_zero, lastD]
    rfl
theorem s15 : (CtrOK Tryd.prog 15 (.gen .ps C15) ∧ Callable Tryd.prog 15) := by
  refine gen_ok (E := E15) (mkE_cons s19 (mkE_cons s24 (mkE_cons s25a (mkE_cons s28 (mkE_cons s38 (mkE_nil tab_ok)))))) mix (O := O15) (C := C15) (own := .ps) Tryd.func15 rfl (by rfl) (by kernel_rfl) (fun args K h hbd => ?_)
  unfold C15 at h; split at h
  case h_2 => exact h.elim
  exact ⟨Nat.le_of_ble_eq_true rfl, a15 ⟨_, _, _, _, _⟩ _ ⟨_, _, _, _, _⟩ (by exact hbd) _ h⟩
noncomputable def c11 (n : Nd) (p : List Bs) (K : AV → List AV → Prop) : Prop :=
    K (optN (removeNodeM n p)) []
noncomputable def C11 : List AV → (AV → List AV → Prop) → Prop
  | [.st [.int .i64 n_0, .int .i64 n_1, .str n_2, .ps .str n_3, .ps .node n_4], .ps .str p], K => c11 ⟨n_0, n_1, n_2, n_3, n_4⟩ p K
  | _, _ => False
noncomputable def E11 : Ctx := mkE tab [(19, .pure F19), (24, .pure F24), (25, .gen .ps C25r)]
noncomputable def O11 : Nat → List DI := ordL [(4, [.q 0, .q 1, .q 2, .q 3, .q 4, .l 5 [], .q 6, .q 7, .l 8 [], .q 9])]
theorem a11 (n : Nd) (p : List Bs) (hb : BdAs [.st (ndC n), .ps .str p]) (K : AV → List AV → Prop) (h : c11 n p K) : abody E11 O11 .ps Tryd.f11 (Tryd.f11.body.getD .skip) [.st (ndC n), .ps .str p] K := by
  simp only [BdAs, BdA, BdL, BdC, MX, ndC, shC, itC, stC, opC, chC, nwC, flC, rqC, rsC, enc, List.cons_append, List.nil_append, and_true, true_and] at hb
  unfold c11 at h
  rw [← rem_same] at h
  have hK9 := h
  have h1 := fun h => validM_ok (n := n) h
  have el := front_eq p
  have e6 : p ≠ [] → 0 < p.length := fun h => List.length_pos_iff.2 h
  have e5 : p ≠ [] → ((p.length : Int) - 1).toNat = p.length - 1 := fun h => by have := List.length_pos_iff.2 h; omega
  conv => whnf
  repeat' first
    | (refine Cnd.mk (fun h => ?_) (fun h => ?_) <;> (try simp [etas, elDef, -List.getD_eq_getElem?_getD] at h) <;> conv => whnf)
    | (refine Obl.mk (by first | omega | rfl | exact inK_byte _ | (simp only [inK, Int.toNat_natCast, etas, elDef, m25r] <;> first | omega | grind) | grind [inK, m25r]) ?_ <;> conv => whnf)
    | (refine OblG.mk (by conv => whnf
                          repeat (first | (refine Bx.mk ?_) | (intro h; (try simp [etas, elDef, -List.getD_eq_getElem?_getD] at h); conv => whnf))
                          first | omega | rfl | exact inK_byte _ | (simp only [inK, Int.toNat_natCast, etas, elDef, m25r] <;> first | omega | grind) | grind [inK, m25r]) ?_ <;> conv => whnf)
    | (refine Gd.mk (fun h => ?_) <;> (try simp [etas, elDef, -List.getD_eq_getElem?_getD] at h) <;> conv => whnf)
    | (refine And.intro ?_ ?_ <;> conv => whnf)
    | exact True.intro
    | (intro; conv => whnf)
  · refine leafV hK9 ?_
    rcases h with (h | h) | h
    · rw [h]; rfl
    · rw [h, Bool.and_false]; rfl
    · subst h
      have : (if validM n && pathM [] then removeAtM n [] else none) = none := by split <;> rfl
      rw [this]; rfl
  · refine leafV hK9 ?_
    have hp : p ≠ [] := h.2
    rw [h.1.1, h.1.2, Bool.and_self, if_pos rfl, remove_chg hp]
    simp only [nd_eta, elDef, el, List.getD_cons_zero, Int.toNat_zero, e5 hp, List.drop_zero, lastD]
    rfl
theorem s11 : (CtrOK Tryd.prog 11 (.gen .ps C11) ∧ Callable Tryd.prog 11) := by
  refine gen_ok (E := E11) (mkE_cons s19 (mkE_cons s24 (mkE_cons s25r (mkE_nil tab_ok)))) mix (O := O11) (C := C11) (own := .ps) Tryd.func11 rfl (by rfl) (by kernel_rfl) (fun args K h hbd => ?_)
  unfold C11 at h; split at h
  case h_2 => exact h.elim
  exact ⟨Nat.le_of_ble_eq_true rfl, a11 ⟨_, _, _, _, _⟩ _ (by exact hbd) _ h⟩
noncomputable def v16 (n : Nd) : AV := .int .i64 (ncM n)
noncomputable def o16 (n : Nd) : Prop := True
noncomputable def F16 : List AV → QR
  | [.st [.int .i64 n_0, .int .i64 n_1, .str n_2, .ps .str n_3, .ps .node n_4]] => some (none, v16 ⟨n_0, n_1, n_2, n_3, n_4⟩)
  | _ => none
noncomputable def E16 : Ctx := mkE tab [(41, .pure F41)]
noncomputable def O16 : Nat → List DI := ordL []
theorem a16 (n : Nd) (hb : BdAs [.st (ndC n)]) (ho : o16 n) (K : AV → List AV → Prop) (hK : K (v16 n) []) : abody E16 O16 .ps Tryd.f16 (Tryd.f16.body.getD .skip) [.st (ndC n)] K := by
  simp only [BdAs, BdA, BdL, BdC, MX, ndC, shC, itC, stC, opC, chC, nwC, flC, rqC, rsC, enc, List.cons_append, List.nil_append, and_true, true_and] at hb
  unfold v16 at hK
  conv => whnf
  repeat' first
    | (refine Cnd.mk (fun h => ?_) (fun h => ?_) <;> (try simp [etas, elDef, -List.getD_eq_getElem?_getD] at h) <;> conv => whnf)
    | (refine Obl.mk (by first | omega | rfl | exact inK_byte _ | (simp only [inK, Int.toNat_natCast, etas, elDef, o41, m41] <;> first | omega | grind) | grind [inK, o41, m41]) ?_ <;> conv => whnf)
    | (refine OblG.mk (by conv => whnf
                          repeat (first | (refine Bx.mk ?_) | (intro h; (try simp [etas, elDef, -List.getD_eq_getElem?_getD] at h); conv => whnf))
                          first | omega | rfl | exact inK_byte _ | (simp only [inK, Int.toNat_natCast, etas, elDef, o41, m41] <;> first | omega | grind) | grind [inK, o41, m41]) ?_ <;> conv => whnf)
    | (refine Gd.mk (fun h => ?_) <;> (try simp [etas, elDef, -List.getD_eq_getElem?_getD] at h) <;> conv => whnf)
    | (refine And.intro ?_ ?_ <;> conv => whnf)
    | exact True.intro
    | (intro; conv => whnf)
  · exact leafI hK (by
      unfold ncM validM
      rcases h with h | h
      · rw [h]; rfl
      · rw [if_neg]
        intro h2
        simp only [Bool.and_eq_true, decide_eq_true_eq] at h2
        rw [if_pos h2.1] at h
        omega)
  · refine leafI hK ?_
    have h2 := h.2
    rw [if_pos h.1] at h2
    simp only [nd_eta]
    unfold ncM validM
    rw [show (6 - 1 : Int).toNat = 5 from rfl, h.1, if_pos rfl, if_pos (by simp; omega)]
theorem s16 : (CtrOK Tryd.prog 16 (.pure F16) ∧ Callable Tryd.prog 16) := by
  refine pure_ok (E := E16) (mkE_cons s41 (mkE_nil tab_ok)) mix (O := O16) (F := F16) Tryd.func16 rfl (by rfl) (by kernel_rfl) (fun args o v h => ?_) (fun args o v h => ?_) (fun args o v h hbd hp K hK => ?_)
  · unfold F16 at h; split at h <;> cases h; first | trivial | (simp [v16, Scalar, Scalar2, Scalar1, stC, ndC, itC, chC, nwC])
  · unfold F16 at h; split at h <;> cases h; exact Nat.le_of_ble_eq_true rfl
  · unfold F16 at h; split at h
    case h_2 => cases h
    cases h
    exact a16 ⟨_, _, _, _, _⟩ (by exact hbd) trivial K hK
end Go.Rs

