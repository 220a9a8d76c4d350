import Derived.Test.YtbaknkjebncbbaaDoorDE
import Derived.Test.YtbaknkjebncbbaaDoorCT
import Derived.Test.YtbaknkjebncbbaaDoorDG
import Derived.Test.YtbaknkjebncbbaaDoorMF
set_option linter.all false
namespace Go.Rs
open Go.Proofs
set_option maxRecDepth 100000
set_option linter.unusedVariables false
set_option linter.unusedSimpArgs false
noncomputable def c30 (n : Nd) (b : Bs) (x : Nd) (K : AV → List AV → Prop) : Prop :=
    Obl (okN n ∧ smN x) (K (optN (addHereM n b x)) [])
noncomputable def C30 : List AV → (AV → List AV → Prop) → Prop
  | [.st [.int .i64 n_0, .int .i64 n_1, .str n_2, .ps .str n_3, .ps .node n_4], .str b, .st [.int .i64 x_0, .int .i64 x_1, .str x_2, .ps .str x_3, .ps .node x_4]], K => c30 ⟨n_0, n_1, n_2, n_3, n_4⟩ b ⟨x_0, x_1, x_2, x_3, x_4⟩ K
  | _, _ => False
noncomputable def E30 : Ctx := mkE tab [(26, .gen .ow C26), (51, .pure F51), (52, .gen .ps C52), (53, .pure F53), (54, .gen .ow C54)]
noncomputable def O30 : Nat → List DI := ordL [(12, [.q 0, .q 1, .q 2, .q 3, .l 4 [1], .l 5 [1], .l 6 [], .q 7, .l 8 []])]
theorem a30 (n : Nd) (b : Bs) (x : Nd) (hb : BdAs [.st (ndC n), .str b, .st (ndC x)]) (K : AV → List AV → Prop) (h : c30 n b x K) : abody E30 O30 .ps Tryd.f30 (Tryd.f30.body.getD .skip) [.st (ndC n), .str b, .st (ndC x)] K := by
  simp only [BdAs, BdA, BdL, BdC, MX, ndC, shC, itC, stC, opC, chC, nwC, flC, rqC, rsC, enc, List.cons_append, List.nil_append, and_true, true_and] at hb
  unfold c30 at h
  obtain ⟨⟨hn, hx⟩, hK⟩ := h
  have hsn := hn.sm
  have h6 := okN_kids hn
  have h7 := (okN_names hn).1
  have hbare := okN_bare hn
  have hpl := placeM_ge n b
  have hso := fun h => okN_sorted hn h
  have hev := (okN_names hn).2.1
  have hnm := (okN_names hn).2.2
  have hkm := kidM_ok (b := b) hn
  have hk0 : (kidM n b).2 = true → 0 ≤ (kidM n b).1 ∧ (kidM n b).1 ≤ n.kids.length := fun h => by
    have h1 := hkm.1
    have h2 := hkm.2 h
    rw [h] at h1
    have : ¬ placeM n b < 0 := by simpa using h1
    omega
  conv => whnf
  repeat' first
    | (refine Cnd.mk (fun h => ?_) (fun h => ?_) <;> (try simp [etas, elDef, -List.getD_eq_getElem?_getD] at h) <;> conv => whnf)
    | (refine Obl.mk (by first | omega | rfl | exact inK_byte _ | (simp only [inK, Int.toNat_natCast, etas, elDef, m26, o51, o53] <;> first | omega | grind) | grind [inK, m26, o51, o53]) ?_ <;> conv => whnf)
    | (refine OblG.mk (by conv => whnf
                          repeat (first | (refine Bx.mk ?_) | (intro h; (try simp [etas, elDef, -List.getD_eq_getElem?_getD] at h); conv => whnf))
                          first | omega | rfl | exact inK_byte _ | (simp only [inK, Int.toNat_natCast, etas, elDef, m26, o51, o53] <;> first | omega | grind) | grind [inK, m26, o51, o53]) ?_ <;> conv => whnf)
    | (refine Gd.mk (fun h => ?_) <;> (try simp [etas, elDef, -List.getD_eq_getElem?_getD] at h) <;> conv => whnf)
    | (refine And.intro ?_ ?_ <;> conv => whnf)
    | exact True.intro
    | (intro; conv => whnf)
  · have e := add_map hn h b x
    have e2 : baseI n = zipI n.names n.kids := by unfold baseI; rw [if_pos h]
    have n0 := hbare.1 (by omega)
    have t0 := hbare.2 (by omega)
    exact leafV hK (by rw [e, e2]; simp only [optN, ndOf, ndC, enc, Option.getD_some, Option.isSome_some, nd_eta, h, n0, t0])
  · rename_i h4 h3 h1
    have hp : placeM n b < 0 := by have := hkm.1; rw [h1.1] at this; simpa using this
    have e := add_list h3 b x
    rw [if_neg (by omega), if_pos h1.2] at e
    exact leafV hK (by rw [e]; simp only [optN, ndC, enc, Option.getD_some, Option.isSome_some, nd_eta, h3, hbare.1 (show n.kind ≠ 1 by omega), hbare.2 (show n.kind ≠ 2 by omega), hnm h4, insM, Int.toNat_natCast])
  · rename_i h4 h3 h1
    have hp : placeM n b < 0 := by have := hkm.1; rw [h] at this; simpa using this
    have e := add_list h3 b x
    rw [if_neg (by omega), if_neg (by have := h1 h; grind)] at e
    exact leafV hK (by rw [e]; rfl)
  · rename_i h4 h3 h1
    have hp : ¬ placeM n b < 0 := by have := hkm.1; rw [h] at this; simpa using this
    have e1 := hkm.2 h
    have e := add_list h3 b x
    rw [if_pos (by omega)] at e
    exact leafV hK (by rw [e]; simp only [nd_eta, e1]; simp only [optN, ndC, enc, Option.getD_some, Option.isSome_some, nd_eta, h3, hbare.1 (show n.kind ≠ 1 by omega), hbare.2 (show n.kind ≠ 2 by omega), hnm h4, insM])
  · have e := add_leaf h (by assumption) b x
    exact leafV hK (by rw [e]; rfl)
theorem s30 : (CtrOK Tryd.prog 30 (.gen .ps C30) ∧ Callable Tryd.prog 30) := by
  refine gen_ok (E := E30) (mkE_cons s26 (mkE_cons s51 (mkE_cons s52 (mkE_cons s53 (mkE_cons s54 (mkE_nil tab_ok)))))) mix (O := O30) (C := C30) (own := .ps) Tryd.func30 rfl (by rfl) (by kernel_rfl) (fun args K h hbd => ?_)
  unfold C30 at h; split at h
  case h_2 => exact h.elim
  exact ⟨Nat.le_of_ble_eq_true rfl, a30 ⟨_, _, _, _, _⟩ _ ⟨_, _, _, _, _⟩ (by exact hbd) _ h⟩
noncomputable def c29 (n : Nd) (q : List Bs) (k : Int) (x : Nd) (K : AV → List AV → Prop) : Prop :=
    Obl ((okN n ∧ smN x) ∧ 0 ≤ k ∧ k < q.length) (K (optN (addHereM n (q.getD k.toNat []) x)) [])
noncomputable def C29 : List AV → (AV → List AV → Prop) → Prop
  | [.st [.int .i64 n_0, .int .i64 n_1, .str n_2, .ps .str n_3, .ps .node n_4], .ep .strs [q] 0 0, .ep .i64 [k] 0 0, .ep .node [x] 0 0], K => c29 ⟨n_0, n_1, n_2, n_3, n_4⟩ q k x K
  | _, _ => False
noncomputable def E29 : Ctx := mkE tab [(30, .gen .ps C30)]
noncomputable def O29 : Nat → List DI := ordL [(1, [.q 0, .q 1, .q 2, .q 3, .q 4, .q 5, .l 6 [], .q 7, .q 8, .l 9 [], .q 10])]
theorem a29 (n : Nd) (q : List Bs) (k : Int) (x : Nd) (hb : BdAs [.st (ndC n), .ep .strs [q] 0 0, .ep .i64 [k] 0 0, .ep .node [x] 0 0]) (K : AV → List AV → Prop) (h : c29 n q k x K) : abody E29 O29 .ps Tryd.f29 (Tryd.f29.body.getD .skip) [.st (ndC n), .ep .strs [q] 0 0, .ep .i64 [k] 0 0, .ep .node [x] 0 0] K := by
  simp only [BdAs, BdA, BdL, BdC, MX, ndC, shC, itC, stC, opC, chC, nwC, flC, rqC, rsC, enc, List.cons_append, List.nil_append, and_true, true_and] at hb
  unfold c29 at h
  obtain ⟨⟨⟨hn, hx⟩, hk⟩, hK⟩ := h
  conv => whnf
  repeat' first
    | (refine Cnd.mk (fun h => ?_) (fun h => ?_) <;> (try simp [etas, elDef, -List.getD_eq_getElem?_getD] at h) <;> conv => whnf)
    | (refine Obl.mk (by first | omega | rfl | exact inK_byte _ | (simp only [inK, Int.toNat_natCast, etas, elDef] <;> first | omega | grind) | grind [inK]) ?_ <;> conv => whnf)
    | (refine OblG.mk (by conv => whnf
                          repeat (first | (refine Bx.mk ?_) | (intro h; (try simp [etas, elDef, -List.getD_eq_getElem?_getD] at h); conv => whnf))
                          first | omega | rfl | exact inK_byte _ | (simp only [inK, Int.toNat_natCast, etas, elDef] <;> first | omega | grind) | grind [inK]) ?_ <;> conv => whnf)
    | (refine Gd.mk (fun h => ?_) <;> (try simp [etas, elDef, -List.getD_eq_getElem?_getD] at h) <;> conv => whnf)
    | (refine And.intro ?_ ?_ <;> conv => whnf)
    | exact True.intro
    | (intro; conv => whnf)
  exact leafV hK (by simp only [optN, nd_eta, elDef, List.getD_cons_zero, Int.toNat_zero]; try rfl)
theorem s29 : (CtrOK Tryd.prog 29 (.gen .ps C29) ∧ Callable Tryd.prog 29) := by
  refine gen_ok (E := E29) (mkE_cons s30 (mkE_nil tab_ok)) mix (O := O29) (C := C29) (own := .ps) Tryd.func29 rfl (by rfl) (by kernel_rfl) (fun args K h hbd => ?_)
  unfold C29 at h; split at h
  case h_2 => exact h.elim
  exact ⟨Nat.le_of_ble_eq_true rfl, a29 ⟨_, _, _, _, _⟩ _ _ _ (by exact hbd) _ h⟩
noncomputable def c28a (n : Nd) (p : List Bs) (q : List Bs) (j : Int) (x : Nd) (K : AV → List AV → Prop) : Prop :=
    Obl ((okN n ∧ smN x) ∧ 0 ≤ j ∧ j < q.length) (K (optN (chgM (fun m => addHereM m (q.getD j.toNat []) x) n p)) [])
noncomputable def m28a (n : Nd) (p : List Bs) (q : List Bs) (j : Int) (x : Nd) : Nat := p.length
noncomputable def C28a : List AV → (AV → List AV → Prop) → Prop
  | [.st [.int .i64 n_0, .int .i64 n_1, .str n_2, .ps .str n_3, .ps .node n_4], .ps .str p, .fn 29 [.ep .strs [q] 0 0, .ep .i64 [j] 0 0, .ep .node [x] 0 0]], K => c28a ⟨n_0, n_1, n_2, n_3, n_4⟩ p q j x K
  | _, _ => False
noncomputable def Ck28a (k : Nat) : List AV → (AV → List AV → Prop) → Prop
  | [.st [.int .i64 n_0, .int .i64 n_1, .str n_2, .ps .str n_3, .ps .node n_4], .ps .str p, .fn 29 [.ep .strs [q] 0 0, .ep .i64 [j] 0 0, .ep .node [x] 0 0]], K => Obl (m28a ⟨n_0, n_1, n_2, n_3, n_4⟩ p q j x < k) (c28a ⟨n_0, n_1, n_2, n_3, n_4⟩ p q j x K)
  | _, _ => False
noncomputable def E28a (k : Nat) : Ctx := mkE tab [(26, .gen .ow C26), (28, .gen .ps (Ck28a k)), (29, .gen .ps C29), (51, .pure F51)]
noncomputable def O28a : Nat → List DI := ordL [(3, [.q 0, .q 1, .q 2, .q 3, .q 4, .q 5, .q 6, .q 7, .q 8, .q 9]), (6, [.q 0, .q 1, .q 2, .q 3, .q 4, .q 5, .q 6, .q 7, .l 8 [], .q 9, .q 10, .q 11, .a 12, .l 13 [], .q 14])]
theorem a28a (k : Nat) (n : Nd) (p : List Bs) (q : List Bs) (j : Int) (x : Nd) (hm : m28a n p q j x < k + 1) (hb : BdAs [.st (ndC n), .ps .str p, .fn 29 [.ep .strs [q] 0 0, .ep .i64 [j] 0 0, .ep .node [x] 0 0]]) (K : AV → List AV → Prop) (h : c28a n p q j x K) : abody (E28a k) O28a .ps Tryd.f28 (Tryd.f28.body.getD .skip) [.st (ndC n), .ps .str p, .fn 29 [.ep .strs [q] 0 0, .ep .i64 [j] 0 0, .ep .node [x] 0 0]] K := by
  simp only [BdAs, BdA, BdL, BdC, MX, ndC, shC, itC, stC, opC, chC, nwC, flC, rqC, rsC, enc, List.cons_append, List.nil_append, and_true, true_and] at hb
  unfold c28a at h
  unfold m28a at hm
  obtain ⟨⟨⟨hn, hx⟩, hk⟩, hK⟩ := h
  have hsn := hn.sm
  have h6 := okN_kids hn
  have hkm := kidM_ok (b := p.getD 0 []) hn
  have hpl := placeM_ge n (p.getD 0 [])
  have hok := fun h => okN_kid hn (j := (placeM n (p.getD 0 [])).toNat) h
  rcases Nat.eq_zero_or_pos p.length with h0 | h0
  · obtain rfl := List.length_eq_zero_iff.1 h0
    conv => whnf
    repeat' first
      | (refine Cnd.mk (fun h => ?_) (fun h => ?_) <;> (try simp [etas, elDef, -List.getD_eq_getElem?_getD] at h) <;> conv => whnf)
      | (refine Obl.mk (by first | omega | rfl | exact inK_byte _ | (simp only [inK, Int.toNat_natCast, etas, elDef, m28a, m26, m28a, o51] <;> first | omega | grind) | grind [inK, m28a, m26, m28a, o51]) ?_ <;> conv => whnf)
      | (refine OblG.mk (by conv => whnf
                            repeat (first | (refine Bx.mk ?_) | (intro h; (try simp [etas, elDef, -List.getD_eq_getElem?_getD] at h); conv => whnf))
                            first | omega | rfl | exact inK_byte _ | (simp only [inK, Int.toNat_natCast, etas, elDef, m28a, m26, m28a, o51] <;> first | omega | grind) | grind [inK, m28a, m26, m28a, o51]) ?_ <;> conv => whnf)
      | (refine Gd.mk (fun h => ?_) <;> (try simp [etas, elDef, -List.getD_eq_getElem?_getD] at h) <;> conv => whnf)
      | (refine And.intro ?_ ?_ <;> conv => whnf)
      | exact True.intro
      | (intro; conv => whnf)
    · exact leafV hK (by simp only [chgM, optN, nd_eta]; rfl)
    all_goals (exfalso; simp_all)
  · have e0 := chgM_at (f := fun m => addHereM m (q.getD j.toNat []) x) (n := n) h0
    rw [List.drop_one] at e0
    have hpk := fun (h : (kidM n (p.getD 0 [])).2 = true) => show ¬ placeM n (p.getD 0 []) < 0 by have := hkm.1; rw [h] at this; simpa using this
    have hk2 := fun (h : (kidM n (p.getD 0 [])).2 = true) => show 0 ≤ (kidM n (p.getD 0 [])).1 ∧ (kidM n (p.getD 0 [])).1 < n.kids.length by have h1 := hpk h; have h2 := hkm.2 h; omega
    have hok2 := fun (h : (kidM n (p.getD 0 [])).2 = true) => okN_kid hn (j := (kidM n (p.getD 0 [])).1.toNat) (by have := hk2 h; omega)
    conv => whnf
    repeat' first
      | (refine Cnd.mk (fun h => ?_) (fun h => ?_) <;> (try simp [etas, elDef, -List.getD_eq_getElem?_getD] at h) <;> conv => whnf)
      | (refine Obl.mk (by first | omega | rfl | exact inK_byte _ | (simp only [inK, Int.toNat_natCast, etas, elDef, m28a, m26, m28a, o51] <;> first | omega | grind) | grind [inK, m28a, m26, m28a, o51]) ?_ <;> conv => whnf)
      | (refine OblG.mk (by conv => whnf
                            repeat (first | (refine Bx.mk ?_) | (intro h; (try simp [etas, elDef, -List.getD_eq_getElem?_getD] at h); conv => whnf))
                            first | omega | rfl | exact inK_byte _ | (simp only [inK, Int.toNat_natCast, etas, elDef, m28a, m26, m28a, o51] <;> first | omega | grind) | grind [inK, m28a, m26, m28a, o51]) ?_ <;> conv => whnf)
      | (refine Gd.mk (fun h => ?_) <;> (try simp [etas, elDef, -List.getD_eq_getElem?_getD] at h) <;> conv => whnf)
      | (refine And.intro ?_ ?_ <;> conv => whnf)
      | exact True.intro
      | (intro; conv => whnf)
    · exfalso; subst h; simp at h0
    · have hp : placeM n (p.getD 0 []) < 0 := by have := hkm.1; rw [h] at this; simpa using this
      exact leafV hK (by rw [e0, if_pos hp]; rfl)
    · rename_i h1
      have hp := hpk h1
      rw [hkm.2 h1] at h
      exact leafV hK (by rw [e0, if_neg hp, h]; rfl)
    · rename_i h1
      have hp := hpk h1
      have e1 := hkm.2 h1
      rw [e1] at h
      obtain ⟨m, hm⟩ := Option.isSome_iff_exists.1 h
      rw [hm] at e0
      refine leafV hK ?_
      rw [e0, if_neg hp]
      simp only [optN, nd_eta, elDef, Int.toNat_zero, Int.toNat_natCast, List.take_length, List.drop_one, Int.toNat_one, e1, hm, Option.map_some, Option.getD_some, Option.isSome_some]
      first | done | rfl
theorem r28a : ∀ k, (CtrOK Tryd.prog 28 (.gen .ps (Ck28a k)) ∧ Callable Tryd.prog 28) := by
  intro k
  induction k with
  | zero =>
    exact ⟨fun args K h => by
        unfold Ck28a at h; split at h
        · exact absurd h.o (Nat.not_lt_zero _)
        · exact h.elim, callable Tryd.func28 rfl (by rfl)⟩
  | succ k ih =>
    refine gen_ok (E := E28a k) (mkE_cons s26 (mkE_cons ih (mkE_cons s29 (mkE_cons s51 (mkE_nil tab_ok))))) mix (O := O28a) (C := (Ck28a (k + 1))) (own := .ps) Tryd.func28 rfl (by rfl) (by kernel_rfl) (fun args K h hbd => ?_)
    unfold Ck28a at h; split at h
    case h_2 => exact h.elim
    exact ⟨Nat.le_of_ble_eq_true rfl, a28a k ⟨_, _, _, _, _⟩ _ _ _ _ h.o (by exact hbd) _ h.k⟩
theorem s28a : (CtrOK Tryd.prog 28 (.gen .ps C28a) ∧ Callable Tryd.prog 28) := by
  refine ⟨fun args K h => ?_, (r28a 0).2⟩
  unfold C28a at h; split at h
  · exact (r28a (m28a ⟨_, _, _, _, _⟩ _ _ _ _ + 1)).1 _ K ⟨Nat.lt_succ_self _, h⟩
  · exact h.elim
noncomputable def c10 (n : Nd) (p : List Bs) (x : Nd) (K : AV → List AV → Prop) : Prop :=
    K (optN (addNodeM n p x)) []
noncomputable def C10 : List AV → (AV → List AV → Prop) → Prop
  | [.st [.int .i64 n_0, .int .i64 n_1, .str n_2, .ps .str n_3, .ps .node n_4], .ps .str p, .st [.int .i64 x_0, .int .i64 x_1, .str x_2, .ps .str x_3, .ps .node x_4]], K => c10 ⟨n_0, n_1, n_2, n_3, n_4⟩ p ⟨x_0, x_1, x_2, x_3, x_4⟩ K
  | _, _ => False
noncomputable def E10 : Ctx := mkE tab [(21, .pure F21), (25, .pure F25), (26, .gen .ow C26), (27, .gen .ps C27), (28, .gen .ps C28a)]
noncomputable def O10 : Nat → List DI := ordL [(6, [.q 0, .q 1, .q 2, .q 3, .q 4, .l 5 [], .q 6, .q 7, .l 8 [], .q 9, .q 10, .l 11 [], .q 12])]
theorem a10 (n : Nd) (p : List Bs) (x : Nd) (hb : BdAs [.st (ndC n), .ps .str p, .st (ndC x)]) (K : AV → List AV → Prop) (h : c10 n p x K) : abody E10 O10 .ps Tryd.f10 (Tryd.f10.body.getD .skip) [.st (ndC n), .ps .str p, .st (ndC x)] K := by
  simp only [BdAs, BdA, BdL, BdC, MX, ndC, shC, itC, stC, opC, chC, nwC, flC, rqC, rsC, enc, List.cons_append, List.nil_append, and_true, true_and] at hb
  unfold c10 at h
  have hK9 := h
  have h1 := fun h => validM_ok (n := n) h
  have h2 := fun h => (validM_ok (n := x) h).sm
  have el := front_eq p
  have e6 : p ≠ [] → 0 < p.length := fun h => List.length_pos_iff.2 h
  have e5 : p ≠ [] → ((p.length : Int) - 1).toNat = p.length - 1 := fun h => by have := List.length_pos_iff.2 h; omega
  conv => whnf
  repeat' first
    | (refine Cnd.mk (fun h => ?_) (fun h => ?_) <;> (try simp [etas, elDef, -List.getD_eq_getElem?_getD] at h) <;> conv => whnf)
    | (refine Obl.mk (by first | omega | rfl | exact inK_byte _ | (simp only [inK, Int.toNat_natCast, etas, elDef, m26, m28a] <;> first | omega | grind) | grind [inK, m26, m28a]) ?_ <;> conv => whnf)
    | (refine OblG.mk (by conv => whnf
                          repeat (first | (refine Bx.mk ?_) | (intro h; (try simp [etas, elDef, -List.getD_eq_getElem?_getD] at h); conv => whnf))
                          first | omega | rfl | exact inK_byte _ | (simp only [inK, Int.toNat_natCast, etas, elDef, m26, m28a] <;> first | omega | grind) | grind [inK, m26, m28a]) ?_ <;> conv => whnf)
    | (refine Gd.mk (fun h => ?_) <;> (try simp [etas, elDef, -List.getD_eq_getElem?_getD] at h) <;> conv => whnf)
    | (refine And.intro ?_ ?_ <;> conv => whnf)
    | exact True.intro
    | (intro; conv => whnf)
  · exact leafV hK9 (by unfold addNodeM; rw [if_neg (by rcases h with (h | h) | h <;> simp [h])]; rfl)
  · rename_i h5
    subst h
    exact leafV hK9 (by unfold addNodeM addAtM; rw [if_pos (by simp [h5.1.1, h5.1.2, h5.2]), if_pos rfl]; simp only [checkedM, h5.2, if_true, optN, Option.getD_some, Option.isSome_some, nd_eta]; rfl)
  · rename_i h5
    refine leafV hK9 ?_
    have e7 : addNodeM n p x = checkedM (addAtM n p x) := by unfold addNodeM; rw [if_pos (by simp [h5.1.1, h5.1.2, h5.2])]
    rw [e7, checked_if, add_chg h]
    simp only [nd_eta, elDef, el, List.getD_cons_zero, Int.toNat_zero, e5 h, List.drop_zero, lastD]
    rfl
theorem s10 : (CtrOK Tryd.prog 10 (.gen .ps C10) ∧ Callable Tryd.prog 10) := by
  refine gen_ok (E := E10) (mkE_cons s21 (mkE_cons s25 (mkE_cons s26 (mkE_cons s27 (mkE_cons s28a (mkE_nil tab_ok)))))) mix (O := O10) (C := C10) (own := .ps) Tryd.func10 rfl (by rfl) (by kernel_rfl) (fun args K h hbd => ?_)
  unfold C10 at h; split at h
  case h_2 => exact h.elim
  exact ⟨Nat.le_of_ble_eq_true rfl, a10 ⟨_, _, _, _, _⟩ _ ⟨_, _, _, _, _⟩ (by exact hbd) _ h⟩
end Go.Rs

