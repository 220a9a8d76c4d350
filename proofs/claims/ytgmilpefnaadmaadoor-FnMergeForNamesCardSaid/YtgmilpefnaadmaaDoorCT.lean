import Derived.Test.YtgmilpefnaadmaaDoorCQ
import Derived.Test.YtgmilpefnaadmaaDoorMC
set_option linter.all false
namespace Go.Rs
open Go.Proofs
set_option maxRecDepth 100000
set_option linter.unusedVariables false
set_option linter.unusedSimpArgs false
/-- A condition that the walk leaves to the writer. -/
structure Gx (P Q : Prop) : Prop where
  o : P
  k : Q
noncomputable def c69o (n : Nd) (K : AV → List AV → Prop) : Prop :=
    Obl (smN n) (K (.st [.int .i64 n.kind, .int .i64 n.num, .str n.text, .own .str n.names, .own .node n.kids]) [])
noncomputable def C69o : List AV → (AV → List AV → Prop) → Prop
  | [.st [.int .i64 n_0, .int .i64 n_1, .str n_2, .ps .str n_3, .ps .node n_4]], K => c69o ⟨n_0, n_1, n_2, n_3, n_4⟩ K
  | _, _ => False
noncomputable def E69o : Ctx := mkE tab [(69, .gen .ps C69)]
noncomputable def O69o : Nat → List DI := ordL [(6, [.q 0, .q 1, .q 2, .q 3, .q 4, .q 5, .q 7, .q 8, .q 10, .l 6 [1, 3, 5, 8], .l 9 [1, 3, 5], .q 11, .l 12 []])]
theorem a69o (n : Nd) (hb : BdAs [.st (ndC n)]) (K : AV → List AV → Prop) (h : c69o n K) : abody E69o O69o .ow Tryd.f69 (Tryd.f69.body.getD .skip) [.st (ndC n)] K := by
  simp only [BdAs, BdA, BdL, BdC, MX, ndC, shC, itC, stC, opC, chC, nwC, flC, rqC, rsC, enc, List.cons_append, List.nil_append, and_true, true_and] at hb
  unfold c69o at h
  obtain ⟨hs, hK⟩ := h
  have hkid : ∀ j, j < n.kids.length → smN (n.kids.getD j default) := fun j hj => hs.kid hj
  have h3 := hs.kids
  have h2 := hs.names
  conv => whnf
  refine aloop_intro Nat (fun k => k ≤ n.kids.length ∧ True) (fun k => n.kids.length - k) (fun k => [(4, .int .i64 k), (3, .ls 900)]) (fun k => [(900, .arr .node (n.kids.take k))]) [1, 2] 0 [(900, 5)] [] ?_ ?_ (by exact sgOk_of (by rfl)) ?_
  · first | (simp; done) | (simp; assumption)
  · (conv => whnf); (repeat' (first | exact trivial | rfl | (refine nilEq ?_; first | rfl | (simp only [*]; done) | (simp [*]; done) | grind) | apply And.intro | ((first | refine intEq ?_ | refine boolEq ?_ | refine strEq ?_ | refine psEq ?_ | refine nilEq ?_ | refine arrEq ?_); (try simp only [Int.toNat_natCast, etas, elDef]); first | done | omega | grind | (simp only [*]; done) | (simp [*]; done)))); (all_goals (conv => whnf)); (repeat' (first | exact trivial | rfl | (refine nilEq ?_; first | rfl | (simp only [*]; done) | (simp [*]; done) | grind) | apply And.intro | ((first | refine intEq ?_ | refine boolEq ?_ | refine strEq ?_ | refine psEq ?_ | refine nilEq ?_ | refine arrEq ?_); (try simp only [Int.toNat_natCast, etas, elDef]); first | done | omega | grind | (simp only [*]; done) | (simp [*]; done)) | ((try simp only [Int.toNat_natCast, etas, elDef]); first | done | omega | grind | (simp only [*]; done) | (simp [*]; done))))
  rintro i ⟨hi, hj⟩
  conv => whnf
  have htk := fun h => take_snoc (l := n.kids) (i := i) default h
  have hki := hkid i
  repeat' first
    | (refine Cnd.mk (fun h => ?_) (fun h => ?_) <;> (try simp [etas, elDef, -List.getD_eq_getElem?_getD] at h) <;> conv => whnf)
    | (refine Obl.mk (by first | omega | rfl | exact inK_byte _ | (simp only [inK, Int.toNat_natCast, etas, elDef, m69] <;> first | omega | grind) | grind [inK, m69]) ?_ <;> conv => whnf)
    | (refine OblG.mk (by conv => whnf
                          repeat (first | (refine Bx.mk ?_) | (intro h; (try simp [etas, elDef, -List.getD_eq_getElem?_getD] at h); conv => whnf))
                          first | omega | rfl | exact inK_byte _ | (simp only [inK, Int.toNat_natCast, etas, elDef, m69] <;> first | omega | grind) | grind [inK, m69]) ?_ <;> conv => whnf)
    | (refine Gd.mk (fun h => ?_) <;> (try simp [etas, elDef, -List.getD_eq_getElem?_getD] at h) <;> conv => whnf)
    | (refine And.intro ?_ ?_ <;> conv => whnf)
    | exact True.intro
    | (intro; conv => whnf)
  · exact ⟨i + 1, [(900, 21)], [], ⟨by omega, by grind⟩, by omega, by (conv => whnf); (repeat' (first | exact trivial | rfl | (refine nilEq ?_; first | rfl | (simp only [*]; done) | (simp [*]; done) | grind) | apply And.intro | ((first | refine intEq ?_ | refine boolEq ?_ | refine strEq ?_ | refine psEq ?_ | refine nilEq ?_ | refine arrEq ?_); (try simp only [Int.toNat_natCast, etas, elDef]); first | done | omega | grind | (simp only [*]; done) | (simp [*]; done)))); (all_goals (conv => whnf)); (repeat' (first | exact trivial | rfl | (refine nilEq ?_; first | rfl | (simp only [*]; done) | (simp [*]; done) | grind) | apply And.intro | ((first | refine intEq ?_ | refine boolEq ?_ | refine strEq ?_ | refine psEq ?_ | refine nilEq ?_ | refine arrEq ?_); (try simp only [Int.toNat_natCast, etas, elDef]); first | done | omega | grind | (simp only [*]; done) | (simp [*]; done)) | ((try simp only [Int.toNat_natCast, etas, elDef]); first | done | omega | grind | (simp only [*]; done) | (simp [*]; done)))), (by exact sgOk_of (by rfl))⟩
  · exact leafV hK (by simp [List.take_of_length_le ‹n.kids.length ≤ i›])
theorem s69o : (CtrOK Tryd.prog 69 (.gen .ow C69o) ∧ Callable Tryd.prog 69) := by
  refine gen_ok (E := E69o) (mkE_cons s69 (mkE_nil tab_ok)) mix (O := O69o) (C := C69o) (own := .ow) Tryd.func69 rfl (by rfl) (by kernel_rfl) (fun args K h hbd => ?_)
  unfold C69o at h; split at h
  case h_2 => exact h.elim
  exact ⟨Nat.le_of_ble_eq_true rfl, a69o ⟨_, _, _, _, _⟩ (by exact hbd) _ h⟩
noncomputable def c76k (n : Nd) (i : Int) (x : Nd) (K : AV → List AV → Prop) : Prop :=
    Obl ((smN n ∧ smN x) ∧ 0 ≤ i ∧ i < n.kids.length) (K (.st (ndC (withKidM n i.toNat x))) [])
noncomputable def C76k : List AV → (AV → List AV → Prop) → Prop
  | [.st [.int .i64 n_0, .int .i64 n_1, .str n_2, .ps .str n_3, .ps .node n_4], .int .i64 i, .st [.int .i64 x_0, .int .i64 x_1, .str x_2, .ps .str x_3, .ps .node x_4]], K => c76k ⟨n_0, n_1, n_2, n_3, n_4⟩ i ⟨x_0, x_1, x_2, x_3, x_4⟩ K
  | _, _ => False
noncomputable def E76k : Ctx := mkE tab [(69, .gen .ow C69o)]
noncomputable def O76k : Nat → List DI := ordL [(2, [.q 0, .q 1, .q 2, .q 3, .l 4 [1], .q 5, .l 6 []])]
theorem a76k (n : Nd) (i : Int) (x : Nd) (hb : BdAs [.st (ndC n), .int .i64 i, .st (ndC x)]) (K : AV → List AV → Prop) (h : c76k n i x K) : abody E76k O76k .ps Tryd.f76 (Tryd.f76.body.getD .skip) [.st (ndC n), .int .i64 i, .st (ndC x)] K := by
  simp only [BdAs, BdA, BdL, BdC, MX, ndC, shC, itC, stC, opC, chC, nwC, flC, rqC, rsC, enc, List.cons_append, List.nil_append, and_true, true_and] at hb
  unfold c76k at h
  obtain ⟨⟨⟨hn, hx⟩, hi⟩, hK⟩ := h
  conv => whnf
  repeat' first
    | (refine Cnd.mk (fun h => ?_) (fun h => ?_) <;> (try simp [etas, elDef, -List.getD_eq_getElem?_getD] at h) <;> conv => whnf)
    | (refine Obl.mk (by first | omega | rfl | exact inK_byte _ | (simp only [inK, Int.toNat_natCast, etas, elDef] <;> first | omega | grind) | grind [inK]) ?_ <;> conv => whnf)
    | (refine OblG.mk (by conv => whnf
                          repeat (first | (refine Bx.mk ?_) | (intro h; (try simp [etas, elDef, -List.getD_eq_getElem?_getD] at h); conv => whnf))
                          first | omega | rfl | exact inK_byte _ | (simp only [inK, Int.toNat_natCast, etas, elDef] <;> first | omega | grind) | grind [inK]) ?_ <;> conv => whnf)
    | (refine Gd.mk (fun h => ?_) <;> (try simp [etas, elDef, -List.getD_eq_getElem?_getD] at h) <;> conv => whnf)
    | (refine And.intro ?_ ?_ <;> conv => whnf)
    | exact True.intro
    | (intro; conv => whnf)
  exact leafV hK (by (try simp only [etas, elDef, Int.toNat_natCast]); (first | done | rfl | simp [optS, stC]))
theorem s76k : (CtrOK Tryd.prog 76 (.gen .ps C76k) ∧ Callable Tryd.prog 76) := by
  refine gen_ok (E := E76k) (mkE_cons s69o (mkE_nil tab_ok)) mix (O := O76k) (C := C76k) (own := .ps) Tryd.func76 rfl (by rfl) (by kernel_rfl) (fun args K h hbd => ?_)
  unfold C76k at h; split at h
  case h_2 => exact h.elim
  exact ⟨Nat.le_of_ble_eq_true rfl, a76k ⟨_, _, _, _, _⟩ _ ⟨_, _, _, _, _⟩ (by exact hbd) _ h⟩
noncomputable def c74k (n : Nd) (b : Bs) (x : Nd) (K : AV → List AV → Prop) : Prop :=
    Obl ((smN n ∧ smN x) ∧ n.kids.length ≤ 1000000 ∧ n.names.length ≤ 1000000 ∧ evenN n) (K (optN (addHereM n b x)) [])
noncomputable def C74k : List AV → (AV → List AV → Prop) → Prop
  | [.st [.int .i64 n_0, .int .i64 n_1, .str n_2, .ps .str n_3, .ps .node n_4], .str b, .st [.int .i64 x_0, .int .i64 x_1, .str x_2, .ps .str x_3, .ps .node x_4]], K => c74k ⟨n_0, n_1, n_2, n_3, n_4⟩ b ⟨x_0, x_1, x_2, x_3, x_4⟩ K
  | _, _ => False
noncomputable def E74k : Ctx := mkE tab [(69, .gen .ps C69), (76, .gen .ps C76k), (93, .pure F93)]
noncomputable def O74k : Nat → List DI := ordL [(7, [.q 1, .q 2, .q 3, .q 4, .q 6, .l 0 [2, 4, 6], .l 5 [6], .l 7 [], .l 8 [], .l 9 [], .q 10])]
theorem a74k (n : Nd) (b : Bs) (x : Nd) (hb : BdAs [.st (ndC n), .str b, .st (ndC x)]) (K : AV → List AV → Prop) (h : c74k n b x K) : abody E74k O74k .ps Tryd.f74 (Tryd.f74.body.getD .skip) [.st (ndC n), .str b, .st (ndC x)] K := by
  simp only [BdAs, BdA, BdL, BdC, MX, ndC, shC, itC, stC, opC, chC, nwC, flC, rqC, rsC, enc, List.cons_append, List.nil_append, and_true, true_and] at hb
  unfold c74k at h
  obtain ⟨⟨⟨hn, hx⟩, hl⟩, hK⟩ := h
  have hge := slotM_ge n b
  have hev : n.kind = 4 → n.names.length = n.kids.length := hl.2.2
  conv => whnf
  repeat' first
    | (refine Cnd.mk (fun h => ?_) (fun h => ?_) <;> (try simp [etas, elDef, -List.getD_eq_getElem?_getD] at h) <;> conv => whnf)
    | (refine Obl.mk (by first | omega | rfl | exact inK_byte _ | (simp only [inK, Int.toNat_natCast, etas, elDef, m69, o93] <;> first | omega | grind) | grind [inK, m69, o93]) ?_ <;> conv => whnf)
    | (refine OblG.mk (by conv => whnf
                          repeat (first | (refine Bx.mk ?_) | (intro h; (try simp [etas, elDef, -List.getD_eq_getElem?_getD] at h); conv => whnf))
                          first | omega | rfl | exact inK_byte _ | (simp only [inK, Int.toNat_natCast, etas, elDef, m69, o93] <;> first | omega | grind) | grind [inK, m69, o93]) ?_ <;> conv => whnf)
    | (refine Gd.mk (fun h => ?_) <;> (try simp [etas, elDef, -List.getD_eq_getElem?_getD] at h) <;> conv => whnf)
    | (refine And.intro ?_ ?_ <;> conv => whnf)
    | exact True.intro
    | (intro; conv => whnf)
  · have e : addHereM n b x = none := by unfold addHereM; rw [if_pos h]
    exact leafV hK (by rw [e]; (try simp only [etas, elDef, Int.toNat_natCast]); (first | done | rfl | simp [optS, stC]))
  · have e : addHereM n b x = some (withKidM n (slotM n b).1.toNat x) := by unfold addHereM; rw [if_neg (by omega), if_pos h]
    exact leafV hK (by rw [e]; simp only [optN, Option.getD_some, Option.isSome_some]; (try simp only [etas, elDef, Int.toNat_natCast]); (first | done | rfl | simp [optS, stC]))
  · have e : addHereM n b x = some ⟨n.kind, 0, [], [], insM n.kids (slotM n b).1.toNat x⟩ := by unfold addHereM; rw [if_neg (by omega), if_neg (by grind), if_pos h]
    exact leafV hK (by rw [e]; simp [optN, ndC, enc, insM, nd_eta])
  · have e : addHereM n b x = some ⟨n.kind, 0, [], insM n.names (slotM n b).1.toNat b, insM n.kids (slotM n b).1.toNat x⟩ := by unfold addHereM; rw [if_neg (by omega), if_neg (by grind), if_neg h]
    exact leafV hK (by rw [e]; simp [optN, ndC, enc, insM, nd_eta])
theorem s74k : (CtrOK Tryd.prog 74 (.gen .ps C74k) ∧ Callable Tryd.prog 74) := by
  refine gen_ok (E := E74k) (mkE_cons s69 (mkE_cons s76k (mkE_cons s93 (mkE_nil tab_ok)))) mix (O := O74k) (C := C74k) (own := .ps) Tryd.func74 rfl (by rfl) (by kernel_rfl) (fun args K h hbd => ?_)
  unfold C74k at h; split at h
  case h_2 => exact h.elim
  exact ⟨Nat.le_of_ble_eq_true rfl, a74k ⟨_, _, _, _, _⟩ _ ⟨_, _, _, _, _⟩ (by exact hbd) _ h⟩
noncomputable def c63 (n : Nd) (p : List Bs) (x : Nd) (K : AV → List AV → Prop) : Prop :=
    Obl (okN n ∧ smN x) (K (optN (setAtM n p x)) [])
noncomputable def m63 (n : Nd) (p : List Bs) (x : Nd) : Nat := p.length
noncomputable def C63 : List AV → (AV → List AV → Prop) → Prop
  | [.st [.int .i64 n_0, .int .i64 n_1, .str n_2, .ps .str n_3, .ps .node n_4], .ps .str p, .st [.int .i64 x_0, .int .i64 x_1, .str x_2, .ps .str x_3, .ps .node x_4]], K => c63 ⟨n_0, n_1, n_2, n_3, n_4⟩ p ⟨x_0, x_1, x_2, x_3, x_4⟩ K
  | _, _ => False
noncomputable def Ck63 (k : Nat) : List AV → (AV → List AV → Prop) → Prop
  | [.st [.int .i64 n_0, .int .i64 n_1, .str n_2, .ps .str n_3, .ps .node n_4], .ps .str p, .st [.int .i64 x_0, .int .i64 x_1, .str x_2, .ps .str x_3, .ps .node x_4]], K => Obl (m63 ⟨n_0, n_1, n_2, n_3, n_4⟩ p ⟨x_0, x_1, x_2, x_3, x_4⟩ < k) (c63 ⟨n_0, n_1, n_2, n_3, n_4⟩ p ⟨x_0, x_1, x_2, x_3, x_4⟩ K)
  | _, _ => False
noncomputable def E63 (k : Nat) : Ctx := mkE tab [(62, .pure F62), (63, .gen .ps (Ck63 k)), (69, .gen .ps C69), (76, .gen .ps C76k)]
noncomputable def O63 : Nat → List DI := ordL [(3, [.q 0, .q 1, .q 2, .q 3, .q 4, .q 5]), (6, [.q 0, .q 1, .q 2, .q 3, .q 4, .q 5, .q 6, .q 7, .l 8 [], .q 9, .q 10, .q 11, .a 12, .l 13 [], .q 14])]
theorem a63 (k : Nat) (n : Nd) (p : List Bs) (x : Nd) (hm : m63 n p x < k + 1) (hb : BdAs [.st (ndC n), .ps .str p, .st (ndC x)]) (K : AV → List AV → Prop) (h : c63 n p x K) : abody (E63 k) O63 .ps Tryd.f63 (Tryd.f63.body.getD .skip) [.st (ndC n), .ps .str p, .st (ndC x)] K := by
  simp only [BdAs, BdA, BdL, BdC, MX, ndC, shC, itC, stC, opC, chC, nwC, flC, rqC, rsC, enc, List.cons_append, List.nil_append, and_true, true_and] at hb
  unfold c63 at h
  unfold m63 at hm
  obtain ⟨⟨ho, hx⟩, hK⟩ := h
  have h6 := okN_kids ho
  have h5 := (okN_names ho).2.1
  have hsm := ho.sm
  have hpl := placeM_ge n (p.getD 0 [])
  have hok := fun h => okN_kid ho (j := (placeM n (p.getD 0 [])).toNat) h
  have hsa := fun h => setAtM_get_sm (p := p.drop 1) (okN_kid ho (j := (placeM n (p.getD 0 [])).toNat) h).sm hx
  rcases Nat.eq_zero_or_pos p.length with h0 | h0
  · obtain rfl := List.length_eq_zero_iff.1 h0
    conv => whnf
    repeat' first
      | (refine Cnd.mk (fun h => ?_) (fun h => ?_) <;> (try simp [etas, elDef, -List.getD_eq_getElem?_getD] at h) <;> conv => whnf)
      | (refine Obl.mk (by first | omega | rfl | exact inK_byte _ | (simp only [inK, Int.toNat_natCast, etas, elDef, m63, o62, m63, m69] <;> first | omega | grind) | grind [inK, m63, o62, m63, m69]) ?_ <;> conv => whnf)
      | (refine OblG.mk (by conv => whnf
                            repeat (first | (refine Bx.mk ?_) | (intro h; (try simp [etas, elDef, -List.getD_eq_getElem?_getD] at h); conv => whnf))
                            first | omega | rfl | exact inK_byte _ | (simp only [inK, Int.toNat_natCast, etas, elDef, m63, o62, m63, m69] <;> first | omega | grind) | grind [inK, m63, o62, m63, m69]) ?_ <;> conv => whnf)
      | (refine Gd.mk (fun h => ?_) <;> (try simp [etas, elDef, -List.getD_eq_getElem?_getD] at h) <;> conv => whnf)
      | (refine And.intro ?_ ?_ <;> conv => whnf)
      | exact True.intro
      | (intro; conv => whnf)
    · exact leafV hK (by simp only [setAtM, optN, Option.getD_some, Option.isSome_some, ndC, enc])
    all_goals (exfalso; simp_all)
  · have e0 := setAtM_at (n := n) (x := x) h0
    rw [List.drop_one] at hsa e0
    have el : List.drop (Int.toNat 1) (List.take p.length p) = p.tail := by simp
    rw [← el] at hsa
    have hsa2 := fun h1 => hsa h1
    conv => whnf
    repeat' first
      | (refine Cnd.mk (fun h => ?_) (fun h => ?_) <;> (try simp [etas, elDef, -List.getD_eq_getElem?_getD] at h) <;> conv => whnf)
      | (refine Obl.mk (by first | omega | rfl | exact inK_byte _ | (simp only [inK, Int.toNat_natCast, etas, elDef, m63, o62, m63, m69] <;> first | omega | grind) | grind [inK, m63, o62, m63, m69]) ?_ <;> conv => whnf)
      | (refine OblG.mk (by conv => whnf
                            repeat (first | (refine Bx.mk ?_) | (intro h; (try simp [etas, elDef, -List.getD_eq_getElem?_getD] at h); conv => whnf))
                            first | omega | rfl | exact inK_byte _ | (simp only [inK, Int.toNat_natCast, etas, elDef, m63, o62, m63, m69] <;> first | omega | grind) | grind [inK, m63, o62, m63, m69]) ?_ <;> conv => whnf)
      | (refine Gd.mk (fun h => ?_) <;> (try simp [etas, elDef, -List.getD_eq_getElem?_getD] at h) <;> conv => whnf)
      | (refine And.intro ?_ ?_ <;> conv => whnf)
      | exact True.intro
      | (intro; conv => whnf)
    · exfalso; subst h; simp at h0
    · have e : setAtM n p x = none := by rw [e0, if_pos h]
      exact leafV hK (by rw [e]; rfl)
    · have e : setAtM n p x = none := by rw [e0, if_neg (by omega), h]; rfl
      exact leafV hK (by rw [e]; rfl)
    · obtain ⟨m, hm⟩ := Option.isSome_iff_exists.1 h
      have e : setAtM n p x = some (withKidM n (placeM n (p.getD 0 [])).toNat m) := by rw [e0, if_neg (by omega), hm]; rfl
      refine leafV hK ?_
      rw [e]
      simp only [optN, Option.getD_some, Option.isSome_some, nd_eta, elDef, Int.toNat_zero, Int.toNat_natCast, List.take_length, List.drop_one, Int.toNat_one, hm]
      first | done | rfl
theorem r63 : ∀ k, (CtrOK Tryd.prog 63 (.gen .ps (Ck63 k)) ∧ Callable Tryd.prog 63) := by
  intro k
  induction k with
  | zero =>
    exact ⟨fun args K h => by
        unfold Ck63 at h; split at h
        · exact absurd h.o (Nat.not_lt_zero _)
        · exact h.elim, callable Tryd.func63 rfl (by rfl)⟩
  | succ k ih =>
    refine gen_ok (E := E63 k) (mkE_cons s62 (mkE_cons ih (mkE_cons s69 (mkE_cons s76k (mkE_nil tab_ok))))) mix (O := O63) (C := (Ck63 (k + 1))) (own := .ps) Tryd.func63 rfl (by rfl) (by kernel_rfl) (fun args K h hbd => ?_)
    unfold Ck63 at h; split at h
    case h_2 => exact h.elim
    exact ⟨Nat.le_of_ble_eq_true rfl, a63 k ⟨_, _, _, _, _⟩ _ ⟨_, _, _, _, _⟩ h.o (by exact hbd) _ h.k⟩
theorem s63 : (CtrOK Tryd.prog 63 (.gen .ps C63) ∧ Callable Tryd.prog 63) := by
  refine ⟨fun args K h => ?_, (r63 0).2⟩
  unfold C63 at h; split at h
  · exact (r63 (m63 ⟨_, _, _, _, _⟩ _ ⟨_, _, _, _, _⟩ + 1)).1 _ K ⟨Nat.lt_succ_self _, h⟩
  · exact h.elim
noncomputable def c33 (n : Nd) (b : Bool) (K : AV → List AV → Prop) : Prop :=
    K (optN (if b && validM n then some n else none)) []
noncomputable def C33 : List AV → (AV → List AV → Prop) → Prop
  | [.st [.int .i64 n_0, .int .i64 n_1, .str n_2, .ps .str n_3, .ps .node n_4], .bool b], K => c33 ⟨n_0, n_1, n_2, n_3, n_4⟩ b K
  | _, _ => False
noncomputable def E33 : Ctx := mkE tab [(31, .pure F31)]
noncomputable def O33 : Nat → List DI := ordL []
theorem a33 (n : Nd) (b : Bool) (hb : BdAs [.st (ndC n), .bool b]) (K : AV → List AV → Prop) (h : c33 n b K) : abody E33 O33 .ps Tryd.f33 (Tryd.f33.body.getD .skip) [.st (ndC n), .bool b] K := by
  simp only [BdAs, BdA, BdL, BdC, MX, ndC, shC, itC, stC, opC, chC, nwC, flC, rqC, rsC, enc, List.cons_append, List.nil_append, and_true, true_and] at hb
  unfold c33 at h
  have hK9 := h
  conv => whnf
  repeat' first
    | (refine Cnd.mk (fun h => ?_) (fun h => ?_) <;> (try simp [etas, elDef, -List.getD_eq_getElem?_getD] at h) <;> conv => whnf)
    | (refine Obl.mk (by first | omega | rfl | exact inK_byte _ | (simp only [inK, Int.toNat_natCast, etas, elDef] <;> first | omega | grind) | grind [inK]) ?_ <;> conv => whnf)
    | (refine OblG.mk (by conv => whnf
                          repeat (first | (refine Bx.mk ?_) | (intro h; (try simp [etas, elDef, -List.getD_eq_getElem?_getD] at h); conv => whnf))
                          first | omega | rfl | exact inK_byte _ | (simp only [inK, Int.toNat_natCast, etas, elDef] <;> first | omega | grind) | grind [inK]) ?_ <;> conv => whnf)
    | (refine Gd.mk (fun h => ?_) <;> (try simp [etas, elDef, -List.getD_eq_getElem?_getD] at h) <;> conv => whnf)
    | (refine And.intro ?_ ?_ <;> conv => whnf)
    | exact True.intro
    | (intro; conv => whnf)
  · exact leafV hK9 (by rw [if_neg (by grind)]; rfl)
  · exact leafV hK9 (by rw [if_pos (by grind)]; rfl)
theorem s33 : (CtrOK Tryd.prog 33 (.gen .ps C33) ∧ Callable Tryd.prog 33) := by
  refine gen_ok (E := E33) (mkE_cons s31 (mkE_nil tab_ok)) mix (O := O33) (C := C33) (own := .ps) Tryd.func33 rfl (by rfl) (by kernel_rfl) (fun args K h hbd => ?_)
  unfold C33 at h; split at h
  case h_2 => exact h.elim
  exact ⟨Nat.le_of_ble_eq_true rfl, a33 ⟨_, _, _, _, _⟩ _ (by exact hbd) _ h⟩
noncomputable def c48 (n : Nd) (p : List Bs) (x : Nd) (K : AV → List AV → Prop) : Prop :=
    Obl (okN n ∧ smN x) (K (optN (addAtM n p x)) [])
noncomputable def C48 : List AV → (AV → List AV → Prop) → Prop
  | [.st [.int .i64 n_0, .int .i64 n_1, .str n_2, .ps .str n_3, .ps .node n_4], .ps .str p, .st [.int .i64 x_0, .int .i64 x_1, .str x_2, .ps .str x_3, .ps .node x_4]], K => c48 ⟨n_0, n_1, n_2, n_3, n_4⟩ p ⟨x_0, x_1, x_2, x_3, x_4⟩ K
  | _, _ => False
noncomputable def E48 : Ctx := mkE tab [(61, .gen .ps C61), (63, .gen .ps C63), (69, .gen .ps C69), (74, .gen .ps C74k)]
noncomputable def O48 : Nat → List DI := ordL [(4, [.q 0, .q 1, .q 2, .q 3, .l 4 [], .q 5, .q 6, .q 7, .a 8, .l 9 [], .q 10]), (7, [.q 0, .q 1, .q 2, .q 3, .q 4, .q 5, .l 6 [], .q 7, .q 8, .q 9, .a 10, .l 11 [], .q 12]), (10, [.q 0, .q 1, .q 2, .q 3, .q 4, .l 5 [], .q 6, .q 7, .l 8 [], .q 9])]
theorem a48 (n : Nd) (p : List Bs) (x : Nd) (hb : BdAs [.st (ndC n), .ps .str p, .st (ndC x)]) (K : AV → List AV → Prop) (h : c48 n p x K) : abody E48 O48 .ps Tryd.f48 (Tryd.f48.body.getD .skip) [.st (ndC n), .ps .str p, .st (ndC x)] K := by
  simp only [BdAs, BdA, BdL, BdC, MX, ndC, shC, itC, stC, opC, chC, nwC, flC, rqC, rsC, enc, List.cons_append, List.nil_append, and_true, true_and] at hb
  unfold c48 at h
  obtain ⟨⟨ho, hx⟩, hK⟩ := h
  have el := front_eq p
  have hin := find_get_ok ho (List.drop (Int.toNat 0) (List.take ((p.length : Int) - 1).toNat p))
  have hi1 := hin.sm
  have hi2 := okN_kids hin
  have hi3 := (okN_names hin).1
  have hi4 := okN_even hin
  have hh := here_get_sm hin hx (p.getD ((p.length : Int) - 1).toNat [])
  rcases Nat.eq_zero_or_pos p.length with h0 | h0
  · obtain rfl := List.length_eq_zero_iff.1 h0
    conv => whnf
    repeat' first
      | (refine Cnd.mk (fun h => ?_) (fun h => ?_) <;> (try simp [etas, elDef, -List.getD_eq_getElem?_getD] at h) <;> conv => whnf)
      | (refine Obl.mk (by first | omega | rfl | exact inK_byte _ | (simp only [inK, Int.toNat_natCast, etas, elDef, m63, m69] <;> first | omega | grind) | grind [inK, m63, m69]) ?_ <;> conv => whnf)
      | (refine OblG.mk (by conv => whnf
                            repeat (first | (refine Bx.mk ?_) | (intro h; (try simp [etas, elDef, -List.getD_eq_getElem?_getD] at h); conv => whnf))
                            first | omega | rfl | exact inK_byte _ | (simp only [inK, Int.toNat_natCast, etas, elDef, m63, m69] <;> first | omega | grind) | grind [inK, m63, m69]) ?_ <;> conv => whnf)
      | (refine Gd.mk (fun h => ?_) <;> (try simp [etas, elDef, -List.getD_eq_getElem?_getD] at h) <;> conv => whnf)
      | (refine And.intro ?_ ?_ <;> conv => whnf)
      | exact True.intro
      | (intro; conv => whnf)
    · exact leafV hK (by simp only [addAtM, if_true, optN, Option.getD_some, Option.isSome_some, ndC, enc])
    all_goals (exfalso; simp_all)
  · have hp : p ≠ [] := by rintro rfl; simp at h0
    have hl : p.getD (p.length - 1) [] = lastD p := rfl
    conv => whnf
    repeat' first
      | (refine Cnd.mk (fun h => ?_) (fun h => ?_) <;> (try simp [etas, elDef, -List.getD_eq_getElem?_getD] at h) <;> conv => whnf)
      | (refine Obl.mk (by first | omega | rfl | exact inK_byte _ | (simp only [inK, Int.toNat_natCast, etas, elDef, m63, m69] <;> first | omega | grind) | grind [inK, m63, m69]) ?_ <;> conv => whnf)
      | (refine OblG.mk (by conv => whnf
                            repeat (first | (refine Bx.mk ?_) | (intro h; (try simp [etas, elDef, -List.getD_eq_getElem?_getD] at h); conv => whnf))
                            first | omega | rfl | exact inK_byte _ | (simp only [inK, Int.toNat_natCast, etas, elDef, m63, m69] <;> first | omega | grind) | grind [inK, m63, m69]) ?_ <;> conv => whnf)
      | (refine Gd.mk (fun h => ?_) <;> (try simp [etas, elDef, -List.getD_eq_getElem?_getD] at h) <;> conv => whnf)
      | (refine And.intro ?_ ?_ <;> conv => whnf)
      | exact True.intro
      | (intro; conv => whnf)
    · exact absurd h hp
    · have e : addAtM n p x = none := by unfold addAtM; rw [if_neg hp, h]
      exact leafV hK (by rw [e]; rfl)
    · have hs : (findM n (List.take (p.length - 1) p)).isSome = true := by assumption
      obtain ⟨m, hm⟩ := Option.isSome_iff_exists.1 hs
      rw [hm, Option.getD_some, hl] at h
      have e : addAtM n p x = none := by unfold addAtM; rw [if_neg hp, hm]; dsimp only; rw [h]
      exact leafV hK (by rw [e]; rfl)
    · have hs : (findM n (List.take (p.length - 1) p)).isSome = true := by assumption
      obtain ⟨m, hm⟩ := Option.isSome_iff_exists.1 hs
      rw [hm, Option.getD_some, hl] at h
      obtain ⟨y, hy⟩ := Option.isSome_iff_exists.1 h
      have e : addAtM n p x = setAtM n (p.take (p.length - 1)) y := by unfold addAtM; rw [if_neg hp, hm]; dsimp only; rw [hy]
      have e5 : ((p.length : Int) - 1).toNat = p.length - 1 := by omega
      refine leafV hK ?_
      rw [e]
      simp only [optN, nd_eta, elDef, e5, Int.toNat_zero, List.drop_zero, hm, Option.getD_some, hl, hy]
      first | done | rfl
theorem s48 : (CtrOK Tryd.prog 48 (.gen .ps C48) ∧ Callable Tryd.prog 48) := by
  refine gen_ok (E := E48) (mkE_cons s61 (mkE_cons s63 (mkE_cons s69 (mkE_cons s74k (mkE_nil tab_ok))))) mix (O := O48) (C := C48) (own := .ps) Tryd.func48 rfl (by rfl) (by kernel_rfl) (fun args K h hbd => ?_)
  unfold C48 at h; split at h
  case h_2 => exact h.elim
  exact ⟨Nat.le_of_ble_eq_true rfl, a48 ⟨_, _, _, _, _⟩ _ ⟨_, _, _, _, _⟩ (by exact hbd) _ h⟩
end Go.Rs

