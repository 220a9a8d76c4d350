import Derived.Test.YtbaknkjebncbbaaDoorCP
set_option linter.all false
namespace Go.Rs
open Go.Proofs
set_option maxRecDepth 100000
set_option linter.unusedVariables false
set_option linter.unusedSimpArgs false
noncomputable def c42 (n : Nd) (p : List Bs) (K : AV → List AV → Prop) : Prop :=
    Obl (okN n) (K (optN (findM n p)) [])
noncomputable def C42 : List AV → (AV → List AV → Prop) → Prop
  | [.st [.int .i64 n_0, .int .i64 n_1, .str n_2, .ps .str n_3, .ps .node n_4], .ps .str p], K => c42 ⟨n_0, n_1, n_2, n_3, n_4⟩ p K
  | _, _ => False
noncomputable def E42 : Ctx := mkE tab [(51, .pure F51)]
noncomputable def O42 : Nat → List DI := ordL []
theorem a42 (n : Nd) (p : List Bs) (hb : BdAs [.st (ndC n), .ps .str p]) (K : AV → List AV → Prop) (h : c42 n p K) : abody E42 O42 .ps Tryd.f42 (Tryd.f42.body.getD .skip) [.st (ndC n), .ps .str p] K := by
  simp only [BdAs, BdA, BdL, BdC, MX, ndC, shC, itC, stC, opC, chC, nwC, flC, rqC, rsC, enc, List.cons_append, List.nil_append, and_true, true_and] at hb
  unfold c42 at h
  obtain ⟨ho, hK⟩ := h
  conv => whnf
  repeat' first
    | (refine Cnd.mk (fun h => ?_) (fun h => ?_) <;> (try simp [etas, elDef, -List.getD_eq_getElem?_getD] at h) <;> conv => whnf)
    | (refine Obl.mk (by first | omega | rfl | exact inK_byte _ | (simp only [inK, Int.toNat_natCast, etas, elDef, o51] <;> first | omega | grind) | grind [inK, o51]) ?_ <;> conv => whnf)
    | (refine OblG.mk (by conv => whnf
                          repeat (first | (refine Bx.mk ?_) | (intro h; (try simp [etas, elDef, -List.getD_eq_getElem?_getD] at h); conv => whnf))
                          first | omega | rfl | exact inK_byte _ | (simp only [inK, Int.toNat_natCast, etas, elDef, o51] <;> first | omega | grind) | grind [inK, o51]) ?_ <;> conv => whnf)
    | (refine Gd.mk (fun h => ?_) <;> (try simp [etas, elDef, -List.getD_eq_getElem?_getD] at h) <;> conv => whnf)
    | (refine And.intro ?_ ?_ <;> conv => whnf)
    | exact True.intro
    | (intro; conv => whnf)
  refine aloop_intro (Nat × Nd) (fun q => q.1 ≤ p.length ∧ okN q.2 ∧ findM n p = findM q.2 (p.drop q.1)) (fun q => p.length - q.1) (fun q => [(12, .int .i64 q.1)]) (fun q => [(2, .box (ndC q.2))]) [4] (0, n) [] [] ⟨Nat.zero_le _, ho, rfl⟩ ?_ (by exact sgOk_of (by rfl)) ?_
  · (conv => whnf); (repeat' (first | exact trivial | rfl | (refine nilEq ?_; first | rfl | (simp only [*]; done) | (simp [*]; done) | grind) | apply And.intro | ((first | refine intEq ?_ | refine boolEq ?_ | refine strEq ?_ | refine psEq ?_ | refine nilEq ?_ | refine arrEq ?_); (try simp only [Int.toNat_natCast, etas, elDef]); first | done | omega | grind | (simp only [*]; done) | (simp [*]; done)))); (all_goals (conv => whnf)); (repeat' (first | exact trivial | rfl | (refine nilEq ?_; first | rfl | (simp only [*]; done) | (simp [*]; done) | grind) | apply And.intro | ((first | refine intEq ?_ | refine boolEq ?_ | refine strEq ?_ | refine psEq ?_ | refine nilEq ?_ | refine arrEq ?_); (try simp only [Int.toNat_natCast, etas, elDef]); first | done | omega | grind | (simp only [*]; done) | (simp [*]; done)) | ((try simp only [Int.toNat_natCast, etas, elDef]); first | done | omega | grind | (simp only [*]; done) | (simp [*]; done))))
  rintro ⟨i, m⟩ ⟨hi, hm, hj⟩
  dsimp only at hi hm hj
  have hst := fun h => findM_drop (n := m) (p := p) (i := i) h
  have hk := kidM_ok (b := p.getD i []) hm
  have hpl := placeM_ge m (p.getD i [])
  conv => whnf
  repeat' first
    | (refine Cnd.mk (fun h => ?_) (fun h => ?_) <;> (try simp [etas, elDef, -List.getD_eq_getElem?_getD] at h) <;> conv => whnf)
    | (refine Obl.mk (by first | omega | rfl | exact inK_byte _ | (simp only [inK, Int.toNat_natCast, etas, elDef, o51] <;> first | omega | grind) | grind [inK, o51]) ?_ <;> conv => whnf)
    | (refine OblG.mk (by conv => whnf
                          repeat (first | (refine Bx.mk ?_) | (intro h; (try simp [etas, elDef, -List.getD_eq_getElem?_getD] at h); conv => whnf))
                          first | omega | rfl | exact inK_byte _ | (simp only [inK, Int.toNat_natCast, etas, elDef, o51] <;> first | omega | grind) | grind [inK, o51]) ?_ <;> conv => whnf)
    | (refine Gd.mk (fun h => ?_) <;> (try simp [etas, elDef, -List.getD_eq_getElem?_getD] at h) <;> conv => whnf)
    | (refine And.intro ?_ ?_ <;> conv => whnf)
    | exact True.intro
    | (intro; conv => whnf)
  · have hp : placeM m (p.getD i []) < 0 := by have := hk.1; grind
    have e : findM n p = none := by rw [hj, hst (by assumption), if_pos hp]
    exact leafV hK (by rw [e]; rfl)
  · have hp : ¬ placeM m (p.getD i []) < 0 := by have := hk.1; grind
    have e1 := hk.2 (by assumption)
    have e : findM n p = findM (m.kids.getD (kidM m (p.getD i [])).1.toNat default) (p.drop (i + 1)) := by rw [hj, hst (by assumption), if_neg hp, e1]
    exact ⟨(i + 1, m.kids.getD (kidM m (p.getD i [])).1.toNat default), [], [], ⟨by simp only; omega, okN_kid hm (by omega), e⟩, by simp only; omega, by (conv => whnf); (repeat' (first | exact trivial | rfl | (refine nilEq ?_; first | rfl | (simp only [*]; done) | (simp [*]; done) | grind) | apply And.intro | ((first | refine intEq ?_ | refine boolEq ?_ | refine strEq ?_ | refine psEq ?_ | refine nilEq ?_ | refine arrEq ?_); (try simp only [Int.toNat_natCast, etas, elDef]); first | done | omega | grind | (simp only [*]; done) | (simp [*]; done)))); (all_goals (conv => whnf)); (repeat' (first | exact trivial | rfl | (refine nilEq ?_; first | rfl | (simp only [*]; done) | (simp [*]; done) | grind) | apply And.intro | ((first | refine intEq ?_ | refine boolEq ?_ | refine strEq ?_ | refine psEq ?_ | refine nilEq ?_ | refine arrEq ?_); (try simp only [Int.toNat_natCast, etas, elDef]); first | done | omega | grind | (simp only [*]; done) | (simp [*]; done)) | ((try simp only [Int.toNat_natCast, etas, elDef]); first | done | omega | grind | (simp only [*]; done) | (simp [*]; done)))), (by exact sgOk_of (by rfl))⟩
  · have e : findM n p = some m := by rw [hj, List.drop_of_length_le (by omega)]; rfl
    exact leafV hK (by rw [e]; rfl)
theorem s42 : (CtrOK Tryd.prog 42 (.gen .ps C42) ∧ Callable Tryd.prog 42) := by
  refine gen_ok (E := E42) (mkE_cons s51 (mkE_nil tab_ok)) mix (O := O42) (C := C42) (own := .ps) Tryd.func42 rfl (by rfl) (by kernel_rfl) (fun args K h hbd => ?_)
  unfold C42 at h; split at h
  case h_2 => exact h.elim
  exact ⟨Nat.le_of_ble_eq_true rfl, a42 ⟨_, _, _, _, _⟩ _ (by exact hbd) _ h⟩
noncomputable def c17 (n : Nd) (p : List Bs) (K : AV → List AV → Prop) : Prop :=
    K (optN (nodeAtM n p)) []
noncomputable def C17 : List AV → (AV → List AV → Prop) → Prop
  | [.st [.int .i64 n_0, .int .i64 n_1, .str n_2, .ps .str n_3, .ps .node n_4], .ps .str p], K => c17 ⟨n_0, n_1, n_2, n_3, n_4⟩ p K
  | _, _ => False
noncomputable def E17 : Ctx := mkE tab [(21, .pure F21), (25, .pure F25), (26, .gen .ow C26), (42, .gen .ps C42)]
noncomputable def O17 : Nat → List DI := ordL []
theorem a17 (n : Nd) (p : List Bs) (hb : BdAs [.st (ndC n), .ps .str p]) (K : AV → List AV → Prop) (h : c17 n p K) : abody E17 O17 .ps Tryd.f17 (Tryd.f17.body.getD .skip) [.st (ndC n), .ps .str p] K := by
  simp only [BdAs, BdA, BdL, BdC, MX, ndC, shC, itC, stC, opC, chC, nwC, flC, rqC, rsC, enc, List.cons_append, List.nil_append, and_true, true_and] at hb
  unfold c17 at h
  have hK := h
  have h1 := fun h => validM_ok (n := n) h
  have h2 := fun (h : validM n = true) m (e : findM n p = some m) => (findM_ok (validM_ok h) e).sm
  have h3 : ∀ h : validM n = true, smN ((findM n p).getD default) := fun h => by
    cases e : findM n p with
    | none => exact smN_default
    | some m => exact h2 h m e
  conv => whnf
  repeat' first
    | (refine Cnd.mk (fun h => ?_) (fun h => ?_) <;> (try simp [etas, elDef, -List.getD_eq_getElem?_getD] at h) <;> conv => whnf)
    | (refine Obl.mk (by first | omega | rfl | exact inK_byte _ | (simp only [inK, Int.toNat_natCast, etas, elDef, m26] <;> first | omega | grind) | grind [inK, m26]) ?_ <;> conv => whnf)
    | (refine OblG.mk (by conv => whnf
                          repeat (first | (refine Bx.mk ?_) | (intro h; (try simp [etas, elDef, -List.getD_eq_getElem?_getD] at h); conv => whnf))
                          first | omega | rfl | exact inK_byte _ | (simp only [inK, Int.toNat_natCast, etas, elDef, m26] <;> first | omega | grind) | grind [inK, m26]) ?_ <;> conv => whnf)
    | (refine Gd.mk (fun h => ?_) <;> (try simp [etas, elDef, -List.getD_eq_getElem?_getD] at h) <;> conv => whnf)
    | (refine And.intro ?_ ?_ <;> conv => whnf)
    | exact True.intro
    | (intro; conv => whnf)
  · have e : nodeAtM n p = none := by grind [nodeAtM]
    exact leafV hK (by rw [e]; rfl)
  · have e : nodeAtM n p = none := by grind [nodeAtM]
    exact leafV hK (by rw [e]; rfl)
  · have e : nodeAtM n p = findM n p := by grind [nodeAtM]
    exact leafV hK (by simp only [optN, ndC, nd_eta, e, h])
theorem s17 : (CtrOK Tryd.prog 17 (.gen .ps C17) ∧ Callable Tryd.prog 17) := by
  refine gen_ok (E := E17) (mkE_cons s21 (mkE_cons s25 (mkE_cons s26 (mkE_cons s42 (mkE_nil tab_ok))))) mix (O := O17) (C := C17) (own := .ps) Tryd.func17 rfl (by rfl) (by kernel_rfl) (fun args K h hbd => ?_)
  unfold C17 at h; split at h
  case h_2 => exact h.elim
  exact ⟨Nat.le_of_ble_eq_true rfl, a17 ⟨_, _, _, _, _⟩ _ (by exact hbd) _ h⟩
noncomputable def c77 (n : Nd) (p : List Bs) (K : AV → List AV → Prop) : Prop :=
    Obl (okN n) (K (optN (findM n p)) [])
noncomputable def C77 : List AV → (AV → List AV → Prop) → Prop
  | [.st [.int .i64 n_0, .int .i64 n_1, .str n_2, .ps .str n_3, .ps .node n_4], .ps .str p], K => c77 ⟨n_0, n_1, n_2, n_3, n_4⟩ p K
  | _, _ => False
noncomputable def E77 : Ctx := mkE tab [(45, .gen .ps C45), (81, .pure F81)]
noncomputable def O77 : Nat → List DI := ordL [(4, [.q 0, .q 1, .q 2, .q 3, .q 4, .q 5, .q 6])]
theorem a77 (n : Nd) (p : List Bs) (hb : BdAs [.st (ndC n), .ps .str p]) (K : AV → List AV → Prop) (h : c77 n p K) : abody E77 O77 .ps Tryd.f77 (Tryd.f77.body.getD .skip) [.st (ndC n), .ps .str p] K := by
  simp only [BdAs, BdA, BdL, BdC, MX, ndC, shC, itC, stC, opC, chC, nwC, flC, rqC, rsC, enc, List.cons_append, List.nil_append, and_true, true_and] at hb
  unfold c77 at h
  obtain ⟨ho, hK⟩ := h
  conv => whnf
  repeat' first
    | (refine Cnd.mk (fun h => ?_) (fun h => ?_) <;> (try simp [etas, elDef, -List.getD_eq_getElem?_getD] at h) <;> conv => whnf)
    | (refine Obl.mk (by first | omega | rfl | exact inK_byte _ | (simp only [inK, Int.toNat_natCast, etas, elDef, m45, o81] <;> first | omega | grind) | grind [inK, m45, o81]) ?_ <;> conv => whnf)
    | (refine OblG.mk (by conv => whnf
                          repeat (first | (refine Bx.mk ?_) | (intro h; (try simp [etas, elDef, -List.getD_eq_getElem?_getD] at h); conv => whnf))
                          first | omega | rfl | exact inK_byte _ | (simp only [inK, Int.toNat_natCast, etas, elDef, m45, o81] <;> first | omega | grind) | grind [inK, m45, o81]) ?_ <;> conv => whnf)
    | (refine Gd.mk (fun h => ?_) <;> (try simp [etas, elDef, -List.getD_eq_getElem?_getD] at h) <;> conv => whnf)
    | (refine And.intro ?_ ?_ <;> conv => whnf)
    | exact True.intro
    | (intro; conv => whnf)
  refine aloop_intro (Nat × Nd) (fun q => q.1 ≤ p.length ∧ okN q.2 ∧ findM n p = findM q.2 (p.drop q.1)) (fun q => p.length - q.1) (fun q => [(6, .int .i64 q.1)]) (fun q => [(2, .box (ndC q.2))]) [4] (0, n) [] [] ⟨Nat.zero_le _, ho, rfl⟩ ?_ (by exact sgOk_of (by rfl)) ?_
  · (conv => whnf); (repeat' (first | exact trivial | rfl | (refine nilEq ?_; first | rfl | (simp only [*]; done) | (simp [*]; done) | grind) | apply And.intro | ((first | refine intEq ?_ | refine boolEq ?_ | refine strEq ?_ | refine psEq ?_ | refine nilEq ?_ | refine arrEq ?_); (try simp only [Int.toNat_natCast, etas, elDef]); first | done | omega | grind | (simp only [*]; done) | (simp [*]; done)))); (all_goals (conv => whnf)); (repeat' (first | exact trivial | rfl | (refine nilEq ?_; first | rfl | (simp only [*]; done) | (simp [*]; done) | grind) | apply And.intro | ((first | refine intEq ?_ | refine boolEq ?_ | refine strEq ?_ | refine psEq ?_ | refine nilEq ?_ | refine arrEq ?_); (try simp only [Int.toNat_natCast, etas, elDef]); first | done | omega | grind | (simp only [*]; done) | (simp [*]; done)) | ((try simp only [Int.toNat_natCast, etas, elDef]); first | done | omega | grind | (simp only [*]; done) | (simp [*]; done))))
  rintro ⟨i, m⟩ ⟨hi, hm, hj⟩
  dsimp only at hi hm hj
  have hst := fun h => findM_drop (n := m) (p := p) (i := i) h
  have hpl := placeM_ge m (p.getD i [])
  have h6 := okN_kids hm
  have h5 := (okN_names hm).2.1
  have hsm := hm.sm
  conv => whnf
  repeat' first
    | (refine Cnd.mk (fun h => ?_) (fun h => ?_) <;> (try simp [etas, elDef, -List.getD_eq_getElem?_getD] at h) <;> conv => whnf)
    | (refine Obl.mk (by first | omega | rfl | exact inK_byte _ | (simp only [inK, Int.toNat_natCast, etas, elDef, m45, o81] <;> first | omega | grind) | grind [inK, m45, o81]) ?_ <;> conv => whnf)
    | (refine OblG.mk (by conv => whnf
                          repeat (first | (refine Bx.mk ?_) | (intro h; (try simp [etas, elDef, -List.getD_eq_getElem?_getD] at h); conv => whnf))
                          first | omega | rfl | exact inK_byte _ | (simp only [inK, Int.toNat_natCast, etas, elDef, m45, o81] <;> first | omega | grind) | grind [inK, m45, o81]) ?_ <;> conv => whnf)
    | (refine Gd.mk (fun h => ?_) <;> (try simp [etas, elDef, -List.getD_eq_getElem?_getD] at h) <;> conv => whnf)
    | (refine And.intro ?_ ?_ <;> conv => whnf)
    | exact True.intro
    | (intro; conv => whnf)
  · have e : findM n p = none := by rw [hj, hst (by assumption), if_pos h]
    exact leafV hK (by rw [e]; rfl)
  · have e : findM n p = findM (m.kids.getD (placeM m (p.getD i [])).toNat default) (p.drop (i + 1)) := by rw [hj, hst (by assumption), if_neg (by omega)]
    exact ⟨(i + 1, m.kids.getD (placeM m (p.getD i [])).toNat default), [], [], ⟨by simp only; omega, okN_kid hm (by omega), e⟩, by simp only; omega, by (conv => whnf); (repeat' (first | exact trivial | rfl | (refine nilEq ?_; first | rfl | (simp only [*]; done) | (simp [*]; done) | grind) | apply And.intro | ((first | refine intEq ?_ | refine boolEq ?_ | refine strEq ?_ | refine psEq ?_ | refine nilEq ?_ | refine arrEq ?_); (try simp only [Int.toNat_natCast, etas, elDef]); first | done | omega | grind | (simp only [*]; done) | (simp [*]; done)))); (all_goals (conv => whnf)); (repeat' (first | exact trivial | rfl | (refine nilEq ?_; first | rfl | (simp only [*]; done) | (simp [*]; done) | grind) | apply And.intro | ((first | refine intEq ?_ | refine boolEq ?_ | refine strEq ?_ | refine psEq ?_ | refine nilEq ?_ | refine arrEq ?_); (try simp only [Int.toNat_natCast, etas, elDef]); first | done | omega | grind | (simp only [*]; done) | (simp [*]; done)) | ((try simp only [Int.toNat_natCast, etas, elDef]); first | done | omega | grind | (simp only [*]; done) | (simp [*]; done)))), (by exact sgOk_of (by rfl))⟩
  · have e : findM n p = some m := by rw [hj, List.drop_of_length_le (by omega)]; rfl
    exact leafV hK (by rw [e]; rfl)
theorem s77 : (CtrOK Tryd.prog 77 (.gen .ps C77) ∧ Callable Tryd.prog 77) := by
  refine gen_ok (E := E77) (mkE_cons s45 (mkE_cons s81 (mkE_nil tab_ok))) mix (O := O77) (C := C77) (own := .ps) Tryd.func77 rfl (by rfl) (by kernel_rfl) (fun args K h hbd => ?_)
  unfold C77 at h; split at h
  case h_2 => exact h.elim
  exact ⟨Nat.le_of_ble_eq_true rfl, a77 ⟨_, _, _, _, _⟩ _ (by exact hbd) _ h⟩
noncomputable def c100 (n : Nd) (K : AV → List AV → Prop) : Prop :=
    Obl (okN n) (∀ l : List (List Bs), l.length = countM n → (∀ x ∈ l, x.length < depthM n) → K (.ps .strs l) [])
noncomputable def m100 (n : Nd) : Nat := SizeOf.sizeOf n
noncomputable def C100 : List AV → (AV → List AV → Prop) → Prop
  | [.st [.int .i64 n_0, .int .i64 n_1, .str n_2, .ps .str n_3, .ps .node n_4]], K => c100 ⟨n_0, n_1, n_2, n_3, n_4⟩ K
  | _, _ => False
noncomputable def Ck100 (k : Nat) : List AV → (AV → List AV → Prop) → Prop
  | [.st [.int .i64 n_0, .int .i64 n_1, .str n_2, .ps .str n_3, .ps .node n_4]], K => Obl (m100 ⟨n_0, n_1, n_2, n_3, n_4⟩ < k) (c100 ⟨n_0, n_1, n_2, n_3, n_4⟩ K)
  | _, _ => False
noncomputable def E100 (k : Nat) : Ctx := mkE tab [(90, .pure F90), (100, .gen .ps (Ck100 k))]
noncomputable def O100 : Nat → List DI := ordL []
theorem a100 (k : Nat) (n : Nd) (hm : m100 n < k + 1) (hb : BdAs [.st (ndC n)]) (K : AV → List AV → Prop) (h : c100 n K) : abody (E100 k) O100 .ps Tryd.f100 (Tryd.f100.body.getD .skip) [.st (ndC n)] K := by
  simp only [BdAs, BdA, BdL, BdC, MX, ndC, shC, itC, stC, opC, chC, nwC, flC, rqC, rsC, enc, List.cons_append, List.nil_append, and_true, true_and] at hb
  unfold c100 at h
  unfold m100 at hm
  obtain ⟨ho, hK⟩ := h
  have hkid : ∀ j, j < n.kids.length → SizeOf.sizeOf (n.kids.getD j default) < k ∧ okN (n.kids.getD j default) := fun j hj => ⟨by have := kid_size hj; omega, okN_kid ho hj⟩
  have hc := okN_count ho
  have h6 := okN_kids ho
  have h5 := (okN_names ho).2.1
  have hd5 : depthM n ≤ 5 := by obtain ⟨d, hd, hs⟩ := ho; have := depth_le hs; omega
  have hkd := fun j (h : j < n.kids.length) => depth_kid (n := n) h
  rw [countM_eq] at hc
  have hle : ∀ k, sumN countM (n.kids.take k) ≤ sumN countM n.kids := fun k => sumN_take_le
  conv => whnf
  repeat' first
    | (refine Cnd.mk (fun h => ?_) (fun h => ?_) <;> (try simp [etas, elDef, -List.getD_eq_getElem?_getD] at h) <;> conv => whnf)
    | (refine Obl.mk (by first | omega | rfl | exact inK_byte _ | (simp only [inK, Int.toNat_natCast, etas, elDef, m100, o90, m90, m100] <;> first | omega | grind) | grind [inK, m100, o90, m90, m100]) ?_ <;> conv => whnf)
    | (refine OblG.mk (by conv => whnf
                          repeat (first | (refine Bx.mk ?_) | (intro h; (try simp [etas, elDef, -List.getD_eq_getElem?_getD] at h); conv => whnf))
                          first | omega | rfl | exact inK_byte _ | (simp only [inK, Int.toNat_natCast, etas, elDef, m100, o90, m90, m100] <;> first | omega | grind) | grind [inK, m100, o90, m90, m100]) ?_ <;> conv => whnf)
    | (refine Gd.mk (fun h => ?_) <;> (try simp [etas, elDef, -List.getD_eq_getElem?_getD] at h) <;> conv => whnf)
    | (refine And.intro ?_ ?_ <;> conv => whnf)
    | exact True.intro
    | (intro; conv => whnf)
  refine aloop_intro (Nat × List (List Bs)) (fun q => q.1 ≤ n.kids.length ∧ q.2.length = 1 + sumN countM (n.kids.take q.1) ∧ ∀ x ∈ q.2, x.length < depthM n) (fun q => n.kids.length - q.1) (fun q => [(4, .int .i64 q.1), (3, .ls 900)]) (fun q => [(900, .arr .strs q.2)]) [1] (0, [[]]) [(900, 9)] [] ⟨Nat.zero_le _, by simp [sumN], by simp; have := depth_pos n; omega⟩ ?_ (by exact sgOk_of (by rfl)) ?_
  · (conv => whnf); (repeat' (first | exact trivial | rfl | (refine nilEq ?_; first | rfl | (simp only [*]; done) | (simp [*]; done) | grind) | apply And.intro | ((first | refine intEq ?_ | refine boolEq ?_ | refine strEq ?_ | refine psEq ?_ | refine nilEq ?_ | refine arrEq ?_); (try simp only [Int.toNat_natCast, etas, elDef]); first | done | omega | grind | (simp only [*]; done) | (simp [*]; done)))); (all_goals (conv => whnf)); (repeat' (first | exact trivial | rfl | (refine nilEq ?_; first | rfl | (simp only [*]; done) | (simp [*]; done) | grind) | apply And.intro | ((first | refine intEq ?_ | refine boolEq ?_ | refine strEq ?_ | refine psEq ?_ | refine nilEq ?_ | refine arrEq ?_); (try simp only [Int.toNat_natCast, etas, elDef]); first | done | omega | grind | (simp only [*]; done) | (simp [*]; done)) | ((try simp only [Int.toNat_natCast, etas, elDef]); first | done | omega | grind | (simp only [*]; done) | (simp [*]; done))))
  rintro ⟨i, l⟩ ⟨hi, hl, hx⟩
  dsimp only at hi hl hx
  have hst := fun h => sumN_take (f := countM) (l := n.kids) (k := i) h
  have hli1 := hle (i + 1)
  have hkk := hkid i
  have hkd2 := hkd i
  conv => whnf
  repeat' first
    | (refine Cnd.mk (fun h => ?_) (fun h => ?_) <;> (try simp [etas, elDef, -List.getD_eq_getElem?_getD] at h) <;> conv => whnf)
    | (refine Obl.mk (by first | omega | rfl | exact inK_byte _ | (simp only [inK, Int.toNat_natCast, etas, elDef, m100, o90, m90, m100] <;> first | omega | grind) | grind [inK, m100, o90, m90, m100]) ?_ <;> conv => whnf)
    | (refine OblG.mk (by conv => whnf
                          repeat (first | (refine Bx.mk ?_) | (intro h; (try simp [etas, elDef, -List.getD_eq_getElem?_getD] at h); conv => whnf))
                          first | omega | rfl | exact inK_byte _ | (simp only [inK, Int.toNat_natCast, etas, elDef, m100, o90, m90, m100] <;> first | omega | grind) | grind [inK, m100, o90, m90, m100]) ?_ <;> conv => whnf)
    | (refine Gd.mk (fun h => ?_) <;> (try simp [etas, elDef, -List.getD_eq_getElem?_getD] at h) <;> conv => whnf)
    | (refine And.intro ?_ ?_ <;> conv => whnf)
    | exact True.intro
    | (intro; conv => whnf)
  · rename_i l2 hl2 hx2
    dsimp only at hl2 hx2
    simp only [nd_eta, Int.toNat_natCast, elDef] at hl2 hx2
    have hkd3 := hkd2 (by assumption)
    have hst2 := hst (by assumption)
    refine aloop_intro (Nat × List (List Bs)) (fun q => q.1 ≤ l2.length ∧ q.2.length = l.length + q.1 ∧ ∀ x ∈ q.2, x.length < depthM n) (fun q => l2.length - q.1) (fun q => [(7, .int .i64 q.1), (3, .ls 901)]) (fun q => [(901, .arr .strs q.2)]) [1] (0, l) [(901, 900)] [] ⟨Nat.zero_le _, rfl, hx⟩ ?_ (by exact sgOk_of (by rfl)) ?_
    · (conv => whnf); (repeat' (first | exact trivial | rfl | (refine nilEq ?_; first | rfl | (simp only [*]; done) | (simp [*]; done) | grind) | apply And.intro | ((first | refine intEq ?_ | refine boolEq ?_ | refine strEq ?_ | refine psEq ?_ | refine nilEq ?_ | refine arrEq ?_); (try simp only [Int.toNat_natCast, etas, elDef]); first | done | omega | grind | (simp only [*]; done) | (simp [*]; done)))); (all_goals (conv => whnf)); (repeat' (first | exact trivial | rfl | (refine nilEq ?_; first | rfl | (simp only [*]; done) | (simp [*]; done) | grind) | apply And.intro | ((first | refine intEq ?_ | refine boolEq ?_ | refine strEq ?_ | refine psEq ?_ | refine nilEq ?_ | refine arrEq ?_); (try simp only [Int.toNat_natCast, etas, elDef]); first | done | omega | grind | (simp only [*]; done) | (simp [*]; done)) | ((try simp only [Int.toNat_natCast, etas, elDef]); first | done | omega | grind | (simp only [*]; done) | (simp [*]; done))))
    rintro ⟨j, l3⟩ ⟨hj1, hj2, hj3⟩
    dsimp only at hj1 hj2 hj3
    have hb1 : j < l2.length → [n.names.getD i []].length + (l2.getD j []).length ≤ 1073741824 := fun h => by
      have := hx2 _ (getD_mem (d := []) h)
      simp only [List.length_cons, List.length_nil, List.cons_append, List.nil_append]; omega
    have hb2 : j < l2.length → l3.length + [[n.names.getD i []] ++ l2.getD j []].length ≤ 1073741824 := fun h => by simp; omega
    have hb3 : j < l2.length → ([n.names.getD i []] ++ l2.getD j []).length < depthM n := fun h => by
      have := hx2 _ (getD_mem (d := []) h)
      simp only [List.length_cons, List.length_nil, List.cons_append, List.nil_append]; omega
    rcases Nat.lt_or_ge j l2.length with hjl | hjl
    · have hb1 := hb1 hjl
      have hb2 := hb2 hjl
      have hb3 := hb3 hjl
      conv => whnf
      repeat' first
        | (refine Cnd.mk (fun h => ?_) (fun h => ?_) <;> (try simp [etas, elDef, -List.getD_eq_getElem?_getD] at h) <;> conv => whnf)
        | (refine Obl.mk (by first | omega | rfl | exact inK_byte _ | (simp only [inK, Int.toNat_natCast, etas, elDef, m100, o90, m90, m100] <;> first | omega | grind) | grind [inK, m100, o90, m90, m100]) ?_ <;> conv => whnf)
        | (refine OblG.mk (by conv => whnf
                              repeat (first | (refine Bx.mk ?_) | (intro h; (try simp [etas, elDef, -List.getD_eq_getElem?_getD] at h); conv => whnf))
                              first | omega | rfl | exact inK_byte _ | (simp only [inK, Int.toNat_natCast, etas, elDef, m100, o90, m90, m100] <;> first | omega | grind) | grind [inK, m100, o90, m90, m100]) ?_ <;> conv => whnf)
        | (refine Gd.mk (fun h => ?_) <;> (try simp [etas, elDef, -List.getD_eq_getElem?_getD] at h) <;> conv => whnf)
        | (refine And.intro ?_ ?_ <;> conv => whnf)
        | exact True.intro
        | (intro; conv => whnf)
      · refine ⟨(j + 1, l3 ++ [[n.names.getD i []] ++ l2.getD j []]), [(901, 48)], [], ⟨by simp only; omega, by simp only [List.length_append, List.length_cons, List.length_nil]; omega, ?_⟩, by simp only; omega, by (conv => whnf); (repeat' (first | exact trivial | rfl | (refine nilEq ?_; first | rfl | (simp only [*]; done) | (simp [*]; done) | grind) | apply And.intro | ((first | refine intEq ?_ | refine boolEq ?_ | refine strEq ?_ | refine psEq ?_ | refine nilEq ?_ | refine arrEq ?_); (try simp only [Int.toNat_natCast, etas, elDef]); first | done | omega | grind | (simp only [*]; done) | (simp [*]; done)))); (all_goals (conv => whnf)); (repeat' (first | exact trivial | rfl | (refine nilEq ?_; first | rfl | (simp only [*]; done) | (simp [*]; done) | grind) | apply And.intro | ((first | refine intEq ?_ | refine boolEq ?_ | refine strEq ?_ | refine psEq ?_ | refine nilEq ?_ | refine arrEq ?_); (try simp only [Int.toNat_natCast, etas, elDef]); first | done | omega | grind | (simp only [*]; done) | (simp [*]; done)) | ((try simp only [Int.toNat_natCast, etas, elDef]); first | done | omega | grind | (simp only [*]; done) | (simp [*]; done)))), (by exact sgOk_of (by rfl))⟩
        intro x hx
        rcases List.mem_append.1 hx with hx | hx
        · exact hj3 x hx
        · simp only [List.mem_singleton] at hx; subst hx; exact hb3
      · exfalso; omega
    · conv => whnf
      repeat' first
        | (refine Cnd.mk (fun h => ?_) (fun h => ?_) <;> (try simp [etas, elDef, -List.getD_eq_getElem?_getD] at h) <;> conv => whnf)
        | (refine Obl.mk (by first | omega | rfl | exact inK_byte _ | (simp only [inK, Int.toNat_natCast, etas, elDef, m100, o90, m90, m100] <;> first | omega | grind) | grind [inK, m100, o90, m90, m100]) ?_ <;> conv => whnf)
        | (refine OblG.mk (by conv => whnf
                              repeat (first | (refine Bx.mk ?_) | (intro h; (try simp [etas, elDef, -List.getD_eq_getElem?_getD] at h); conv => whnf))
                              first | omega | rfl | exact inK_byte _ | (simp only [inK, Int.toNat_natCast, etas, elDef, m100, o90, m90, m100] <;> first | omega | grind) | grind [inK, m100, o90, m90, m100]) ?_ <;> conv => whnf)
        | (refine Gd.mk (fun h => ?_) <;> (try simp [etas, elDef, -List.getD_eq_getElem?_getD] at h) <;> conv => whnf)
        | (refine And.intro ?_ ?_ <;> conv => whnf)
        | exact True.intro
        | (intro; conv => whnf)
      all_goals first | (exfalso; omega) | skip
      exact ⟨(i + 1, l3), [(900, 901)], [], ⟨by simp only; omega, by simp only; omega, hj3⟩, by simp only; omega, by (conv => whnf); (repeat' (first | exact trivial | rfl | (refine nilEq ?_; first | rfl | (simp only [*]; done) | (simp [*]; done) | grind) | apply And.intro | ((first | refine intEq ?_ | refine boolEq ?_ | refine strEq ?_ | refine psEq ?_ | refine nilEq ?_ | refine arrEq ?_); (try simp only [Int.toNat_natCast, etas, elDef]); first | done | omega | grind | (simp only [*]; done) | (simp [*]; done)))); (all_goals (conv => whnf)); (repeat' (first | exact trivial | rfl | (refine nilEq ?_; first | rfl | (simp only [*]; done) | (simp [*]; done) | grind) | apply And.intro | ((first | refine intEq ?_ | refine boolEq ?_ | refine strEq ?_ | refine psEq ?_ | refine nilEq ?_ | refine arrEq ?_); (try simp only [Int.toNat_natCast, etas, elDef]); first | done | omega | grind | (simp only [*]; done) | (simp [*]; done)) | ((try simp only [Int.toNat_natCast, etas, elDef]); first | done | omega | grind | (simp only [*]; done) | (simp [*]; done)))), (by exact sgOk_of (by rfl))⟩
  · rename_i l2 hl2 hx2
    dsimp only at hl2 hx2
    simp only [nd_eta, Int.toNat_natCast, elDef] at hl2 hx2
    have hkd3 := hkd2 (by assumption)
    have hst2 := hst (by assumption)
    refine aloop_intro (Nat × List (List Bs)) (fun q => q.1 ≤ l2.length ∧ q.2.length = l.length + q.1 ∧ ∀ x ∈ q.2, x.length < depthM n) (fun q => l2.length - q.1) (fun q => [(7, .int .i64 q.1), (3, .ls 901)]) (fun q => [(901, .arr .strs q.2)]) [1] (0, l) [(901, 900)] [] ⟨Nat.zero_le _, rfl, hx⟩ ?_ (by exact sgOk_of (by rfl)) ?_
    · (conv => whnf); (repeat' (first | exact trivial | rfl | (refine nilEq ?_; first | rfl | (simp only [*]; done) | (simp [*]; done) | grind) | apply And.intro | ((first | refine intEq ?_ | refine boolEq ?_ | refine strEq ?_ | refine psEq ?_ | refine nilEq ?_ | refine arrEq ?_); (try simp only [Int.toNat_natCast, etas, elDef]); first | done | omega | grind | (simp only [*]; done) | (simp [*]; done)))); (all_goals (conv => whnf)); (repeat' (first | exact trivial | rfl | (refine nilEq ?_; first | rfl | (simp only [*]; done) | (simp [*]; done) | grind) | apply And.intro | ((first | refine intEq ?_ | refine boolEq ?_ | refine strEq ?_ | refine psEq ?_ | refine nilEq ?_ | refine arrEq ?_); (try simp only [Int.toNat_natCast, etas, elDef]); first | done | omega | grind | (simp only [*]; done) | (simp [*]; done)) | ((try simp only [Int.toNat_natCast, etas, elDef]); first | done | omega | grind | (simp only [*]; done) | (simp [*]; done))))
    rintro ⟨j, l3⟩ ⟨hj1, hj2, hj3⟩
    dsimp only at hj1 hj2 hj3
    have hb1 : j < l2.length → [decM i].length + (l2.getD j []).length ≤ 1073741824 := fun h => by
      have := hx2 _ (getD_mem (d := []) h)
      simp only [List.length_cons, List.length_nil, List.cons_append, List.nil_append]; omega
    have hb2 : j < l2.length → l3.length + [[decM i] ++ l2.getD j []].length ≤ 1073741824 := fun h => by simp; omega
    have hb3 : j < l2.length → ([decM i] ++ l2.getD j []).length < depthM n := fun h => by
      have := hx2 _ (getD_mem (d := []) h)
      simp only [List.length_cons, List.length_nil, List.cons_append, List.nil_append]; omega
    rcases Nat.lt_or_ge j l2.length with hjl | hjl
    · have hb1 := hb1 hjl
      have hb2 := hb2 hjl
      have hb3 := hb3 hjl
      conv => whnf
      repeat' first
        | (refine Cnd.mk (fun h => ?_) (fun h => ?_) <;> (try simp [etas, elDef, -List.getD_eq_getElem?_getD] at h) <;> conv => whnf)
        | (refine Obl.mk (by first | omega | rfl | exact inK_byte _ | (simp only [inK, Int.toNat_natCast, etas, elDef, m100, o90, m90, m100] <;> first | omega | grind) | grind [inK, m100, o90, m90, m100]) ?_ <;> conv => whnf)
        | (refine OblG.mk (by conv => whnf
                              repeat (first | (refine Bx.mk ?_) | (intro h; (try simp [etas, elDef, -List.getD_eq_getElem?_getD] at h); conv => whnf))
                              first | omega | rfl | exact inK_byte _ | (simp only [inK, Int.toNat_natCast, etas, elDef, m100, o90, m90, m100] <;> first | omega | grind) | grind [inK, m100, o90, m90, m100]) ?_ <;> conv => whnf)
        | (refine Gd.mk (fun h => ?_) <;> (try simp [etas, elDef, -List.getD_eq_getElem?_getD] at h) <;> conv => whnf)
        | (refine And.intro ?_ ?_ <;> conv => whnf)
        | exact True.intro
        | (intro; conv => whnf)
      · refine ⟨(j + 1, l3 ++ [[decM i] ++ l2.getD j []]), [(901, 48)], [], ⟨by simp only; omega, by simp only [List.length_append, List.length_cons, List.length_nil]; omega, ?_⟩, by simp only; omega, by (conv => whnf); (repeat' (first | exact trivial | rfl | (refine nilEq ?_; first | rfl | (simp only [*]; done) | (simp [*]; done) | grind) | apply And.intro | ((first | refine intEq ?_ | refine boolEq ?_ | refine strEq ?_ | refine psEq ?_ | refine nilEq ?_ | refine arrEq ?_); (try simp only [Int.toNat_natCast, etas, elDef]); first | done | omega | grind | (simp only [*]; done) | (simp [*]; done)))); (all_goals (conv => whnf)); (repeat' (first | exact trivial | rfl | (refine nilEq ?_; first | rfl | (simp only [*]; done) | (simp [*]; done) | grind) | apply And.intro | ((first | refine intEq ?_ | refine boolEq ?_ | refine strEq ?_ | refine psEq ?_ | refine nilEq ?_ | refine arrEq ?_); (try simp only [Int.toNat_natCast, etas, elDef]); first | done | omega | grind | (simp only [*]; done) | (simp [*]; done)) | ((try simp only [Int.toNat_natCast, etas, elDef]); first | done | omega | grind | (simp only [*]; done) | (simp [*]; done)))), (by exact sgOk_of (by rfl))⟩
        intro x hx
        rcases List.mem_append.1 hx with hx | hx
        · exact hj3 x hx
        · simp only [List.mem_singleton] at hx; subst hx; exact hb3
      · exfalso; omega
    · conv => whnf
      repeat' first
        | (refine Cnd.mk (fun h => ?_) (fun h => ?_) <;> (try simp [etas, elDef, -List.getD_eq_getElem?_getD] at h) <;> conv => whnf)
        | (refine Obl.mk (by first | omega | rfl | exact inK_byte _ | (simp only [inK, Int.toNat_natCast, etas, elDef, m100, o90, m90, m100] <;> first | omega | grind) | grind [inK, m100, o90, m90, m100]) ?_ <;> conv => whnf)
        | (refine OblG.mk (by conv => whnf
                              repeat (first | (refine Bx.mk ?_) | (intro h; (try simp [etas, elDef, -List.getD_eq_getElem?_getD] at h); conv => whnf))
                              first | omega | rfl | exact inK_byte _ | (simp only [inK, Int.toNat_natCast, etas, elDef, m100, o90, m90, m100] <;> first | omega | grind) | grind [inK, m100, o90, m90, m100]) ?_ <;> conv => whnf)
        | (refine Gd.mk (fun h => ?_) <;> (try simp [etas, elDef, -List.getD_eq_getElem?_getD] at h) <;> conv => whnf)
        | (refine And.intro ?_ ?_ <;> conv => whnf)
        | exact True.intro
        | (intro; conv => whnf)
      all_goals first | (exfalso; omega) | skip
      exact ⟨(i + 1, l3), [(900, 901)], [], ⟨by simp only; omega, by simp only; omega, hj3⟩, by simp only; omega, by (conv => whnf); (repeat' (first | exact trivial | rfl | (refine nilEq ?_; first | rfl | (simp only [*]; done) | (simp [*]; done) | grind) | apply And.intro | ((first | refine intEq ?_ | refine boolEq ?_ | refine strEq ?_ | refine psEq ?_ | refine nilEq ?_ | refine arrEq ?_); (try simp only [Int.toNat_natCast, etas, elDef]); first | done | omega | grind | (simp only [*]; done) | (simp [*]; done)))); (all_goals (conv => whnf)); (repeat' (first | exact trivial | rfl | (refine nilEq ?_; first | rfl | (simp only [*]; done) | (simp [*]; done) | grind) | apply And.intro | ((first | refine intEq ?_ | refine boolEq ?_ | refine strEq ?_ | refine psEq ?_ | refine nilEq ?_ | refine arrEq ?_); (try simp only [Int.toNat_natCast, etas, elDef]); first | done | omega | grind | (simp only [*]; done) | (simp [*]; done)) | ((try simp only [Int.toNat_natCast, etas, elDef]); first | done | omega | grind | (simp only [*]; done) | (simp [*]; done)))), (by exact sgOk_of (by rfl))⟩
  · exact hK _ (by simp only; rw [hl, countM_eq, List.take_of_length_le (by omega)]) hx
theorem r100 : ∀ k, (CtrOK Tryd.prog 100 (.gen .ps (Ck100 k)) ∧ Callable Tryd.prog 100) := by
  intro k
  induction k with
  | zero =>
    exact ⟨fun args K h => by
        unfold Ck100 at h; split at h
        · exact absurd h.o (Nat.not_lt_zero _)
        · exact h.elim, callable Tryd.func100 rfl (by rfl)⟩
  | succ k ih =>
    refine gen_ok (E := E100 k) (mkE_cons s90 (mkE_cons ih (mkE_nil tab_ok))) mix (O := O100) (C := (Ck100 (k + 1))) (own := .ps) Tryd.func100 rfl (by rfl) (by kernel_rfl) (fun args K h hbd => ?_)
    unfold Ck100 at h; split at h
    case h_2 => exact h.elim
    exact ⟨Nat.le_of_ble_eq_true rfl, a100 k ⟨_, _, _, _, _⟩ h.o (by exact hbd) _ h.k⟩
theorem s100 : (CtrOK Tryd.prog 100 (.gen .ps C100) ∧ Callable Tryd.prog 100) := by
  refine ⟨fun args K h => ?_, (r100 0).2⟩
  unfold C100 at h; split at h
  · exact (r100 (m100 ⟨_, _, _, _, _⟩ + 1)).1 _ K ⟨Nat.lt_succ_self _, h⟩
  · exact h.elim
end Go.Rs

