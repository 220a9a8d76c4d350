import Derived.Test.YtgmilpefnaadmaaDoorCQ
set_option linter.all false
namespace Go.Rs
open Go.Proofs
set_option maxRecDepth 100000
set_option linter.unusedVariables false
set_option linter.unusedSimpArgs false
noncomputable def c70 (n : Nd) (K : AV → List AV → Prop) : Prop :=
    ∀ l : List (List Bs), l.length ≤ 20000 → K (.ps .strs l) []
noncomputable def C70 : List AV → (AV → List AV → Prop) → Prop
  | [.st [.int .i64 n_0, .int .i64 n_1, .str n_2, .ps .str n_3, .ps .node n_4]], K => c70 ⟨n_0, n_1, n_2, n_3, n_4⟩ K
  | _, _ => False
noncomputable def E70 : Ctx := mkE tab [(31, .pure F31), (91, .gen .ps C91)]
noncomputable def O70 : Nat → List DI := ordL []
theorem a70 (n : Nd) (hb : BdAs [.st (ndC n)]) (K : AV → List AV → Prop) (h : c70 n K) : abody E70 O70 .ps Tryd.f70 (Tryd.f70.body.getD .skip) [.st (ndC n)] K := by
  simp only [BdAs, BdA, BdL, BdC, MX, ndC, shC, itC, stC, opC, chC, nwC, flC, rqC, rsC, enc, List.cons_append, List.nil_append, and_true, true_and] at hb
  unfold c70 at h
  have hK := h
  have h1 := fun h => validM_ok (n := n) h
  have h2 := fun h : validM n = true => okN_count (validM_ok h)
  conv => whnf
  repeat' first
    | (refine Cnd.mk (fun h => ?_) (fun h => ?_) <;> (try simp [etas, elDef, -List.getD_eq_getElem?_getD] at h) <;> conv => whnf)
    | (refine Obl.mk (by first | omega | rfl | exact inK_byte _ | (simp only [inK, Int.toNat_natCast, etas, elDef, m91] <;> first | omega | grind) | grind [inK, m91]) ?_ <;> conv => whnf)
    | (refine OblG.mk (by conv => whnf
                          repeat (first | (refine Bx.mk ?_) | (intro h; (try simp [etas, elDef, -List.getD_eq_getElem?_getD] at h); conv => whnf))
                          first | omega | rfl | exact inK_byte _ | (simp only [inK, Int.toNat_natCast, etas, elDef, m91] <;> first | omega | grind) | grind [inK, m91]) ?_ <;> conv => whnf)
    | (refine Gd.mk (fun h => ?_) <;> (try simp [etas, elDef, -List.getD_eq_getElem?_getD] at h) <;> conv => whnf)
    | (refine And.intro ?_ ?_ <;> conv => whnf)
    | exact True.intro
    | (intro; conv => whnf)
  · exact hK [] (by simp)
  · rename_i l hl hx
    simp only [nd_eta] at hl
    have h3 := h2 (by assumption)
    exact hK l (by omega)
theorem s70 : (CtrOK Tryd.prog 70 (.gen .ps C70) ∧ Callable Tryd.prog 70) := by
  refine gen_ok (E := E70) (mkE_cons s31 (mkE_cons s91 (mkE_nil tab_ok))) mix (O := O70) (C := C70) (own := .ps) Tryd.func70 rfl (by rfl) (by kernel_rfl) (fun args K h hbd => ?_)
  unfold C70 at h; split at h
  case h_2 => exact h.elim
  exact ⟨Nat.le_of_ble_eq_true rfl, a70 ⟨_, _, _, _, _⟩ (by exact hbd) _ h⟩
noncomputable def c71 (code : List Int) (p : Int) (K : AV → List AV → Prop) : Prop :=
    Obl ((0 ≤ p ∧ p ≤ 100000000) ∧ byOk code) (∀ (l : List Bs) (p' : Int), p ≤ p' ∧ p' ≤ p + 20 → K (.ps .str l) [.ref [.ps .u8 code, .int .i64 p']])
noncomputable def C71 : List AV → (AV → List AV → Prop) → Prop
  | [.ref [.ps .u8 code, .int .i64 p]], K => c71 code p K
  | _, _ => False
noncomputable def E71 : Ctx := mkE tab [(45, .gen .ps C45), (46, .gen .ps C46), (68, .gen .ps C68)]
noncomputable def O71 : Nat → List DI := ordL []
theorem a71 (code : List Int) (p : Int) (hb : BdAs [.ref [.ps .u8 code, .int .i64 p]]) (K : AV → List AV → Prop) (h : c71 code p K) : abody E71 O71 .ps Tryd.f71 (Tryd.f71.body.getD .skip) [.ref [.ps .u8 code, .int .i64 p]] K := by
  simp only [BdAs, BdA, BdL, BdC, MX, ndC, shC, itC, stC, opC, chC, nwC, flC, rqC, rsC, enc, List.cons_append, List.nil_append, and_true, true_and] at hb
  unfold c71 at h
  obtain ⟨⟨hp, ho⟩, hK⟩ := h
  conv => whnf
  repeat' first
    | (refine Cnd.mk (fun h => ?_) (fun h => ?_) <;> (try simp [etas, elDef, -List.getD_eq_getElem?_getD] at h) <;> conv => whnf)
    | (refine Obl.mk (by first | omega | rfl | exact inK_byte _ | (simp only [inK, Int.toNat_natCast, etas, elDef] <;> first | omega | grind) | grind [inK]) ?_ <;> conv => whnf)
    | (refine OblG.mk (by conv => whnf
                          repeat (first | (refine Bx.mk ?_) | (intro h; (try simp [etas, elDef, -List.getD_eq_getElem?_getD] at h); conv => whnf))
                          first | omega | rfl | exact inK_byte _ | (simp only [inK, Int.toNat_natCast, etas, elDef] <;> first | omega | grind) | grind [inK]) ?_ <;> conv => whnf)
    | (refine Gd.mk (fun h => ?_) <;> (try simp [etas, elDef, -List.getD_eq_getElem?_getD] at h) <;> conv => whnf)
    | (refine And.intro ?_ ?_ <;> conv => whnf)
    | exact True.intro
    | (intro; conv => whnf)
  rename_i r hr
  have hr0 : 0 ≤ r ∧ r ≤ 6 := by simp at hr; omega
  refine aloop_intro (Int × Int × List Bs) (fun ⟨c, q, l⟩ => (0 ≤ c ∧ l.length + c ≤ 6) ∧ p ≤ q ∧ q + c ≤ p + 8) (fun ⟨c, q, l⟩ => c.toNat) (fun ⟨c, q, l⟩ => [(4, .int .i64 c), (3, .ls 900)]) (fun ⟨c, q, l⟩ => [(900, .arr .str l), (1000000, .box [.ps .u8 code, .int .i64 q])]) [] (r, p + 1, []) [(900, 5)] [] ?_ ?_ (by exact sgOk_of (by rfl)) ?_
  · first | (simp; done) | (simp; assumption) | (simp only; grind)
  · (conv => whnf); (repeat' (first | exact trivial | rfl | (refine nilEq ?_; first | rfl | (simp only [*]; done) | (simp [*]; done) | grind) | apply And.intro | ((first | refine intEq ?_ | refine boolEq ?_ | refine strEq ?_ | refine psEq ?_ | refine nilEq ?_ | refine arrEq ?_); (try simp only [Int.toNat_natCast, etas, elDef]); first | done | omega | grind | (simp only [*]; done) | (simp [*]; done)))); (all_goals (conv => whnf)); (repeat' (first | exact trivial | rfl | (refine nilEq ?_; first | rfl | (simp only [*]; done) | (simp [*]; done) | grind) | apply And.intro | ((first | refine intEq ?_ | refine boolEq ?_ | refine strEq ?_ | refine psEq ?_ | refine nilEq ?_ | refine arrEq ?_); (try simp only [Int.toNat_natCast, etas, elDef]); first | done | omega | grind | (simp only [*]; done) | (simp [*]; done)) | ((try simp only [Int.toNat_natCast, etas, elDef]); first | done | omega | grind | (simp only [*]; done) | (simp [*]; done))))
  rintro ⟨c, q, l⟩ hinv
  dsimp only at hinv
  conv => whnf
  obtain ⟨hi1, hi2, hi3⟩ := hinv
  repeat' first
    | (refine Cnd.mk (fun h => ?_) (fun h => ?_) <;> (try simp [etas, elDef, -List.getD_eq_getElem?_getD] at h) <;> conv => whnf)
    | (refine Obl.mk (by first | omega | rfl | exact inK_byte _ | (simp only [inK, Int.toNat_natCast, etas, elDef] <;> first | omega | grind) | grind [inK]) ?_ <;> conv => whnf)
    | (refine OblG.mk (by conv => whnf
                          repeat (first | (refine Bx.mk ?_) | (intro h; (try simp [etas, elDef, -List.getD_eq_getElem?_getD] at h); conv => whnf))
                          first | omega | rfl | exact inK_byte _ | (simp only [inK, Int.toNat_natCast, etas, elDef] <;> first | omega | grind) | grind [inK]) ?_ <;> conv => whnf)
    | (refine Gd.mk (fun h => ?_) <;> (try simp [etas, elDef, -List.getD_eq_getElem?_getD] at h) <;> conv => whnf)
    | (refine And.intro ?_ ?_ <;> conv => whnf)
    | exact True.intro
    | (intro; conv => whnf)
  · rename_i rr hrr
    exact ⟨(c - 1, q + 1, l ++ [rr]), [(900, 18)], [], ⟨by simp; omega, by omega, by omega⟩, by show (c - 1).toNat < c.toNat; omega, by (conv => whnf); (repeat' (first | exact trivial | rfl | (refine nilEq ?_; first | rfl | (simp only [*]; done) | (simp [*]; done) | grind) | apply And.intro | ((first | refine intEq ?_ | refine boolEq ?_ | refine strEq ?_ | refine psEq ?_ | refine nilEq ?_ | refine arrEq ?_); (try simp only [Int.toNat_natCast, etas, elDef]); first | done | omega | grind | (simp only [*]; done) | (simp [*]; done)))); (all_goals (conv => whnf)); (repeat' (first | exact trivial | rfl | (refine nilEq ?_; first | rfl | (simp only [*]; done) | (simp [*]; done) | grind) | apply And.intro | ((first | refine intEq ?_ | refine boolEq ?_ | refine strEq ?_ | refine psEq ?_ | refine nilEq ?_ | refine arrEq ?_); (try simp only [Int.toNat_natCast, etas, elDef]); first | done | omega | grind | (simp only [*]; done) | (simp [*]; done)) | ((try simp only [Int.toNat_natCast, etas, elDef]); first | done | omega | grind | (simp only [*]; done) | (simp [*]; done)))), (by exact sgOk_of (by rfl))⟩
  all_goals exact hK _ _ (by omega)
theorem s71 : (CtrOK Tryd.prog 71 (.gen .ps C71) ∧ Callable Tryd.prog 71) := by
  refine gen_ok (E := E71) (mkE_cons s45 (mkE_cons s46 (mkE_cons s68 (mkE_nil tab_ok)))) mix (O := O71) (C := C71) (own := .ps) Tryd.func71 rfl (by rfl) (by kernel_rfl) (fun args K h hbd => ?_)
  unfold C71 at h; split at h
  case h_2 => exact h.elim
  exact ⟨Nat.le_of_ble_eq_true rfl, a71 _ _ (by exact hbd) _ h⟩
noncomputable def c44 (code : List Int) (p : Int) (n : Nd) (K : AV → List AV → Prop) : Prop :=
    Obl ((0 ≤ p ∧ p ≤ 50000000) ∧ byOk code) (∀ (l : List Bs) (p' : Int), p ≤ p' ∧ p' ≤ p + 30 → K (.ps .str l) [.ref [.ps .u8 code, .int .i64 p']])
noncomputable def C44 : List AV → (AV → List AV → Prop) → Prop
  | [.ref [.ps .u8 code, .int .i64 p], .st [.int .i64 n_0, .int .i64 n_1, .str n_2, .ps .str n_3, .ps .node n_4]], K => c44 code p ⟨n_0, n_1, n_2, n_3, n_4⟩ K
  | _, _ => False
noncomputable def E44 : Ctx := mkE tab [(45, .gen .ps C45), (70, .gen .ps C70), (71, .gen .ps C71)]
noncomputable def O44 : Nat → List DI := ordL []
theorem a44 (code : List Int) (p : Int) (n : Nd) (hb : BdAs [.ref [.ps .u8 code, .int .i64 p], .st (ndC n)]) (K : AV → List AV → Prop) (h : c44 code p n K) : abody E44 O44 .ps Tryd.f44 (Tryd.f44.body.getD .skip) [.ref [.ps .u8 code, .int .i64 p], .st (ndC n)] K := by
  simp only [BdAs, BdA, BdL, BdC, MX, ndC, shC, itC, stC, opC, chC, nwC, flC, rqC, rsC, enc, List.cons_append, List.nil_append, and_true, true_and] at hb
  unfold c44 at h
  obtain ⟨⟨hp, ho⟩, hK⟩ := h
  conv => whnf
  repeat' first
    | (refine Cnd.mk (fun h => ?_) (fun h => ?_) <;> (try simp [etas, elDef, -List.getD_eq_getElem?_getD] at h) <;> conv => whnf)
    | (refine Obl.mk (by first | omega | rfl | exact inK_byte _ | (simp only [inK, Int.toNat_natCast, etas, elDef] <;> first | omega | grind) | grind [inK]) ?_ <;> conv => whnf)
    | (refine OblG.mk (by conv => whnf
                          repeat (first | (refine Bx.mk ?_) | (intro h; (try simp [etas, elDef, -List.getD_eq_getElem?_getD] at h); conv => whnf))
                          first | omega | rfl | exact inK_byte _ | (simp only [inK, Int.toNat_natCast, etas, elDef] <;> first | omega | grind) | grind [inK]) ?_ <;> conv => whnf)
    | (refine Gd.mk (fun h => ?_) <;> (try simp [etas, elDef, -List.getD_eq_getElem?_getD] at h) <;> conv => whnf)
    | (refine And.intro ?_ ?_ <;> conv => whnf)
    | exact True.intro
    | (intro; conv => whnf)
  all_goals exact hK _ _ (by omega)
theorem s44 : (CtrOK Tryd.prog 44 (.gen .ps C44) ∧ Callable Tryd.prog 44) := by
  refine gen_ok (E := E44) (mkE_cons s45 (mkE_cons s70 (mkE_cons s71 (mkE_nil tab_ok)))) mix (O := O44) (C := C44) (own := .ps) Tryd.func44 rfl (by rfl) (by kernel_rfl) (fun args K h hbd => ?_)
  unfold C44 at h; split at h
  case h_2 => exact h.elim
  exact ⟨Nat.le_of_ble_eq_true rfl, a44 _ _ ⟨_, _, _, _, _⟩ (by exact hbd) _ h⟩
noncomputable def v79 (a : Nd) (b : Nd) : AV := .bool (decide (cmpN a b = 0))
noncomputable def o79 (a : Nd) (b : Nd) : Prop := okN a ∧ okN b
noncomputable def F79 : List AV → QR
  | [.st [.int .i64 a_0, .int .i64 a_1, .str a_2, .ps .str a_3, .ps .node a_4], .st [.int .i64 b_0, .int .i64 b_1, .str b_2, .ps .str b_3, .ps .node b_4]] => some (some (o79 ⟨a_0, a_1, a_2, a_3, a_4⟩ ⟨b_0, b_1, b_2, b_3, b_4⟩), v79 ⟨a_0, a_1, a_2, a_3, a_4⟩ ⟨b_0, b_1, b_2, b_3, b_4⟩)
  | _ => none
noncomputable def E79 : Ctx := mkE tab [(95, .pure F95)]
noncomputable def O79 : Nat → List DI := ordL []
theorem a79 (a : Nd) (b : Nd) (hb : BdAs [.st (ndC a), .st (ndC b)]) (ho : o79 a b) (K : AV → List AV → Prop) (hK : K (v79 a b) []) : abody E79 O79 .ps Tryd.f79 (Tryd.f79.body.getD .skip) [.st (ndC a), .st (ndC b)] K := by
  simp only [BdAs, BdA, BdL, BdC, MX, ndC, shC, itC, stC, opC, chC, nwC, flC, rqC, rsC, enc, List.cons_append, List.nil_append, and_true, true_and] at hb
  unfold o79 at ho
  unfold v79 at hK
  conv => whnf
  repeat' first
    | (refine Cnd.mk (fun h => ?_) (fun h => ?_) <;> (try simp [etas, elDef, -List.getD_eq_getElem?_getD] at h) <;> conv => whnf)
    | (refine Obl.mk (by first | omega | rfl | exact inK_byte _ | (simp only [inK, Int.toNat_natCast, etas, elDef, o95, m95] <;> first | omega | grind) | grind [inK, o95, m95]) ?_ <;> conv => whnf)
    | (refine OblG.mk (by conv => whnf
                          repeat (first | (refine Bx.mk ?_) | (intro h; (try simp [etas, elDef, -List.getD_eq_getElem?_getD] at h); conv => whnf))
                          first | omega | rfl | exact inK_byte _ | (simp only [inK, Int.toNat_natCast, etas, elDef, o95, m95] <;> first | omega | grind) | grind [inK, o95, m95]) ?_ <;> conv => whnf)
    | (refine Gd.mk (fun h => ?_) <;> (try simp [etas, elDef, -List.getD_eq_getElem?_getD] at h) <;> conv => whnf)
    | (refine And.intro ?_ ?_ <;> conv => whnf)
    | exact True.intro
    | (intro; conv => whnf)
  all_goals first | exact hK | exact leafB hK (by simp only [nd_eta])
theorem s79 : (CtrOK Tryd.prog 79 (.pure F79) ∧ Callable Tryd.prog 79) := by
  refine pure_ok (E := E79) (mkE_cons s95 (mkE_nil tab_ok)) mix (O := O79) (F := F79) Tryd.func79 rfl (by rfl) (by kernel_rfl) (fun args o v h => ?_) (fun args o v h => ?_) (fun args o v h hbd hp K hK => ?_)
  · unfold F79 at h; split at h <;> cases h; first | trivial | (simp [v79, Scalar, Scalar2, Scalar1, stC, ndC, itC, chC, nwC])
  · unfold F79 at h; split at h <;> cases h; exact Nat.le_of_ble_eq_true rfl
  · unfold F79 at h; split at h
    case h_2 => cases h
    cases h
    exact a79 ⟨_, _, _, _, _⟩ ⟨_, _, _, _, _⟩ (by exact hbd) (hp _ rfl) K hK
end Go.Rs

