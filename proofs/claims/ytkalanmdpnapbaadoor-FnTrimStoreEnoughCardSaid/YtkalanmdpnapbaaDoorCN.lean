import Derived.Test.YtkalanmdpnapbaaDoorCM
set_option linter.all false
namespace Go.Rs
open Go.Proofs
set_option maxRecDepth 100000
set_option linter.unusedVariables false
set_option linter.unusedSimpArgs false
noncomputable def c60 (code : List Int) (p : Int) (K : AV → List AV → Prop) : Prop :=
    Obl ((0 ≤ p ∧ p ≤ 5000000) ∧ byOk code) (∀ (l : List It) (c : Int) (p' : Int), (l.length ≤ 10 ∧ 0 ≤ c ∧ c ≤ 999) → p ≤ p' ∧ p' ≤ p + 40000 → K (.st [.own .item l, .int .i64 c]) [.ref [.ps .u8 code, .int .i64 p']])
noncomputable def C60 : List AV → (AV → List AV → Prop) → Prop
  | [.ref [.ps .u8 code, .int .i64 p]], K => c60 code p K
  | _, _ => False
noncomputable def E60 : Ctx := mkE tab [(15, .gen .ln C15), (52, .gen .ps C52), (53, .gen .ps C53), (65, .gen .ps C65), (66, .gen .ow C66), (82, .gen .ln C82)]
noncomputable def O60 : Nat → List DI := ordL [(5, [.q 0, .q 1, .q 3, .l 2 [0], .l 4 [0], .l 5 [], .q 6, .q 7, .q 8, .a 9, .l 10 [], .q 11]), (7, [.q 0, .q 1, .l 2 [0], .l 3 [], .q 4, .q 5, .q 6, .l 7 [], .q 8])]
theorem a60 (code : List Int) (p : Int) (hb : BdAs [.ref [.ps .u8 code, .int .i64 p]]) (K : AV → List AV → Prop) (h : c60 code p K) : abody E60 O60 .ow Tryd.f60 (Tryd.f60.body.getD .skip) [.ref [.ps .u8 code, .int .i64 p]] K := by
  simp only [BdAs, BdA, BdL, BdC, MX, ndC, shC, itC, stC, opC, chC, nwC, flC, rqC, rsC, enc, List.cons_append, List.nil_append, and_true, true_and] at hb
  unfold c60 at h
  obtain ⟨⟨hp, ho⟩, hK⟩ := h
  conv => whnf
  repeat' first
    | (refine Cnd.mk (fun h => ?_) (fun h => ?_) <;> (try simp [etas, elDef, -List.getD_eq_getElem?_getD] at h) <;> conv => whnf)
    | (refine Obl.mk (by first | omega | rfl | exact inK_byte _ | (simp only [inK, Int.toNat_natCast, etas, elDef] <;> first | omega | grind) | grind [inK]) ?_ <;> conv => whnf)
    | (refine OblG.mk (by conv => whnf
                          repeat (first | (refine Bx.mk ?_) | (intro h; (try simp [etas, elDef, -List.getD_eq_getElem?_getD] at h); conv => whnf))
                          first | omega | rfl | exact inK_byte _ | (simp only [inK, Int.toNat_natCast, etas, elDef] <;> first | omega | grind) | grind [inK]) ?_ <;> conv => whnf)
    | (refine Gd.mk (fun h => ?_) <;> (try simp [etas, elDef, -List.getD_eq_getElem?_getD] at h) <;> conv => whnf)
    | (refine And.intro ?_ ?_ <;> conv => whnf)
    | exact True.intro
    | (intro; conv => whnf)
  rename_i r hr
  have hr0 : 0 ≤ r ∧ r ≤ 12 := by simp at hr; omega
  refine aloop_intro (Int × Int × List It × Int) (fun ⟨c, q, l, k⟩ => 0 ≤ c ∧ p ≤ q ∧ q + c * 3000 ≤ p + 1 + 12 * 3000 ∧ (l.length ≤ 10 ∧ 0 ≤ k ∧ k ≤ 999)) (fun ⟨c, q, l, k⟩ => c.toNat) (fun ⟨c, q, l, k⟩ => [(4, .int .i64 c)]) (fun ⟨c, q, l, k⟩ => [(900, .arr .item l), (3, .box [.ls 900, .int .i64 k]), (1000000, .box [.ps .u8 code, .int .i64 q])]) [2] (r, p + 1, [], 0) [(900, 7)] [] ?_ ?_ (by exact sgOk_of (by rfl)) ?_
  · first | (simp; done) | (simp; assumption) | (simp only; grind)
  · (conv => whnf); (repeat' (first | exact trivial | rfl | (refine nilEq ?_; first | rfl | (simp only [*]; done) | (simp [*]; done) | grind) | apply And.intro | ((first | refine intEq ?_ | refine boolEq ?_ | refine strEq ?_ | refine psEq ?_ | refine nilEq ?_ | refine arrEq ?_); (try simp only [Int.toNat_natCast, etas, elDef]); first | done | omega | grind | (simp only [*]; done) | (simp [*]; done)))); (all_goals (conv => whnf)); (repeat' (first | exact trivial | rfl | (refine nilEq ?_; first | rfl | (simp only [*]; done) | (simp [*]; done) | grind) | apply And.intro | ((first | refine intEq ?_ | refine boolEq ?_ | refine strEq ?_ | refine psEq ?_ | refine nilEq ?_ | refine arrEq ?_); (try simp only [Int.toNat_natCast, etas, elDef]); first | done | omega | grind | (simp only [*]; done) | (simp [*]; done)) | ((try simp only [Int.toNat_natCast, etas, elDef]); first | done | omega | grind | (simp only [*]; done) | (simp [*]; done))))
  rintro ⟨c, q, l, k⟩ hinv
  dsimp only at hinv
  conv => whnf
  obtain ⟨hi1, hi2, hi3, hi4⟩ := hinv
  repeat' first
    | (refine Cnd.mk (fun h => ?_) (fun h => ?_) <;> (try simp [etas, elDef, -List.getD_eq_getElem?_getD] at h) <;> conv => whnf)
    | (refine Obl.mk (by first | omega | rfl | exact inK_byte _ | (simp only [inK, Int.toNat_natCast, etas, elDef] <;> first | omega | grind) | grind [inK]) ?_ <;> conv => whnf)
    | (refine OblG.mk (by conv => whnf
                          repeat (first | (refine Bx.mk ?_) | (intro h; (try simp [etas, elDef, -List.getD_eq_getElem?_getD] at h); conv => whnf))
                          first | omega | rfl | exact inK_byte _ | (simp only [inK, Int.toNat_natCast, etas, elDef] <;> first | omega | grind) | grind [inK]) ?_ <;> conv => whnf)
    | (refine Gd.mk (fun h => ?_) <;> (try simp [etas, elDef, -List.getD_eq_getElem?_getD] at h) <;> conv => whnf)
    | (refine And.intro ?_ ?_ <;> conv => whnf)
    | exact True.intro
    | (intro; conv => whnf)
  · rename_i nm hn n1 n2 n3 n4 n5 p2 hsm hq hv r1 hr1 hz nm2 hn2
    have hd9 := sto_small (r := dropItemM ⟨l, k⟩ nm2) fun t h => dropItemM_ok h
    exact ⟨(c - 1, p2 + 2, ((dropItemM ⟨l, k⟩ nm2).getD ⟨[], 0⟩).items, ((dropItemM ⟨l, k⟩ nm2).getD ⟨[], 0⟩).clock), [(900, 33000)], [], ⟨by omega, by omega, by omega, by omega⟩, by simp only; omega, by (conv => whnf); (repeat' (first | exact trivial | rfl | (refine nilEq ?_; first | rfl | (simp only [*]; done) | (simp [*]; done) | grind) | apply And.intro | ((first | refine intEq ?_ | refine boolEq ?_ | refine strEq ?_ | refine psEq ?_ | refine nilEq ?_ | refine arrEq ?_); (try simp only [Int.toNat_natCast, etas, elDef]); first | done | omega | grind | (simp only [*]; done) | (simp [*]; done)))); (all_goals (conv => whnf)); (repeat' (first | exact trivial | rfl | (refine nilEq ?_; first | rfl | (simp only [*]; done) | (simp [*]; done) | grind) | apply And.intro | ((first | refine intEq ?_ | refine boolEq ?_ | refine strEq ?_ | refine psEq ?_ | refine nilEq ?_ | refine arrEq ?_); (try simp only [Int.toNat_natCast, etas, elDef]); first | done | omega | grind | (simp only [*]; done) | (simp [*]; done)) | ((try simp only [Int.toNat_natCast, etas, elDef]); first | done | omega | grind | (simp only [*]; done) | (simp [*]; done)))), (by exact sgOk_of (by rfl))⟩
  · rename_i nm hn n1 n2 n3 n4 n5 p2 hsm hq hv r1 hr1 hz nm2 hn2
    exact ⟨(c - 1, p2 + 2, l, k), [], [], ⟨by omega, by omega, by omega, by omega⟩, by simp only; omega, by (conv => whnf); (repeat' (first | exact trivial | rfl | (refine nilEq ?_; first | rfl | (simp only [*]; done) | (simp [*]; done) | grind) | apply And.intro | ((first | refine intEq ?_ | refine boolEq ?_ | refine strEq ?_ | refine psEq ?_ | refine nilEq ?_ | refine arrEq ?_); (try simp only [Int.toNat_natCast, etas, elDef]); first | done | omega | grind | (simp only [*]; done) | (simp [*]; done)))); (all_goals (conv => whnf)); (repeat' (first | exact trivial | rfl | (refine nilEq ?_; first | rfl | (simp only [*]; done) | (simp [*]; done) | grind) | apply And.intro | ((first | refine intEq ?_ | refine boolEq ?_ | refine strEq ?_ | refine psEq ?_ | refine nilEq ?_ | refine arrEq ?_); (try simp only [Int.toNat_natCast, etas, elDef]); first | done | omega | grind | (simp only [*]; done) | (simp [*]; done)) | ((try simp only [Int.toNat_natCast, etas, elDef]); first | done | omega | grind | (simp only [*]; done) | (simp [*]; done)))), (by exact sgOk_of (by rfl))⟩
  · rename_i nm hn n1 n2 n3 n4 n5 p2 hsm hq hv r1 hr1 hz
    have hd9 := sto_small (r := putItemM ⟨l, k⟩ nm ⟨n1, n2, n3, n4, n5⟩) fun t h => putItemM_ok h
    exact ⟨(c - 1, p2 + 1, ((putItemM ⟨l, k⟩ nm ⟨n1, n2, n3, n4, n5⟩).getD ⟨[], 0⟩).items, ((putItemM ⟨l, k⟩ nm ⟨n1, n2, n3, n4, n5⟩).getD ⟨[], 0⟩).clock), [(900, 23000)], [], ⟨by omega, by omega, by omega, by omega⟩, by simp only; omega, by (conv => whnf); (repeat' (first | exact trivial | rfl | (refine nilEq ?_; first | rfl | (simp only [*]; done) | (simp [*]; done) | grind) | apply And.intro | ((first | refine intEq ?_ | refine boolEq ?_ | refine strEq ?_ | refine psEq ?_ | refine nilEq ?_ | refine arrEq ?_); (try simp only [Int.toNat_natCast, etas, elDef]); first | done | omega | grind | (simp only [*]; done) | (simp [*]; done)))); (all_goals (conv => whnf)); (repeat' (first | exact trivial | rfl | (refine nilEq ?_; first | rfl | (simp only [*]; done) | (simp [*]; done) | grind) | apply And.intro | ((first | refine intEq ?_ | refine boolEq ?_ | refine strEq ?_ | refine psEq ?_ | refine nilEq ?_ | refine arrEq ?_); (try simp only [Int.toNat_natCast, etas, elDef]); first | done | omega | grind | (simp only [*]; done) | (simp [*]; done)) | ((try simp only [Int.toNat_natCast, etas, elDef]); first | done | omega | grind | (simp only [*]; done) | (simp [*]; done)))), (by exact sgOk_of (by rfl))⟩
  · rename_i nm hn n1 n2 n3 n4 n5 p2 hsm hq hv r1 hr1 hz
    exact ⟨(c - 1, p2 + 1, l, k), [], [], ⟨by omega, by omega, by omega, by omega⟩, by simp only; omega, by (conv => whnf); (repeat' (first | exact trivial | rfl | (refine nilEq ?_; first | rfl | (simp only [*]; done) | (simp [*]; done) | grind) | apply And.intro | ((first | refine intEq ?_ | refine boolEq ?_ | refine strEq ?_ | refine psEq ?_ | refine nilEq ?_ | refine arrEq ?_); (try simp only [Int.toNat_natCast, etas, elDef]); first | done | omega | grind | (simp only [*]; done) | (simp [*]; done)))); (all_goals (conv => whnf)); (repeat' (first | exact trivial | rfl | (refine nilEq ?_; first | rfl | (simp only [*]; done) | (simp [*]; done) | grind) | apply And.intro | ((first | refine intEq ?_ | refine boolEq ?_ | refine strEq ?_ | refine psEq ?_ | refine nilEq ?_ | refine arrEq ?_); (try simp only [Int.toNat_natCast, etas, elDef]); first | done | omega | grind | (simp only [*]; done) | (simp [*]; done)) | ((try simp only [Int.toNat_natCast, etas, elDef]); first | done | omega | grind | (simp only [*]; done) | (simp [*]; done)))), (by exact sgOk_of (by rfl))⟩
  · rename_i nm hn n1 n2 n3 n4 n5 p2 hsm hq r1 hr1 hz nm2 hn2
    have hd9 := sto_small (r := dropItemM ⟨l, k⟩ nm2) fun t h => dropItemM_ok h
    exact ⟨(c - 1, p2 + 2, ((dropItemM ⟨l, k⟩ nm2).getD ⟨[], 0⟩).items, ((dropItemM ⟨l, k⟩ nm2).getD ⟨[], 0⟩).clock), [(900, 33000)], [], ⟨by omega, by omega, by omega, by omega⟩, by simp only; omega, by (conv => whnf); (repeat' (first | exact trivial | rfl | (refine nilEq ?_; first | rfl | (simp only [*]; done) | (simp [*]; done) | grind) | apply And.intro | ((first | refine intEq ?_ | refine boolEq ?_ | refine strEq ?_ | refine psEq ?_ | refine nilEq ?_ | refine arrEq ?_); (try simp only [Int.toNat_natCast, etas, elDef]); first | done | omega | grind | (simp only [*]; done) | (simp [*]; done)))); (all_goals (conv => whnf)); (repeat' (first | exact trivial | rfl | (refine nilEq ?_; first | rfl | (simp only [*]; done) | (simp [*]; done) | grind) | apply And.intro | ((first | refine intEq ?_ | refine boolEq ?_ | refine strEq ?_ | refine psEq ?_ | refine nilEq ?_ | refine arrEq ?_); (try simp only [Int.toNat_natCast, etas, elDef]); first | done | omega | grind | (simp only [*]; done) | (simp [*]; done)) | ((try simp only [Int.toNat_natCast, etas, elDef]); first | done | omega | grind | (simp only [*]; done) | (simp [*]; done)))), (by exact sgOk_of (by rfl))⟩
  · rename_i nm hn n1 n2 n3 n4 n5 p2 hsm hq r1 hr1 hz nm2 hn2
    exact ⟨(c - 1, p2 + 2, l, k), [], [], ⟨by omega, by omega, by omega, by omega⟩, by simp only; omega, by (conv => whnf); (repeat' (first | exact trivial | rfl | (refine nilEq ?_; first | rfl | (simp only [*]; done) | (simp [*]; done) | grind) | apply And.intro | ((first | refine intEq ?_ | refine boolEq ?_ | refine strEq ?_ | refine psEq ?_ | refine nilEq ?_ | refine arrEq ?_); (try simp only [Int.toNat_natCast, etas, elDef]); first | done | omega | grind | (simp only [*]; done) | (simp [*]; done)))); (all_goals (conv => whnf)); (repeat' (first | exact trivial | rfl | (refine nilEq ?_; first | rfl | (simp only [*]; done) | (simp [*]; done) | grind) | apply And.intro | ((first | refine intEq ?_ | refine boolEq ?_ | refine strEq ?_ | refine psEq ?_ | refine nilEq ?_ | refine arrEq ?_); (try simp only [Int.toNat_natCast, etas, elDef]); first | done | omega | grind | (simp only [*]; done) | (simp [*]; done)) | ((try simp only [Int.toNat_natCast, etas, elDef]); first | done | omega | grind | (simp only [*]; done) | (simp [*]; done)))), (by exact sgOk_of (by rfl))⟩
  · rename_i nm hn n1 n2 n3 n4 n5 p2 hsm hq r1 hr1 hz
    exact ⟨(c - 1, p2 + 1, l, k), [], [], ⟨by omega, by omega, by omega, by omega⟩, by simp only; omega, by (conv => whnf); (repeat' (first | exact trivial | rfl | (refine nilEq ?_; first | rfl | (simp only [*]; done) | (simp [*]; done) | grind) | apply And.intro | ((first | refine intEq ?_ | refine boolEq ?_ | refine strEq ?_ | refine psEq ?_ | refine nilEq ?_ | refine arrEq ?_); (try simp only [Int.toNat_natCast, etas, elDef]); first | done | omega | grind | (simp only [*]; done) | (simp [*]; done)))); (all_goals (conv => whnf)); (repeat' (first | exact trivial | rfl | (refine nilEq ?_; first | rfl | (simp only [*]; done) | (simp [*]; done) | grind) | apply And.intro | ((first | refine intEq ?_ | refine boolEq ?_ | refine strEq ?_ | refine psEq ?_ | refine nilEq ?_ | refine arrEq ?_); (try simp only [Int.toNat_natCast, etas, elDef]); first | done | omega | grind | (simp only [*]; done) | (simp [*]; done)) | ((try simp only [Int.toNat_natCast, etas, elDef]); first | done | omega | grind | (simp only [*]; done) | (simp [*]; done)))), (by exact sgOk_of (by rfl))⟩
  · exact hK _ _ _ hi4 (by omega)
theorem s60 : (CtrOK Tryd.prog 60 (.gen .ow C60) ∧ Callable Tryd.prog 60) := by
  refine gen_ok (E := E60) (mkE_cons s15 (mkE_cons s52 (mkE_cons s53 (mkE_cons s65 (mkE_cons s66 (mkE_cons s82 (mkE_nil tab_ok))))))) mix (O := O60) (C := C60) (own := .ow) Tryd.func60 rfl (by rfl) (by kernel_rfl) (fun args K h hbd => ?_)
  unfold C60 at h; split at h
  case h_2 => exact h.elim
  exact ⟨Nat.le_of_ble_eq_true rfl, a60 _ _ (by exact hbd) _ h⟩
noncomputable def c29 (code : List Int) (p : Int) (K : AV → List AV → Prop) : Prop :=
    Obl ((0 ≤ p ∧ p ≤ 5000000) ∧ byOk code) (∀ (s : Sto) (p' : Int), p ≤ p' ∧ p' ≤ p + 60000 → K (.st (stC s)) [.ref [.ps .u8 code, .int .i64 p']])
noncomputable def C29 : List AV → (AV → List AV → Prop) → Prop
  | [.ref [.ps .u8 code, .int .i64 p]], K => c29 code p K
  | _, _ => False
noncomputable def E29 : Ctx := mkE tab [(36, .gen .ps C36), (52, .gen .ps C52), (53, .gen .ps C53), (60, .gen .ow C60), (61, .gen .ps C61)]
noncomputable def O29 : Nat → List DI := ordL [(6, [.q 0, .q 1, .q 2, .l 3 [1], .q 4, .l 5 [1], .l 6 [], .q 7, .l 8 []]), (9, [.q 0, .q 1, .q 2, .q 3, .q 4, .q 5, .l 6 [1], .l 7 [1], .q 8, .q 9, .l 10 []]), (12, [.q 0, .q 1, .q 2, .l 3 [1], .q 4, .q 5, .l 6 []])]
theorem a29 (code : List Int) (p : Int) (hb : BdAs [.ref [.ps .u8 code, .int .i64 p]]) (K : AV → List AV → Prop) (h : c29 code p K) : abody E29 O29 .ps Tryd.f29 (Tryd.f29.body.getD .skip) [.ref [.ps .u8 code, .int .i64 p]] K := by
  simp only [BdAs, BdA, BdL, BdC, MX, ndC, shC, itC, stC, opC, chC, nwC, flC, rqC, rsC, enc, List.cons_append, List.nil_append, and_true, true_and] at hb
  unfold c29 at h
  obtain ⟨⟨hp, ho⟩, hK⟩ := h
  conv => whnf
  repeat' first
    | (refine Cnd.mk (fun h => ?_) (fun h => ?_) <;> (try simp [etas, elDef, -List.getD_eq_getElem?_getD] at h) <;> conv => whnf)
    | (refine Obl.mk (by first | omega | rfl | exact inK_byte _ | (simp only [inK, Int.toNat_natCast, etas, elDef] <;> first | omega | grind) | grind [inK]) ?_ <;> conv => whnf)
    | (refine OblG.mk (by conv => whnf
                          repeat (first | (refine Bx.mk ?_) | (intro h; (try simp [etas, elDef, -List.getD_eq_getElem?_getD] at h); conv => whnf))
                          first | omega | rfl | exact inK_byte _ | (simp only [inK, Int.toNat_natCast, etas, elDef] <;> first | omega | grind) | grind [inK]) ?_ <;> conv => whnf)
    | (refine Gd.mk (fun h => ?_) <;> (try simp [etas, elDef, -List.getD_eq_getElem?_getD] at h) <;> conv => whnf)
    | (refine And.intro ?_ ?_ <;> conv => whnf)
    | exact True.intro
    | (intro; conv => whnf)
  all_goals exact hK ⟨_, _⟩ _ (by omega)
theorem s29 : (CtrOK Tryd.prog 29 (.gen .ps C29) ∧ Callable Tryd.prog 29) := by
  refine gen_ok (E := E29) (mkE_cons s36 (mkE_cons s52 (mkE_cons s53 (mkE_cons s60 (mkE_cons s61 (mkE_nil tab_ok)))))) mix (O := O29) (C := C29) (own := .ps) Tryd.func29 rfl (by rfl) (by kernel_rfl) (fun args K h hbd => ?_)
  unfold C29 at h; split at h
  case h_2 => exact h.elim
  exact ⟨Nat.le_of_ble_eq_true rfl, a29 _ _ (by exact hbd) _ h⟩
end Go.Rs

