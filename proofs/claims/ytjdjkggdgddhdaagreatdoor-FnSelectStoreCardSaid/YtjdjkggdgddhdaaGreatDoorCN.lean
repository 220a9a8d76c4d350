import Derived.Test.YtjdjkggdgddhdaaGreatDoorCM
set_option linter.all false
namespace Go.Rs
open Go.Proofs
set_option maxRecDepth 100000
set_option linter.unusedVariables false
set_option linter.unusedSimpArgs false
noncomputable def c38 (code : List Int) (p : Int) (K : AV → List AV → Prop) : Prop :=
    Obl ((0 ≤ p ∧ p ≤ 5000000) ∧ byOk code) (∀ (l : List It) (c : Int) (p' : Int), (l.length ≤ 10 ∧ 0 ≤ c ∧ c ≤ 999) → p ≤ p' ∧ p' ≤ p + 40000 → K (.st [.own .item l, .int .i64 c]) [.ref [.ps .u8 code, .int .i64 p']])
noncomputable def C38 : List AV → (AV → List AV → Prop) → Prop
  | [.ref [.ps .u8 code, .int .i64 p]], K => c38 code p K
  | _, _ => False
noncomputable def E38 : Ctx := mkE tab [(24, .gen .ps C24), (25, .gen .ps C25), (55, .gen .ln C55), (56, .gen .ps C56), (57, .gen .ow C57), (58, .gen .ln C58)]
noncomputable def O38 : Nat → List DI := ordL [(5, [.q 0, .q 1, .q 3, .l 2 [0], .l 4 [0], .l 5 [], .q 6, .q 7, .q 8, .a 9, .l 10 [], .q 11]), (7, [.q 0, .q 1, .l 2 [0], .l 3 [], .q 4, .q 5, .q 6, .l 7 [], .q 8])]
theorem a38 (code : List Int) (p : Int) (hb : BdAs [.ref [.ps .u8 code, .int .i64 p]]) (K : AV → List AV → Prop) (h : c38 code p K) : abody E38 O38 .ow Tryz.f38 (Tryz.f38.body.getD .skip) [.ref [.ps .u8 code, .int .i64 p]] K := by
  simp only [BdAs, BdA, BdL, BdC, MX, ndC, shC, itC, stC, opC, chC, nwC, flC, rqC, rsC, enc, List.cons_append, List.nil_append, and_true, true_and] at hb
  unfold c38 at h
  obtain ⟨⟨hp, ho⟩, hK⟩ := h
  conv => whnf
  repeat' first
    | (refine Cnd.mk (fun h => ?_) (fun h => ?_) <;> (try simp [nd_eta, sh_eta, it_eta, sto_eta, op_eta, ch_eta, nw_eta, fl_eta, rq_eta, rs_eta, elDef, -List.getD_eq_getElem?_getD] at h) <;> conv => whnf)
    | (refine Obl.mk (by first | omega | rfl | exact inK_byte _ | (simp only [inK, Int.toNat_natCast, nd_eta, sh_eta, it_eta, sto_eta, op_eta, ch_eta, nw_eta, fl_eta, rq_eta, rs_eta, elDef] <;> first | omega | grind) | grind [inK]) ?_ <;> conv => whnf)
    | (refine OblG.mk (by conv => whnf
                          repeat (first | (refine Bx.mk ?_) | (intro h; (try simp [nd_eta, sh_eta, it_eta, sto_eta, op_eta, ch_eta, nw_eta, fl_eta, rq_eta, rs_eta, elDef, -List.getD_eq_getElem?_getD] at h); conv => whnf))
                          first | omega | rfl | exact inK_byte _ | (simp only [inK, Int.toNat_natCast, nd_eta, sh_eta, it_eta, sto_eta, op_eta, ch_eta, nw_eta, fl_eta, rq_eta, rs_eta, elDef] <;> first | omega | grind) | grind [inK]) ?_ <;> conv => whnf)
    | (refine Gd.mk (fun h => ?_) <;> (try simp [nd_eta, sh_eta, it_eta, sto_eta, op_eta, ch_eta, nw_eta, fl_eta, rq_eta, rs_eta, elDef, -List.getD_eq_getElem?_getD] at h) <;> conv => whnf)
    | (refine And.intro ?_ ?_ <;> conv => whnf)
    | exact True.intro
    | (intro; conv => whnf)
  rename_i r hr
  have hr0 : 0 ≤ r ∧ r ≤ 12 := by simp at hr; omega
  refine aloop_intro (Int × Int × List It × Int) (fun ⟨c, q, l, k⟩ => 0 ≤ c ∧ p ≤ q ∧ q + c * 3000 ≤ p + 1 + 12 * 3000 ∧ (l.length ≤ 10 ∧ 0 ≤ k ∧ k ≤ 999)) (fun ⟨c, q, l, k⟩ => c.toNat) (fun ⟨c, q, l, k⟩ => [(4, .int .i64 c)]) (fun ⟨c, q, l, k⟩ => [(900, .arr .item l), (3, .box [.ls 900, .int .i64 k]), (1000000, .box [.ps .u8 code, .int .i64 q])]) [2] (r, p + 1, [], 0) [(900, 7)] [] ?_ ?_ (by exact sgOk_of (by rfl)) ?_
  · first | (simp; done) | (simp; assumption) | (simp only; grind)
  · (conv => whnf); (repeat' (first | exact trivial | rfl | (refine nilEq ?_; first | rfl | (simp only [*]; done) | (simp [*]; done) | grind) | apply And.intro | ((first | refine intEq ?_ | refine boolEq ?_ | refine strEq ?_ | refine psEq ?_ | refine nilEq ?_ | refine arrEq ?_); (try simp only [Int.toNat_natCast, nd_eta, sh_eta, it_eta, sto_eta, op_eta, ch_eta, nw_eta, fl_eta, rq_eta, rs_eta, elDef]); first | done | omega | grind | (simp only [*]; done) | (simp [*]; done)))); (all_goals (conv => whnf)); (repeat' (first | exact trivial | rfl | (refine nilEq ?_; first | rfl | (simp only [*]; done) | (simp [*]; done) | grind) | apply And.intro | ((first | refine intEq ?_ | refine boolEq ?_ | refine strEq ?_ | refine psEq ?_ | refine nilEq ?_ | refine arrEq ?_); (try simp only [Int.toNat_natCast, nd_eta, sh_eta, it_eta, sto_eta, op_eta, ch_eta, nw_eta, fl_eta, rq_eta, rs_eta, elDef]); first | done | omega | grind | (simp only [*]; done) | (simp [*]; done)) | ((try simp only [Int.toNat_natCast, nd_eta, sh_eta, it_eta, sto_eta, op_eta, ch_eta, nw_eta, fl_eta, rq_eta, rs_eta, elDef]); first | done | omega | grind | (simp only [*]; done) | (simp [*]; done))))
  rintro ⟨c, q, l, k⟩ hinv
  dsimp only at hinv
  conv => whnf
  obtain ⟨hi1, hi2, hi3, hi4⟩ := hinv
  repeat' first
    | (refine Cnd.mk (fun h => ?_) (fun h => ?_) <;> (try simp [nd_eta, sh_eta, it_eta, sto_eta, op_eta, ch_eta, nw_eta, fl_eta, rq_eta, rs_eta, elDef, -List.getD_eq_getElem?_getD] at h) <;> conv => whnf)
    | (refine Obl.mk (by first | omega | rfl | exact inK_byte _ | (simp only [inK, Int.toNat_natCast, nd_eta, sh_eta, it_eta, sto_eta, op_eta, ch_eta, nw_eta, fl_eta, rq_eta, rs_eta, elDef] <;> first | omega | grind) | grind [inK]) ?_ <;> conv => whnf)
    | (refine OblG.mk (by conv => whnf
                          repeat (first | (refine Bx.mk ?_) | (intro h; (try simp [nd_eta, sh_eta, it_eta, sto_eta, op_eta, ch_eta, nw_eta, fl_eta, rq_eta, rs_eta, elDef, -List.getD_eq_getElem?_getD] at h); conv => whnf))
                          first | omega | rfl | exact inK_byte _ | (simp only [inK, Int.toNat_natCast, nd_eta, sh_eta, it_eta, sto_eta, op_eta, ch_eta, nw_eta, fl_eta, rq_eta, rs_eta, elDef] <;> first | omega | grind) | grind [inK]) ?_ <;> conv => whnf)
    | (refine Gd.mk (fun h => ?_) <;> (try simp [nd_eta, sh_eta, it_eta, sto_eta, op_eta, ch_eta, nw_eta, fl_eta, rq_eta, rs_eta, elDef, -List.getD_eq_getElem?_getD] at h) <;> conv => whnf)
    | (refine And.intro ?_ ?_ <;> conv => whnf)
    | exact True.intro
    | (intro; conv => whnf)
  · rename_i nm hn n1 n2 n3 n4 n5 p2 hsm hq hv r1 hr1 hz nm2 hn2
    have hd9 := sto_small (r := dropItemM ⟨l, k⟩ nm2) fun t h => dropItemM_ok h
    exact ⟨(c - 1, p2 + 2, ((dropItemM ⟨l, k⟩ nm2).getD ⟨[], 0⟩).items, ((dropItemM ⟨l, k⟩ nm2).getD ⟨[], 0⟩).clock), [(900, 33000)], [], ⟨by omega, by omega, by omega, by omega⟩, by simp only; omega, by (conv => whnf); (repeat' (first | exact trivial | rfl | (refine nilEq ?_; first | rfl | (simp only [*]; done) | (simp [*]; done) | grind) | apply And.intro | ((first | refine intEq ?_ | refine boolEq ?_ | refine strEq ?_ | refine psEq ?_ | refine nilEq ?_ | refine arrEq ?_); (try simp only [Int.toNat_natCast, nd_eta, sh_eta, it_eta, sto_eta, op_eta, ch_eta, nw_eta, fl_eta, rq_eta, rs_eta, elDef]); first | done | omega | grind | (simp only [*]; done) | (simp [*]; done)))); (all_goals (conv => whnf)); (repeat' (first | exact trivial | rfl | (refine nilEq ?_; first | rfl | (simp only [*]; done) | (simp [*]; done) | grind) | apply And.intro | ((first | refine intEq ?_ | refine boolEq ?_ | refine strEq ?_ | refine psEq ?_ | refine nilEq ?_ | refine arrEq ?_); (try simp only [Int.toNat_natCast, nd_eta, sh_eta, it_eta, sto_eta, op_eta, ch_eta, nw_eta, fl_eta, rq_eta, rs_eta, elDef]); first | done | omega | grind | (simp only [*]; done) | (simp [*]; done)) | ((try simp only [Int.toNat_natCast, nd_eta, sh_eta, it_eta, sto_eta, op_eta, ch_eta, nw_eta, fl_eta, rq_eta, rs_eta, elDef]); first | done | omega | grind | (simp only [*]; done) | (simp [*]; done)))), (by exact sgOk_of (by rfl))⟩
  · rename_i nm hn n1 n2 n3 n4 n5 p2 hsm hq hv r1 hr1 hz nm2 hn2
    exact ⟨(c - 1, p2 + 2, l, k), [], [], ⟨by omega, by omega, by omega, by omega⟩, by simp only; omega, by (conv => whnf); (repeat' (first | exact trivial | rfl | (refine nilEq ?_; first | rfl | (simp only [*]; done) | (simp [*]; done) | grind) | apply And.intro | ((first | refine intEq ?_ | refine boolEq ?_ | refine strEq ?_ | refine psEq ?_ | refine nilEq ?_ | refine arrEq ?_); (try simp only [Int.toNat_natCast, nd_eta, sh_eta, it_eta, sto_eta, op_eta, ch_eta, nw_eta, fl_eta, rq_eta, rs_eta, elDef]); first | done | omega | grind | (simp only [*]; done) | (simp [*]; done)))); (all_goals (conv => whnf)); (repeat' (first | exact trivial | rfl | (refine nilEq ?_; first | rfl | (simp only [*]; done) | (simp [*]; done) | grind) | apply And.intro | ((first | refine intEq ?_ | refine boolEq ?_ | refine strEq ?_ | refine psEq ?_ | refine nilEq ?_ | refine arrEq ?_); (try simp only [Int.toNat_natCast, nd_eta, sh_eta, it_eta, sto_eta, op_eta, ch_eta, nw_eta, fl_eta, rq_eta, rs_eta, elDef]); first | done | omega | grind | (simp only [*]; done) | (simp [*]; done)) | ((try simp only [Int.toNat_natCast, nd_eta, sh_eta, it_eta, sto_eta, op_eta, ch_eta, nw_eta, fl_eta, rq_eta, rs_eta, elDef]); first | done | omega | grind | (simp only [*]; done) | (simp [*]; done)))), (by exact sgOk_of (by rfl))⟩
  · rename_i nm hn n1 n2 n3 n4 n5 p2 hsm hq hv r1 hr1 hz
    have hd9 := sto_small (r := putItemM ⟨l, k⟩ nm ⟨n1, n2, n3, n4, n5⟩) fun t h => putItemM_ok h
    exact ⟨(c - 1, p2 + 1, ((putItemM ⟨l, k⟩ nm ⟨n1, n2, n3, n4, n5⟩).getD ⟨[], 0⟩).items, ((putItemM ⟨l, k⟩ nm ⟨n1, n2, n3, n4, n5⟩).getD ⟨[], 0⟩).clock), [(900, 23000)], [], ⟨by omega, by omega, by omega, by omega⟩, by simp only; omega, by (conv => whnf); (repeat' (first | exact trivial | rfl | (refine nilEq ?_; first | rfl | (simp only [*]; done) | (simp [*]; done) | grind) | apply And.intro | ((first | refine intEq ?_ | refine boolEq ?_ | refine strEq ?_ | refine psEq ?_ | refine nilEq ?_ | refine arrEq ?_); (try simp only [Int.toNat_natCast, nd_eta, sh_eta, it_eta, sto_eta, op_eta, ch_eta, nw_eta, fl_eta, rq_eta, rs_eta, elDef]); first | done | omega | grind | (simp only [*]; done) | (simp [*]; done)))); (all_goals (conv => whnf)); (repeat' (first | exact trivial | rfl | (refine nilEq ?_; first | rfl | (simp only [*]; done) | (simp [*]; done) | grind) | apply And.intro | ((first | refine intEq ?_ | refine boolEq ?_ | refine strEq ?_ | refine psEq ?_ | refine nilEq ?_ | refine arrEq ?_); (try simp only [Int.toNat_natCast, nd_eta, sh_eta, it_eta, sto_eta, op_eta, ch_eta, nw_eta, fl_eta, rq_eta, rs_eta, elDef]); first | done | omega | grind | (simp only [*]; done) | (simp [*]; done)) | ((try simp only [Int.toNat_natCast, nd_eta, sh_eta, it_eta, sto_eta, op_eta, ch_eta, nw_eta, fl_eta, rq_eta, rs_eta, elDef]); first | done | omega | grind | (simp only [*]; done) | (simp [*]; done)))), (by exact sgOk_of (by rfl))⟩
  · rename_i nm hn n1 n2 n3 n4 n5 p2 hsm hq hv r1 hr1 hz
    exact ⟨(c - 1, p2 + 1, l, k), [], [], ⟨by omega, by omega, by omega, by omega⟩, by simp only; omega, by (conv => whnf); (repeat' (first | exact trivial | rfl | (refine nilEq ?_; first | rfl | (simp only [*]; done) | (simp [*]; done) | grind) | apply And.intro | ((first | refine intEq ?_ | refine boolEq ?_ | refine strEq ?_ | refine psEq ?_ | refine nilEq ?_ | refine arrEq ?_); (try simp only [Int.toNat_natCast, nd_eta, sh_eta, it_eta, sto_eta, op_eta, ch_eta, nw_eta, fl_eta, rq_eta, rs_eta, elDef]); first | done | omega | grind | (simp only [*]; done) | (simp [*]; done)))); (all_goals (conv => whnf)); (repeat' (first | exact trivial | rfl | (refine nilEq ?_; first | rfl | (simp only [*]; done) | (simp [*]; done) | grind) | apply And.intro | ((first | refine intEq ?_ | refine boolEq ?_ | refine strEq ?_ | refine psEq ?_ | refine nilEq ?_ | refine arrEq ?_); (try simp only [Int.toNat_natCast, nd_eta, sh_eta, it_eta, sto_eta, op_eta, ch_eta, nw_eta, fl_eta, rq_eta, rs_eta, elDef]); first | done | omega | grind | (simp only [*]; done) | (simp [*]; done)) | ((try simp only [Int.toNat_natCast, nd_eta, sh_eta, it_eta, sto_eta, op_eta, ch_eta, nw_eta, fl_eta, rq_eta, rs_eta, elDef]); first | done | omega | grind | (simp only [*]; done) | (simp [*]; done)))), (by exact sgOk_of (by rfl))⟩
  · rename_i nm hn n1 n2 n3 n4 n5 p2 hsm hq r1 hr1 hz nm2 hn2
    have hd9 := sto_small (r := dropItemM ⟨l, k⟩ nm2) fun t h => dropItemM_ok h
    exact ⟨(c - 1, p2 + 2, ((dropItemM ⟨l, k⟩ nm2).getD ⟨[], 0⟩).items, ((dropItemM ⟨l, k⟩ nm2).getD ⟨[], 0⟩).clock), [(900, 33000)], [], ⟨by omega, by omega, by omega, by omega⟩, by simp only; omega, by (conv => whnf); (repeat' (first | exact trivial | rfl | (refine nilEq ?_; first | rfl | (simp only [*]; done) | (simp [*]; done) | grind) | apply And.intro | ((first | refine intEq ?_ | refine boolEq ?_ | refine strEq ?_ | refine psEq ?_ | refine nilEq ?_ | refine arrEq ?_); (try simp only [Int.toNat_natCast, nd_eta, sh_eta, it_eta, sto_eta, op_eta, ch_eta, nw_eta, fl_eta, rq_eta, rs_eta, elDef]); first | done | omega | grind | (simp only [*]; done) | (simp [*]; done)))); (all_goals (conv => whnf)); (repeat' (first | exact trivial | rfl | (refine nilEq ?_; first | rfl | (simp only [*]; done) | (simp [*]; done) | grind) | apply And.intro | ((first | refine intEq ?_ | refine boolEq ?_ | refine strEq ?_ | refine psEq ?_ | refine nilEq ?_ | refine arrEq ?_); (try simp only [Int.toNat_natCast, nd_eta, sh_eta, it_eta, sto_eta, op_eta, ch_eta, nw_eta, fl_eta, rq_eta, rs_eta, elDef]); first | done | omega | grind | (simp only [*]; done) | (simp [*]; done)) | ((try simp only [Int.toNat_natCast, nd_eta, sh_eta, it_eta, sto_eta, op_eta, ch_eta, nw_eta, fl_eta, rq_eta, rs_eta, elDef]); first | done | omega | grind | (simp only [*]; done) | (simp [*]; done)))), (by exact sgOk_of (by rfl))⟩
  · rename_i nm hn n1 n2 n3 n4 n5 p2 hsm hq r1 hr1 hz nm2 hn2
    exact ⟨(c - 1, p2 + 2, l, k), [], [], ⟨by omega, by omega, by omega, by omega⟩, by simp only; omega, by (conv => whnf); (repeat' (first | exact trivial | rfl | (refine nilEq ?_; first | rfl | (simp only [*]; done) | (simp [*]; done) | grind) | apply And.intro | ((first | refine intEq ?_ | refine boolEq ?_ | refine strEq ?_ | refine psEq ?_ | refine nilEq ?_ | refine arrEq ?_); (try simp only [Int.toNat_natCast, nd_eta, sh_eta, it_eta, sto_eta, op_eta, ch_eta, nw_eta, fl_eta, rq_eta, rs_eta, elDef]); first | done | omega | grind | (simp only [*]; done) | (simp [*]; done)))); (all_goals (conv => whnf)); (repeat' (first | exact trivial | rfl | (refine nilEq ?_; first | rfl | (simp only [*]; done) | (simp [*]; done) | grind) | apply And.intro | ((first | refine intEq ?_ | refine boolEq ?_ | refine strEq ?_ | refine psEq ?_ | refine nilEq ?_ | refine arrEq ?_); (try simp only [Int.toNat_natCast, nd_eta, sh_eta, it_eta, sto_eta, op_eta, ch_eta, nw_eta, fl_eta, rq_eta, rs_eta, elDef]); first | done | omega | grind | (simp only [*]; done) | (simp [*]; done)) | ((try simp only [Int.toNat_natCast, nd_eta, sh_eta, it_eta, sto_eta, op_eta, ch_eta, nw_eta, fl_eta, rq_eta, rs_eta, elDef]); first | done | omega | grind | (simp only [*]; done) | (simp [*]; done)))), (by exact sgOk_of (by rfl))⟩
  · rename_i nm hn n1 n2 n3 n4 n5 p2 hsm hq r1 hr1 hz
    exact ⟨(c - 1, p2 + 1, l, k), [], [], ⟨by omega, by omega, by omega, by omega⟩, by simp only; omega, by (conv => whnf); (repeat' (first | exact trivial | rfl | (refine nilEq ?_; first | rfl | (simp only [*]; done) | (simp [*]; done) | grind) | apply And.intro | ((first | refine intEq ?_ | refine boolEq ?_ | refine strEq ?_ | refine psEq ?_ | refine nilEq ?_ | refine arrEq ?_); (try simp only [Int.toNat_natCast, nd_eta, sh_eta, it_eta, sto_eta, op_eta, ch_eta, nw_eta, fl_eta, rq_eta, rs_eta, elDef]); first | done | omega | grind | (simp only [*]; done) | (simp [*]; done)))); (all_goals (conv => whnf)); (repeat' (first | exact trivial | rfl | (refine nilEq ?_; first | rfl | (simp only [*]; done) | (simp [*]; done) | grind) | apply And.intro | ((first | refine intEq ?_ | refine boolEq ?_ | refine strEq ?_ | refine psEq ?_ | refine nilEq ?_ | refine arrEq ?_); (try simp only [Int.toNat_natCast, nd_eta, sh_eta, it_eta, sto_eta, op_eta, ch_eta, nw_eta, fl_eta, rq_eta, rs_eta, elDef]); first | done | omega | grind | (simp only [*]; done) | (simp [*]; done)) | ((try simp only [Int.toNat_natCast, nd_eta, sh_eta, it_eta, sto_eta, op_eta, ch_eta, nw_eta, fl_eta, rq_eta, rs_eta, elDef]); first | done | omega | grind | (simp only [*]; done) | (simp [*]; done)))), (by exact sgOk_of (by rfl))⟩
  · exact hK _ _ _ hi4 (by omega)
theorem s38 : (CtrOK Tryz.prog 38 (.gen .ow C38) ∧ Callable Tryz.prog 38) := by
  refine gen_ok (E := E38) (mkE_cons s24 (mkE_cons s25 (mkE_cons s55 (mkE_cons s56 (mkE_cons s57 (mkE_cons s58 (mkE_nil tab_ok))))))) mix (O := O38) (C := C38) (own := .ow) Tryz.func38 rfl (by rfl) (by kernel_rfl) (fun args K h hbd => ?_)
  unfold C38 at h; split at h
  case h_2 => exact h.elim
  exact ⟨Nat.le_of_ble_eq_true rfl, a38 _ _ (by exact hbd) _ h⟩
noncomputable def c23 (code : List Int) (p : Int) (K : AV → List AV → Prop) : Prop :=
    Obl ((0 ≤ p ∧ p ≤ 5000000) ∧ byOk code) (∀ (s : Sto) (p' : Int), p ≤ p' ∧ p' ≤ p + 60000 → K (.st (stC s)) [.ref [.ps .u8 code, .int .i64 p']])
noncomputable def C23 : List AV → (AV → List AV → Prop) → Prop
  | [.ref [.ps .u8 code, .int .i64 p]], K => c23 code p K
  | _, _ => False
noncomputable def E23 : Ctx := mkE tab [(24, .gen .ps C24), (25, .gen .ps C25), (38, .gen .ow C38), (39, .gen .ps C39), (40, .gen .ps C40)]
noncomputable def O23 : Nat → List DI := ordL [(6, [.q 0, .q 1, .q 2, .l 3 [1], .q 4, .l 5 [1], .l 6 [], .q 7, .l 8 []]), (9, [.q 0, .q 1, .q 2, .q 3, .q 4, .q 5, .l 6 [1], .l 7 [1], .q 8, .q 9, .l 10 []]), (12, [.q 0, .q 1, .q 2, .l 3 [1], .q 4, .q 5, .l 6 []])]
theorem a23 (code : List Int) (p : Int) (hb : BdAs [.ref [.ps .u8 code, .int .i64 p]]) (K : AV → List AV → Prop) (h : c23 code p K) : abody E23 O23 .ps Tryz.f23 (Tryz.f23.body.getD .skip) [.ref [.ps .u8 code, .int .i64 p]] K := by
  simp only [BdAs, BdA, BdL, BdC, MX, ndC, shC, itC, stC, opC, chC, nwC, flC, rqC, rsC, enc, List.cons_append, List.nil_append, and_true, true_and] at hb
  unfold c23 at h
  obtain ⟨⟨hp, ho⟩, hK⟩ := h
  conv => whnf
  repeat' first
    | (refine Cnd.mk (fun h => ?_) (fun h => ?_) <;> (try simp [nd_eta, sh_eta, it_eta, sto_eta, op_eta, ch_eta, nw_eta, fl_eta, rq_eta, rs_eta, elDef, -List.getD_eq_getElem?_getD] at h) <;> conv => whnf)
    | (refine Obl.mk (by first | omega | rfl | exact inK_byte _ | (simp only [inK, Int.toNat_natCast, nd_eta, sh_eta, it_eta, sto_eta, op_eta, ch_eta, nw_eta, fl_eta, rq_eta, rs_eta, elDef] <;> first | omega | grind) | grind [inK]) ?_ <;> conv => whnf)
    | (refine OblG.mk (by conv => whnf
                          repeat (first | (refine Bx.mk ?_) | (intro h; (try simp [nd_eta, sh_eta, it_eta, sto_eta, op_eta, ch_eta, nw_eta, fl_eta, rq_eta, rs_eta, elDef, -List.getD_eq_getElem?_getD] at h); conv => whnf))
                          first | omega | rfl | exact inK_byte _ | (simp only [inK, Int.toNat_natCast, nd_eta, sh_eta, it_eta, sto_eta, op_eta, ch_eta, nw_eta, fl_eta, rq_eta, rs_eta, elDef] <;> first | omega | grind) | grind [inK]) ?_ <;> conv => whnf)
    | (refine Gd.mk (fun h => ?_) <;> (try simp [nd_eta, sh_eta, it_eta, sto_eta, op_eta, ch_eta, nw_eta, fl_eta, rq_eta, rs_eta, elDef, -List.getD_eq_getElem?_getD] at h) <;> conv => whnf)
    | (refine And.intro ?_ ?_ <;> conv => whnf)
    | exact True.intro
    | (intro; conv => whnf)
  all_goals exact hK ⟨_, _⟩ _ (by omega)
theorem s23 : (CtrOK Tryz.prog 23 (.gen .ps C23) ∧ Callable Tryz.prog 23) := by
  refine gen_ok (E := E23) (mkE_cons s24 (mkE_cons s25 (mkE_cons s38 (mkE_cons s39 (mkE_cons s40 (mkE_nil tab_ok)))))) mix (O := O23) (C := C23) (own := .ps) Tryz.func23 rfl (by rfl) (by kernel_rfl) (fun args K h hbd => ?_)
  unfold C23 at h; split at h
  case h_2 => exact h.elim
  exact ⟨Nat.le_of_ble_eq_true rfl, a23 _ _ (by exact hbd) _ h⟩
end Go.Rs

