import Derived.Test.YtjdjkggdgddhdaaGreatDoorCN
import Derived.Test.YtjdjkggdgddhdaaGreatDoorMC
set_option linter.all false
namespace Go.Rs
open Go.Proofs
set_option maxRecDepth 100000
set_option linter.unusedVariables false
set_option linter.unusedSimpArgs false
noncomputable def v83 (a : Int) : AV := .bool false
noncomputable def o83 (a : Int) : Prop := True
noncomputable def F83 : List AV → QR
  | [.int .i64 a] => some (none, v83 a)
  | _ => none
noncomputable def E83 : Ctx := mkE tab []
noncomputable def O83 : Nat → List DI := ordL []
theorem a83 (a : Int) (hb : BdAs [.int .i64 a]) (ho : o83 a) (K : AV → List AV → Prop) (hK : K (v83 a) []) : abody E83 O83 .ps Tryz.f83 (Tryz.f83.body.getD .skip) [.int .i64 a] K := by
  simp only [BdAs, BdA, BdL, BdC, MX, ndC, shC, itC, stC, opC, chC, nwC, flC, rqC, rsC, enc, List.cons_append, List.nil_append, and_true, true_and] at hb
  unfold v83 at hK
  conv => whnf
  repeat' first
    | (refine Cnd.mk (fun h => ?_) (fun h => ?_) <;> (try simp [nd_eta, sh_eta, it_eta, sto_eta, op_eta, ch_eta, nw_eta, fl_eta, rq_eta, rs_eta, elDef, -List.getD_eq_getElem?_getD] at h) <;> conv => whnf)
    | (refine Obl.mk (by first | omega | rfl | exact inK_byte _ | (simp only [inK, Int.toNat_natCast, nd_eta, sh_eta, it_eta, sto_eta, op_eta, ch_eta, nw_eta, fl_eta, rq_eta, rs_eta, elDef] <;> first | omega | grind) | grind [inK]) ?_ <;> conv => whnf)
    | (refine OblG.mk (by conv => whnf
                          repeat (first | (refine Bx.mk ?_) | (intro h; (try simp [nd_eta, sh_eta, it_eta, sto_eta, op_eta, ch_eta, nw_eta, fl_eta, rq_eta, rs_eta, elDef, -List.getD_eq_getElem?_getD] at h); conv => whnf))
                          first | omega | rfl | exact inK_byte _ | (simp only [inK, Int.toNat_natCast, nd_eta, sh_eta, it_eta, sto_eta, op_eta, ch_eta, nw_eta, fl_eta, rq_eta, rs_eta, elDef] <;> first | omega | grind) | grind [inK]) ?_ <;> conv => whnf)
    | (refine Gd.mk (fun h => ?_) <;> (try simp [nd_eta, sh_eta, it_eta, sto_eta, op_eta, ch_eta, nw_eta, fl_eta, rq_eta, rs_eta, elDef, -List.getD_eq_getElem?_getD] at h) <;> conv => whnf)
    | (refine And.intro ?_ ?_ <;> conv => whnf)
    | exact True.intro
    | (intro; conv => whnf)
  all_goals exact leafB hK (by simp)
theorem s83 : (CtrOK Tryz.prog 83 (.pure F83) ∧ Callable Tryz.prog 83) := by
  refine pure_ok (E := E83) (mkE_nil tab_ok) mix (O := O83) (F := F83) Tryz.func83 rfl (by rfl) (by kernel_rfl) (fun args o v h => ?_) (fun args o v h => ?_) (fun args o v h hbd hp K hK => ?_)
  · unfold F83 at h; split at h <;> cases h; first | trivial | (simp [v83, Scalar, Scalar2, Scalar1, stC, ndC, itC, chC, nwC])
  · unfold F83 at h; split at h <;> cases h; exact Nat.le_of_ble_eq_true rfl
  · unfold F83 at h; split at h
    case h_2 => cases h
    cases h
    exact a83 _ (by exact hbd) trivial K hK
noncomputable def v93 (a : Bs) : AV := .bool false
noncomputable def o93 (a : Bs) : Prop := True
noncomputable def F93 : List AV → QR
  | [.str a] => some (none, v93 a)
  | _ => none
noncomputable def E93 : Ctx := mkE tab []
noncomputable def O93 : Nat → List DI := ordL []
theorem a93 (a : Bs) (hb : BdAs [.str a]) (ho : o93 a) (K : AV → List AV → Prop) (hK : K (v93 a) []) : abody E93 O93 .ps Tryz.f93 (Tryz.f93.body.getD .skip) [.str a] K := by
  simp only [BdAs, BdA, BdL, BdC, MX, ndC, shC, itC, stC, opC, chC, nwC, flC, rqC, rsC, enc, List.cons_append, List.nil_append, and_true, true_and] at hb
  unfold v93 at hK
  conv => whnf
  repeat' first
    | (refine Cnd.mk (fun h => ?_) (fun h => ?_) <;> (try simp [nd_eta, sh_eta, it_eta, sto_eta, op_eta, ch_eta, nw_eta, fl_eta, rq_eta, rs_eta, elDef, -List.getD_eq_getElem?_getD] at h) <;> conv => whnf)
    | (refine Obl.mk (by first | omega | rfl | exact inK_byte _ | (simp only [inK, Int.toNat_natCast, nd_eta, sh_eta, it_eta, sto_eta, op_eta, ch_eta, nw_eta, fl_eta, rq_eta, rs_eta, elDef] <;> first | omega | grind) | grind [inK]) ?_ <;> conv => whnf)
    | (refine OblG.mk (by conv => whnf
                          repeat (first | (refine Bx.mk ?_) | (intro h; (try simp [nd_eta, sh_eta, it_eta, sto_eta, op_eta, ch_eta, nw_eta, fl_eta, rq_eta, rs_eta, elDef, -List.getD_eq_getElem?_getD] at h); conv => whnf))
                          first | omega | rfl | exact inK_byte _ | (simp only [inK, Int.toNat_natCast, nd_eta, sh_eta, it_eta, sto_eta, op_eta, ch_eta, nw_eta, fl_eta, rq_eta, rs_eta, elDef] <;> first | omega | grind) | grind [inK]) ?_ <;> conv => whnf)
    | (refine Gd.mk (fun h => ?_) <;> (try simp [nd_eta, sh_eta, it_eta, sto_eta, op_eta, ch_eta, nw_eta, fl_eta, rq_eta, rs_eta, elDef, -List.getD_eq_getElem?_getD] at h) <;> conv => whnf)
    | (refine And.intro ?_ ?_ <;> conv => whnf)
    | exact True.intro
    | (intro; conv => whnf)
  all_goals exact leafB hK (by simp)
theorem s93 : (CtrOK Tryz.prog 93 (.pure F93) ∧ Callable Tryz.prog 93) := by
  refine pure_ok (E := E93) (mkE_nil tab_ok) mix (O := O93) (F := F93) Tryz.func93 rfl (by rfl) (by kernel_rfl) (fun args o v h => ?_) (fun args o v h => ?_) (fun args o v h hbd hp K hK => ?_)
  · unfold F93 at h; split at h <;> cases h; first | trivial | (simp [v93, Scalar, Scalar2, Scalar1, stC, ndC, itC, chC, nwC])
  · unfold F93 at h; split at h <;> cases h; exact Nat.le_of_ble_eq_true rfl
  · unfold F93 at h; split at h
    case h_2 => cases h
    cases h
    exact a93 _ (by exact hbd) trivial K hK
noncomputable def v90 (a : Bs) : AV := .bool false
noncomputable def o90 (a : Bs) : Prop := True
noncomputable def F90 : List AV → QR
  | [.str a] => some (none, v90 a)
  | _ => none
noncomputable def E90 : Ctx := mkE tab []
noncomputable def O90 : Nat → List DI := ordL []
theorem a90 (a : Bs) (hb : BdAs [.str a]) (ho : o90 a) (K : AV → List AV → Prop) (hK : K (v90 a) []) : abody E90 O90 .ps Tryz.f90 (Tryz.f90.body.getD .skip) [.str a] K := by
  simp only [BdAs, BdA, BdL, BdC, MX, ndC, shC, itC, stC, opC, chC, nwC, flC, rqC, rsC, enc, List.cons_append, List.nil_append, and_true, true_and] at hb
  unfold v90 at hK
  conv => whnf
  repeat' first
    | (refine Cnd.mk (fun h => ?_) (fun h => ?_) <;> (try simp [nd_eta, sh_eta, it_eta, sto_eta, op_eta, ch_eta, nw_eta, fl_eta, rq_eta, rs_eta, elDef, -List.getD_eq_getElem?_getD] at h) <;> conv => whnf)
    | (refine Obl.mk (by first | omega | rfl | exact inK_byte _ | (simp only [inK, Int.toNat_natCast, nd_eta, sh_eta, it_eta, sto_eta, op_eta, ch_eta, nw_eta, fl_eta, rq_eta, rs_eta, elDef] <;> first | omega | grind) | grind [inK]) ?_ <;> conv => whnf)
    | (refine OblG.mk (by conv => whnf
                          repeat (first | (refine Bx.mk ?_) | (intro h; (try simp [nd_eta, sh_eta, it_eta, sto_eta, op_eta, ch_eta, nw_eta, fl_eta, rq_eta, rs_eta, elDef, -List.getD_eq_getElem?_getD] at h); conv => whnf))
                          first | omega | rfl | exact inK_byte _ | (simp only [inK, Int.toNat_natCast, nd_eta, sh_eta, it_eta, sto_eta, op_eta, ch_eta, nw_eta, fl_eta, rq_eta, rs_eta, elDef] <;> first | omega | grind) | grind [inK]) ?_ <;> conv => whnf)
    | (refine Gd.mk (fun h => ?_) <;> (try simp [nd_eta, sh_eta, it_eta, sto_eta, op_eta, ch_eta, nw_eta, fl_eta, rq_eta, rs_eta, elDef, -List.getD_eq_getElem?_getD] at h) <;> conv => whnf)
    | (refine And.intro ?_ ?_ <;> conv => whnf)
    | exact True.intro
    | (intro; conv => whnf)
  all_goals exact leafB hK (by simp)
theorem s90 : (CtrOK Tryz.prog 90 (.pure F90) ∧ Callable Tryz.prog 90) := by
  refine pure_ok (E := E90) (mkE_nil tab_ok) mix (O := O90) (F := F90) Tryz.func90 rfl (by rfl) (by kernel_rfl) (fun args o v h => ?_) (fun args o v h => ?_) (fun args o v h hbd hp K hK => ?_)
  · unfold F90 at h; split at h <;> cases h; first | trivial | (simp [v90, Scalar, Scalar2, Scalar1, stC, ndC, itC, chC, nwC])
  · unfold F90 at h; split at h <;> cases h; exact Nat.le_of_ble_eq_true rfl
  · unfold F90 at h; split at h
    case h_2 => cases h
    cases h
    exact a90 _ (by exact hbd) trivial K hK
noncomputable def v89 (a : Bs) (b : Bs) : AV := .bool (ltS a b)
noncomputable def o89 (a : Bs) (b : Bs) : Prop := True
noncomputable def F89 : List AV → QR
  | [.str a, .str b] => some (none, v89 a b)
  | _ => none
noncomputable def E89 : Ctx := mkE tab [(93, .pure F93)]
noncomputable def O89 : Nat → List DI := ordL []
theorem a89 (a : Bs) (b : Bs) (hb : BdAs [.str a, .str b]) (ho : o89 a b) (K : AV → List AV → Prop) (hK : K (v89 a b) []) : abody E89 O89 .ps Tryz.f89 (Tryz.f89.body.getD .skip) [.str a, .str b] K := by
  simp only [BdAs, BdA, BdL, BdC, MX, ndC, shC, itC, stC, opC, chC, nwC, flC, rqC, rsC, enc, List.cons_append, List.nil_append, and_true, true_and] at hb
  unfold v89 at hK
  conv => whnf
  repeat' first
    | (refine Cnd.mk (fun h => ?_) (fun h => ?_) <;> (try simp [nd_eta, sh_eta, it_eta, sto_eta, op_eta, ch_eta, nw_eta, fl_eta, rq_eta, rs_eta, elDef, -List.getD_eq_getElem?_getD] at h) <;> conv => whnf)
    | (refine Obl.mk (by first | omega | rfl | exact inK_byte _ | (simp only [inK, Int.toNat_natCast, nd_eta, sh_eta, it_eta, sto_eta, op_eta, ch_eta, nw_eta, fl_eta, rq_eta, rs_eta, elDef] <;> first | omega | grind) | grind [inK]) ?_ <;> conv => whnf)
    | (refine OblG.mk (by conv => whnf
                          repeat (first | (refine Bx.mk ?_) | (intro h; (try simp [nd_eta, sh_eta, it_eta, sto_eta, op_eta, ch_eta, nw_eta, fl_eta, rq_eta, rs_eta, elDef, -List.getD_eq_getElem?_getD] at h); conv => whnf))
                          first | omega | rfl | exact inK_byte _ | (simp only [inK, Int.toNat_natCast, nd_eta, sh_eta, it_eta, sto_eta, op_eta, ch_eta, nw_eta, fl_eta, rq_eta, rs_eta, elDef] <;> first | omega | grind) | grind [inK]) ?_ <;> conv => whnf)
    | (refine Gd.mk (fun h => ?_) <;> (try simp [nd_eta, sh_eta, it_eta, sto_eta, op_eta, ch_eta, nw_eta, fl_eta, rq_eta, rs_eta, elDef, -List.getD_eq_getElem?_getD] at h) <;> conv => whnf)
    | (refine And.intro ?_ ?_ <;> conv => whnf)
    | exact True.intro
    | (intro; conv => whnf)
  all_goals exact leafB hK (by simp)
theorem s89 : (CtrOK Tryz.prog 89 (.pure F89) ∧ Callable Tryz.prog 89) := by
  refine pure_ok (E := E89) (mkE_cons s93 (mkE_nil tab_ok)) mix (O := O89) (F := F89) Tryz.func89 rfl (by rfl) (by kernel_rfl) (fun args o v h => ?_) (fun args o v h => ?_) (fun args o v h hbd hp K hK => ?_)
  · unfold F89 at h; split at h <;> cases h; first | trivial | (simp [v89, Scalar, Scalar2, Scalar1, stC, ndC, itC, chC, nwC])
  · unfold F89 at h; split at h <;> cases h; exact Nat.le_of_ble_eq_true rfl
  · unfold F89 at h; split at h
    case h_2 => cases h
    cases h
    exact a89 _ _ (by exact hbd) trivial K hK
noncomputable def v66 (a : Int) (b : Int) : AV := .int .i64 (ordI a b)
noncomputable def o66 (a : Int) (b : Int) : Prop := True
noncomputable def F66 : List AV → QR
  | [.int .i64 a, .int .i64 b] => some (none, v66 a b)
  | _ => none
noncomputable def E66 : Ctx := mkE tab [(83, .pure F83)]
noncomputable def O66 : Nat → List DI := ordL []
theorem a66 (a : Int) (b : Int) (hb : BdAs [.int .i64 a, .int .i64 b]) (ho : o66 a b) (K : AV → List AV → Prop) (hK : K (v66 a b) []) : abody E66 O66 .ps Tryz.f66 (Tryz.f66.body.getD .skip) [.int .i64 a, .int .i64 b] K := by
  simp only [BdAs, BdA, BdL, BdC, MX, ndC, shC, itC, stC, opC, chC, nwC, flC, rqC, rsC, enc, List.cons_append, List.nil_append, and_true, true_and] at hb
  unfold v66 at hK
  conv => whnf
  repeat' first
    | (refine Cnd.mk (fun h => ?_) (fun h => ?_) <;> (try simp [nd_eta, sh_eta, it_eta, sto_eta, op_eta, ch_eta, nw_eta, fl_eta, rq_eta, rs_eta, elDef, -List.getD_eq_getElem?_getD] at h) <;> conv => whnf)
    | (refine Obl.mk (by first | omega | rfl | exact inK_byte _ | (simp only [inK, Int.toNat_natCast, nd_eta, sh_eta, it_eta, sto_eta, op_eta, ch_eta, nw_eta, fl_eta, rq_eta, rs_eta, elDef] <;> first | omega | grind) | grind [inK]) ?_ <;> conv => whnf)
    | (refine OblG.mk (by conv => whnf
                          repeat (first | (refine Bx.mk ?_) | (intro h; (try simp [nd_eta, sh_eta, it_eta, sto_eta, op_eta, ch_eta, nw_eta, fl_eta, rq_eta, rs_eta, elDef, -List.getD_eq_getElem?_getD] at h); conv => whnf))
                          first | omega | rfl | exact inK_byte _ | (simp only [inK, Int.toNat_natCast, nd_eta, sh_eta, it_eta, sto_eta, op_eta, ch_eta, nw_eta, fl_eta, rq_eta, rs_eta, elDef] <;> first | omega | grind) | grind [inK]) ?_ <;> conv => whnf)
    | (refine Gd.mk (fun h => ?_) <;> (try simp [nd_eta, sh_eta, it_eta, sto_eta, op_eta, ch_eta, nw_eta, fl_eta, rq_eta, rs_eta, elDef, -List.getD_eq_getElem?_getD] at h) <;> conv => whnf)
    | (refine And.intro ?_ ?_ <;> conv => whnf)
    | exact True.intro
    | (intro; conv => whnf)
  all_goals exact leafI hK (by unfold ordI; split <;> (try split) <;> omega)
theorem s66 : (CtrOK Tryz.prog 66 (.pure F66) ∧ Callable Tryz.prog 66) := by
  refine pure_ok (E := E66) (mkE_cons s83 (mkE_nil tab_ok)) mix (O := O66) (F := F66) Tryz.func66 rfl (by rfl) (by kernel_rfl) (fun args o v h => ?_) (fun args o v h => ?_) (fun args o v h hbd hp K hK => ?_)
  · unfold F66 at h; split at h <;> cases h; first | trivial | (simp [v66, Scalar, Scalar2, Scalar1, stC, ndC, itC, chC, nwC])
  · unfold F66 at h; split at h <;> cases h; exact Nat.le_of_ble_eq_true rfl
  · unfold F66 at h; split at h
    case h_2 => cases h
    cases h
    exact a66 _ _ (by exact hbd) trivial K hK
noncomputable def v81 (l : List Bs) (b : Bs) : AV := .tup [.int .i64 (lbI (nmI l) b), .bool (foundI (nmI l) b)]
noncomputable def o81 (l : List Bs) (b : Bs) : Prop := sortedI (nmI l)
noncomputable def F81 : List AV → QR
  | [.ps .str l, .str b] => some (some (o81 l b), v81 l b)
  | _ => none
noncomputable def E81 : Ctx := mkE tab [(89, .pure F89), (90, .pure F90)]
noncomputable def O81 : Nat → List DI := ordL []
theorem a81 (l : List Bs) (b : Bs) (hb : BdAs [.ps .str l, .str b]) (ho : o81 l b) (K : AV → List AV → Prop) (hK : K (v81 l b) []) : abody E81 O81 .ps Tryz.f81 (Tryz.f81.body.getD .skip) [.ps .str l, .str b] K := by
  simp only [BdAs, BdA, BdL, BdC, MX, ndC, shC, itC, stC, opC, chC, nwC, flC, rqC, rsC, enc, List.cons_append, List.nil_append, and_true, true_and] at hb
  unfold o81 at ho
  unfold v81 at hK
  have hle := lbI_le (nmI l) b
  rw [nmI_len] at hle
  conv => whnf
  repeat' first
    | (refine Cnd.mk (fun h => ?_) (fun h => ?_) <;> (try simp [nd_eta, sh_eta, it_eta, sto_eta, op_eta, ch_eta, nw_eta, fl_eta, rq_eta, rs_eta, elDef, -List.getD_eq_getElem?_getD] at h) <;> conv => whnf)
    | (refine Obl.mk (by first | omega | rfl | exact inK_byte _ | (simp only [inK, Int.toNat_natCast, nd_eta, sh_eta, it_eta, sto_eta, op_eta, ch_eta, nw_eta, fl_eta, rq_eta, rs_eta, elDef] <;> first | omega | grind) | grind [inK]) ?_ <;> conv => whnf)
    | (refine OblG.mk (by conv => whnf
                          repeat (first | (refine Bx.mk ?_) | (intro h; (try simp [nd_eta, sh_eta, it_eta, sto_eta, op_eta, ch_eta, nw_eta, fl_eta, rq_eta, rs_eta, elDef, -List.getD_eq_getElem?_getD] at h); conv => whnf))
                          first | omega | rfl | exact inK_byte _ | (simp only [inK, Int.toNat_natCast, nd_eta, sh_eta, it_eta, sto_eta, op_eta, ch_eta, nw_eta, fl_eta, rq_eta, rs_eta, elDef] <;> first | omega | grind) | grind [inK]) ?_ <;> conv => whnf)
    | (refine Gd.mk (fun h => ?_) <;> (try simp [nd_eta, sh_eta, it_eta, sto_eta, op_eta, ch_eta, nw_eta, fl_eta, rq_eta, rs_eta, elDef, -List.getD_eq_getElem?_getD] at h) <;> conv => whnf)
    | (refine And.intro ?_ ?_ <;> conv => whnf)
    | exact True.intro
    | (intro; conv => whnf)
  refine aloop_intro (Nat × Nat) (fun p => p.1 ≤ lbI (nmI l) b ∧ lbI (nmI l) b ≤ p.2 ∧ p.2 ≤ l.length) (fun p => p.2 - p.1) (fun p => [(7, .int .i64 p.1), (8, .int .i64 p.2)]) (fun _ => []) [] (0, l.length) [] [] ?_ ?_ (by exact sgOk_of (by rfl)) ?_
  · simp; exact hle
  · (conv => whnf); (repeat' (first | exact trivial | rfl | (refine nilEq ?_; first | rfl | (simp only [*]; done) | (simp [*]; done) | grind) | apply And.intro | ((first | refine intEq ?_ | refine boolEq ?_ | refine strEq ?_ | refine psEq ?_ | refine nilEq ?_ | refine arrEq ?_); (try simp only [Int.toNat_natCast, nd_eta, sh_eta, it_eta, sto_eta, op_eta, ch_eta, nw_eta, fl_eta, rq_eta, rs_eta, elDef]); first | done | omega | grind | (simp only [*]; done) | (simp [*]; done)))); (all_goals (conv => whnf)); (repeat' (first | exact trivial | rfl | (refine nilEq ?_; first | rfl | (simp only [*]; done) | (simp [*]; done) | grind) | apply And.intro | ((first | refine intEq ?_ | refine boolEq ?_ | refine strEq ?_ | refine psEq ?_ | refine nilEq ?_ | refine arrEq ?_); (try simp only [Int.toNat_natCast, nd_eta, sh_eta, it_eta, sto_eta, op_eta, ch_eta, nw_eta, fl_eta, rq_eta, rs_eta, elDef]); first | done | omega | grind | (simp only [*]; done) | (simp [*]; done)) | ((try simp only [Int.toNat_natCast, nd_eta, sh_eta, it_eta, sto_eta, op_eta, ch_eta, nw_eta, fl_eta, rq_eta, rs_eta, elDef]); first | done | omega | grind | (simp only [*]; done) | (simp [*]; done))))
  rintro ⟨i, j⟩ ⟨h1, h2, h3⟩
  dsimp only at h1 h2 h3
  conv => whnf
  repeat' first
    | (refine Cnd.mk (fun h => ?_) (fun h => ?_) <;> (try simp [nd_eta, sh_eta, it_eta, sto_eta, op_eta, ch_eta, nw_eta, fl_eta, rq_eta, rs_eta, elDef, -List.getD_eq_getElem?_getD] at h) <;> conv => whnf)
    | (refine Obl.mk (by first | omega | rfl | exact inK_byte _ | (simp only [inK, Int.toNat_natCast, nd_eta, sh_eta, it_eta, sto_eta, op_eta, ch_eta, nw_eta, fl_eta, rq_eta, rs_eta, elDef] <;> first | omega | grind) | grind [inK]) ?_ <;> conv => whnf)
    | (refine OblG.mk (by conv => whnf
                          repeat (first | (refine Bx.mk ?_) | (intro h; (try simp [nd_eta, sh_eta, it_eta, sto_eta, op_eta, ch_eta, nw_eta, fl_eta, rq_eta, rs_eta, elDef, -List.getD_eq_getElem?_getD] at h); conv => whnf))
                          first | omega | rfl | exact inK_byte _ | (simp only [inK, Int.toNat_natCast, nd_eta, sh_eta, it_eta, sto_eta, op_eta, ch_eta, nw_eta, fl_eta, rq_eta, rs_eta, elDef] <;> first | omega | grind) | grind [inK]) ?_ <;> conv => whnf)
    | (refine Gd.mk (fun h => ?_) <;> (try simp [nd_eta, sh_eta, it_eta, sto_eta, op_eta, ch_eta, nw_eta, fl_eta, rq_eta, rs_eta, elDef, -List.getD_eq_getElem?_getD] at h) <;> conv => whnf)
    | (refine And.intro ?_ ?_ <;> conv => whnf)
    | exact True.intro
    | (intro; conv => whnf)
  · have e : ((i + j : Int) / 2).toNat = (i + j) / 2 := by omega
    have hh := lbI_gt (b := b) (h := (i + j) / 2) ho (by rw [nmI_len]; omega) (by rw [nmI_get]; rw [e] at h; exact h)
    exact ⟨((i + j) / 2 + 1, j), [], [], ⟨by simp only; omega, by simp only; omega, by simp only; omega⟩, by simp only; omega, by (conv => whnf); (repeat' (first | exact trivial | rfl | (refine nilEq ?_; first | rfl | (simp only [*]; done) | (simp [*]; done) | grind) | apply And.intro | ((first | refine intEq ?_ | refine boolEq ?_ | refine strEq ?_ | refine psEq ?_ | refine nilEq ?_ | refine arrEq ?_); (try simp only [Int.toNat_natCast, nd_eta, sh_eta, it_eta, sto_eta, op_eta, ch_eta, nw_eta, fl_eta, rq_eta, rs_eta, elDef]); (simp only; omega)))); (all_goals (conv => whnf)); (repeat' (first | exact trivial | rfl | (refine nilEq ?_; first | rfl | (simp only [*]; done) | (simp [*]; done) | grind) | apply And.intro | ((first | refine intEq ?_ | refine boolEq ?_ | refine strEq ?_ | refine psEq ?_ | refine nilEq ?_ | refine arrEq ?_); (try simp only [Int.toNat_natCast, nd_eta, sh_eta, it_eta, sto_eta, op_eta, ch_eta, nw_eta, fl_eta, rq_eta, rs_eta, elDef]); (simp only; omega)) | ((try simp only [Int.toNat_natCast, nd_eta, sh_eta, it_eta, sto_eta, op_eta, ch_eta, nw_eta, fl_eta, rq_eta, rs_eta, elDef]); (simp only; omega)))), (by exact sgOk_of (by rfl))⟩
  · have e : ((i + j : Int) / 2).toNat = (i + j) / 2 := by omega
    have hh := lbI_ge (l := nmI l) (b := b) (h := (i + j) / 2) (by rw [nmI_get]; rw [e] at h; exact h)
    exact ⟨(i, (i + j) / 2), [], [], ⟨by simp only; omega, by simp only; omega, by simp only; omega⟩, by simp only; omega, by (conv => whnf); (repeat' (first | exact trivial | rfl | (refine nilEq ?_; first | rfl | (simp only [*]; done) | (simp [*]; done) | grind) | apply And.intro | ((first | refine intEq ?_ | refine boolEq ?_ | refine strEq ?_ | refine psEq ?_ | refine nilEq ?_ | refine arrEq ?_); (try simp only [Int.toNat_natCast, nd_eta, sh_eta, it_eta, sto_eta, op_eta, ch_eta, nw_eta, fl_eta, rq_eta, rs_eta, elDef]); (simp only; omega)))); (all_goals (conv => whnf)); (repeat' (first | exact trivial | rfl | (refine nilEq ?_; first | rfl | (simp only [*]; done) | (simp [*]; done) | grind) | apply And.intro | ((first | refine intEq ?_ | refine boolEq ?_ | refine strEq ?_ | refine psEq ?_ | refine nilEq ?_ | refine arrEq ?_); (try simp only [Int.toNat_natCast, nd_eta, sh_eta, it_eta, sto_eta, op_eta, ch_eta, nw_eta, fl_eta, rq_eta, rs_eta, elDef]); (simp only; omega)) | ((try simp only [Int.toNat_natCast, nd_eta, sh_eta, it_eta, sto_eta, op_eta, ch_eta, nw_eta, fl_eta, rq_eta, rs_eta, elDef]); (simp only; omega)))), (by exact sgOk_of (by rfl))⟩
  · have e : i = lbI (nmI l) b := by omega
    subst e
    refine leafV hK ?_
    simp only [foundI, Int.toNat_natCast, elDef, nmI_len, nmI_get]
    simp
theorem s81 : (CtrOK Tryz.prog 81 (.pure F81) ∧ Callable Tryz.prog 81) := by
  refine pure_ok (E := E81) (mkE_cons s89 (mkE_cons s90 (mkE_nil tab_ok))) mix (O := O81) (F := F81) Tryz.func81 rfl (by rfl) (by kernel_rfl) (fun args o v h => ?_) (fun args o v h => ?_) (fun args o v h hbd hp K hK => ?_)
  · unfold F81 at h; split at h <;> cases h; first | trivial | (simp [v81, Scalar, Scalar2, Scalar1, stC, ndC, itC, chC, nwC])
  · unfold F81 at h; split at h <;> cases h; exact Nat.le_of_ble_eq_true rfl
  · unfold F81 at h; split at h
    case h_2 => cases h
    cases h
    exact a81 _ _ (by exact hbd) (hp _ rfl) K hK
noncomputable def v95 (n : Int) : AV := .str (decM n.toNat)
noncomputable def o95 (n : Int) : Prop := 0 ≤ n ∧ n < 10
noncomputable def F95 : List AV → QR
  | [.int .i64 n] => some (some (o95 n), v95 n)
  | _ => none
noncomputable def E95 : Ctx := mkE tab []
noncomputable def O95 : Nat → List DI := ordL []
theorem a95 (n : Int) (hb : BdAs [.int .i64 n]) (ho : o95 n) (K : AV → List AV → Prop) (hK : K (v95 n) []) : abody E95 O95 .ps Tryz.f95 (Tryz.f95.body.getD .skip) [.int .i64 n] K := by
  simp only [BdAs, BdA, BdL, BdC, MX, ndC, shC, itC, stC, opC, chC, nwC, flC, rqC, rsC, enc, List.cons_append, List.nil_append, and_true, true_and] at hb
  unfold o95 at ho
  unfold v95 at hK
  conv => whnf
  repeat' first
    | (refine Cnd.mk (fun h => ?_) (fun h => ?_) <;> (try simp [nd_eta, sh_eta, it_eta, sto_eta, op_eta, ch_eta, nw_eta, fl_eta, rq_eta, rs_eta, elDef, -List.getD_eq_getElem?_getD] at h) <;> conv => whnf)
    | (refine Obl.mk (by first | omega | rfl | exact inK_byte _ | (simp only [inK, Int.toNat_natCast, nd_eta, sh_eta, it_eta, sto_eta, op_eta, ch_eta, nw_eta, fl_eta, rq_eta, rs_eta, elDef] <;> first | omega | grind) | grind [inK]) ?_ <;> conv => whnf)
    | (refine OblG.mk (by conv => whnf
                          repeat (first | (refine Bx.mk ?_) | (intro h; (try simp [nd_eta, sh_eta, it_eta, sto_eta, op_eta, ch_eta, nw_eta, fl_eta, rq_eta, rs_eta, elDef, -List.getD_eq_getElem?_getD] at h); conv => whnf))
                          first | omega | rfl | exact inK_byte _ | (simp only [inK, Int.toNat_natCast, nd_eta, sh_eta, it_eta, sto_eta, op_eta, ch_eta, nw_eta, fl_eta, rq_eta, rs_eta, elDef] <;> first | omega | grind) | grind [inK]) ?_ <;> conv => whnf)
    | (refine Gd.mk (fun h => ?_) <;> (try simp [nd_eta, sh_eta, it_eta, sto_eta, op_eta, ch_eta, nw_eta, fl_eta, rq_eta, rs_eta, elDef, -List.getD_eq_getElem?_getD] at h) <;> conv => whnf)
    | (refine And.intro ?_ ?_ <;> conv => whnf)
    | exact True.intro
    | (intro; conv => whnf)
  · refine Obl.mk (by simp; omega) ?_
    conv => whnf
    refine leafS hK ?_
    rw [decM_lt (by omega)]
    obtain ⟨k, rfl⟩ := Int.eq_ofNat_of_zero_le ho.1
    have hk : k < 10 := by omega
    clear hK ho hb h
    rw [show ((k : Int) + 1).toNat = k + 1 by omega, Int.toNat_natCast]
    revert k
    decide
  · exfalso; omega
theorem s95 : (CtrOK Tryz.prog 95 (.pure F95) ∧ Callable Tryz.prog 95) := by
  refine pure_ok (E := E95) (mkE_nil tab_ok) mix (O := O95) (F := F95) Tryz.func95 rfl (by rfl) (by kernel_rfl) (fun args o v h => ?_) (fun args o v h => ?_) (fun args o v h hbd hp K hK => ?_)
  · unfold F95 at h; split at h <;> cases h; first | trivial | (simp [v95, Scalar, Scalar2, Scalar1, stC, ndC, itC, chC, nwC])
  · unfold F95 at h; split at h <;> cases h; exact Nat.le_of_ble_eq_true rfl
  · unfold F95 at h; split at h
    case h_2 => cases h
    cases h
    exact a95 _ (by exact hbd) (hp _ rfl) K hK
noncomputable def v94 (n : Int) : AV := .str (decM n.toNat)
noncomputable def o94 (n : Int) : Prop := 0 ≤ n ∧ n < 10
noncomputable def F94 : List AV → QR
  | [.int .i64 n, .int .i64 10] => some (some (o94 n), v94 n)
  | _ => none
noncomputable def E94 : Ctx := mkE tab [(95, .pure F95)]
noncomputable def O94 : Nat → List DI := ordL []
theorem a94 (n : Int) (hb : BdAs [.int .i64 n, .int .i64 10]) (ho : o94 n) (K : AV → List AV → Prop) (hK : K (v94 n) []) : abody E94 O94 .ps Tryz.f94 (Tryz.f94.body.getD .skip) [.int .i64 n, .int .i64 10] K := by
  simp only [BdAs, BdA, BdL, BdC, MX, ndC, shC, itC, stC, opC, chC, nwC, flC, rqC, rsC, enc, List.cons_append, List.nil_append, and_true, true_and] at hb
  unfold o94 at ho
  unfold v94 at hK
  conv => whnf
  repeat' first
    | (refine Cnd.mk (fun h => ?_) (fun h => ?_) <;> (try simp [nd_eta, sh_eta, it_eta, sto_eta, op_eta, ch_eta, nw_eta, fl_eta, rq_eta, rs_eta, elDef, -List.getD_eq_getElem?_getD] at h) <;> conv => whnf)
    | (refine Obl.mk (by first | omega | rfl | exact inK_byte _ | (simp only [inK, Int.toNat_natCast, nd_eta, sh_eta, it_eta, sto_eta, op_eta, ch_eta, nw_eta, fl_eta, rq_eta, rs_eta, elDef, o95] <;> first | omega | grind) | grind [inK, o95]) ?_ <;> conv => whnf)
    | (refine OblG.mk (by conv => whnf
                          repeat (first | (refine Bx.mk ?_) | (intro h; (try simp [nd_eta, sh_eta, it_eta, sto_eta, op_eta, ch_eta, nw_eta, fl_eta, rq_eta, rs_eta, elDef, -List.getD_eq_getElem?_getD] at h); conv => whnf))
                          first | omega | rfl | exact inK_byte _ | (simp only [inK, Int.toNat_natCast, nd_eta, sh_eta, it_eta, sto_eta, op_eta, ch_eta, nw_eta, fl_eta, rq_eta, rs_eta, elDef, o95] <;> first | omega | grind) | grind [inK, o95]) ?_ <;> conv => whnf)
    | (refine Gd.mk (fun h => ?_) <;> (try simp [nd_eta, sh_eta, it_eta, sto_eta, op_eta, ch_eta, nw_eta, fl_eta, rq_eta, rs_eta, elDef, -List.getD_eq_getElem?_getD] at h) <;> conv => whnf)
    | (refine And.intro ?_ ?_ <;> conv => whnf)
    | exact True.intro
    | (intro; conv => whnf)
  all_goals first | exact hK | (exfalso; omega)
theorem s94 : (CtrOK Tryz.prog 94 (.pure F94) ∧ Callable Tryz.prog 94) := by
  refine pure_ok (E := E94) (mkE_cons s95 (mkE_nil tab_ok)) mix (O := O94) (F := F94) Tryz.func94 rfl (by rfl) (by kernel_rfl) (fun args o v h => ?_) (fun args o v h => ?_) (fun args o v h hbd hp K hK => ?_)
  · unfold F94 at h; split at h <;> cases h; first | trivial | (simp [v94, Scalar, Scalar2, Scalar1, stC, ndC, itC, chC, nwC])
  · unfold F94 at h; split at h <;> cases h; exact Nat.le_of_ble_eq_true rfl
  · unfold F94 at h; split at h
    case h_2 => cases h
    cases h
    exact a94 _ (by exact hbd) (hp _ rfl) K hK
noncomputable def v91 (n : Int) : AV := .str (decM n.toNat)
noncomputable def o91 (n : Int) : Prop := 0 ≤ n ∧ n < 10
noncomputable def F91 : List AV → QR
  | [.int .i64 n] => some (some (o91 n), v91 n)
  | _ => none
noncomputable def E91 : Ctx := mkE tab [(94, .pure F94)]
noncomputable def O91 : Nat → List DI := ordL []
theorem a91 (n : Int) (hb : BdAs [.int .i64 n]) (ho : o91 n) (K : AV → List AV → Prop) (hK : K (v91 n) []) : abody E91 O91 .ps Tryz.f91 (Tryz.f91.body.getD .skip) [.int .i64 n] K := by
  simp only [BdAs, BdA, BdL, BdC, MX, ndC, shC, itC, stC, opC, chC, nwC, flC, rqC, rsC, enc, List.cons_append, List.nil_append, and_true, true_and] at hb
  unfold o91 at ho
  unfold v91 at hK
  conv => whnf
  repeat' first
    | (refine Cnd.mk (fun h => ?_) (fun h => ?_) <;> (try simp [nd_eta, sh_eta, it_eta, sto_eta, op_eta, ch_eta, nw_eta, fl_eta, rq_eta, rs_eta, elDef, -List.getD_eq_getElem?_getD] at h) <;> conv => whnf)
    | (refine Obl.mk (by first | omega | rfl | exact inK_byte _ | (simp only [inK, Int.toNat_natCast, nd_eta, sh_eta, it_eta, sto_eta, op_eta, ch_eta, nw_eta, fl_eta, rq_eta, rs_eta, elDef, o94] <;> first | omega | grind) | grind [inK, o94]) ?_ <;> conv => whnf)
    | (refine OblG.mk (by conv => whnf
                          repeat (first | (refine Bx.mk ?_) | (intro h; (try simp [nd_eta, sh_eta, it_eta, sto_eta, op_eta, ch_eta, nw_eta, fl_eta, rq_eta, rs_eta, elDef, -List.getD_eq_getElem?_getD] at h); conv => whnf))
                          first | omega | rfl | exact inK_byte _ | (simp only [inK, Int.toNat_natCast, nd_eta, sh_eta, it_eta, sto_eta, op_eta, ch_eta, nw_eta, fl_eta, rq_eta, rs_eta, elDef, o94] <;> first | omega | grind) | grind [inK, o94]) ?_ <;> conv => whnf)
    | (refine Gd.mk (fun h => ?_) <;> (try simp [nd_eta, sh_eta, it_eta, sto_eta, op_eta, ch_eta, nw_eta, fl_eta, rq_eta, rs_eta, elDef, -List.getD_eq_getElem?_getD] at h) <;> conv => whnf)
    | (refine And.intro ?_ ?_ <;> conv => whnf)
    | exact True.intro
    | (intro; conv => whnf)
  all_goals exact hK
theorem s91 : (CtrOK Tryz.prog 91 (.pure F91) ∧ Callable Tryz.prog 91) := by
  refine pure_ok (E := E91) (mkE_cons s94 (mkE_nil tab_ok)) mix (O := O91) (F := F91) Tryz.func91 rfl (by rfl) (by kernel_rfl) (fun args o v h => ?_) (fun args o v h => ?_) (fun args o v h hbd hp K hK => ?_)
  · unfold F91 at h; split at h <;> cases h; first | trivial | (simp [v91, Scalar, Scalar2, Scalar1, stC, ndC, itC, chC, nwC])
  · unfold F91 at h; split at h <;> cases h; exact Nat.le_of_ble_eq_true rfl
  · unfold F91 at h; split at h
    case h_2 => cases h
    cases h
    exact a91 _ (by exact hbd) (hp _ rfl) K hK
noncomputable def v82 (n : Int) : AV := .str (decM n.toNat)
noncomputable def o82 (n : Int) : Prop := 0 ≤ n ∧ n < 10
noncomputable def F82 : List AV → QR
  | [.int .i64 n] => some (some (o82 n), v82 n)
  | _ => none
noncomputable def E82 : Ctx := mkE tab [(91, .pure F91)]
noncomputable def O82 : Nat → List DI := ordL []
theorem a82 (n : Int) (hb : BdAs [.int .i64 n]) (ho : o82 n) (K : AV → List AV → Prop) (hK : K (v82 n) []) : abody E82 O82 .ps Tryz.f82 (Tryz.f82.body.getD .skip) [.int .i64 n] K := by
  simp only [BdAs, BdA, BdL, BdC, MX, ndC, shC, itC, stC, opC, chC, nwC, flC, rqC, rsC, enc, List.cons_append, List.nil_append, and_true, true_and] at hb
  unfold o82 at ho
  unfold v82 at hK
  conv => whnf
  repeat' first
    | (refine Cnd.mk (fun h => ?_) (fun h => ?_) <;> (try simp [nd_eta, sh_eta, it_eta, sto_eta, op_eta, ch_eta, nw_eta, fl_eta, rq_eta, rs_eta, elDef, -List.getD_eq_getElem?_getD] at h) <;> conv => whnf)
    | (refine Obl.mk (by first | omega | rfl | exact inK_byte _ | (simp only [inK, Int.toNat_natCast, nd_eta, sh_eta, it_eta, sto_eta, op_eta, ch_eta, nw_eta, fl_eta, rq_eta, rs_eta, elDef, o91] <;> first | omega | grind) | grind [inK, o91]) ?_ <;> conv => whnf)
    | (refine OblG.mk (by conv => whnf
                          repeat (first | (refine Bx.mk ?_) | (intro h; (try simp [nd_eta, sh_eta, it_eta, sto_eta, op_eta, ch_eta, nw_eta, fl_eta, rq_eta, rs_eta, elDef, -List.getD_eq_getElem?_getD] at h); conv => whnf))
                          first | omega | rfl | exact inK_byte _ | (simp only [inK, Int.toNat_natCast, nd_eta, sh_eta, it_eta, sto_eta, op_eta, ch_eta, nw_eta, fl_eta, rq_eta, rs_eta, elDef, o91] <;> first | omega | grind) | grind [inK, o91]) ?_ <;> conv => whnf)
    | (refine Gd.mk (fun h => ?_) <;> (try simp [nd_eta, sh_eta, it_eta, sto_eta, op_eta, ch_eta, nw_eta, fl_eta, rq_eta, rs_eta, elDef, -List.getD_eq_getElem?_getD] at h) <;> conv => whnf)
    | (refine And.intro ?_ ?_ <;> conv => whnf)
    | exact True.intro
    | (intro; conv => whnf)
  all_goals exact hK
theorem s82 : (CtrOK Tryz.prog 82 (.pure F82) ∧ Callable Tryz.prog 82) := by
  refine pure_ok (E := E82) (mkE_cons s91 (mkE_nil tab_ok)) mix (O := O82) (F := F82) Tryz.func82 rfl (by rfl) (by kernel_rfl) (fun args o v h => ?_) (fun args o v h => ?_) (fun args o v h hbd hp K hK => ?_)
  · unfold F82 at h; split at h <;> cases h; first | trivial | (simp [v82, Scalar, Scalar2, Scalar1, stC, ndC, itC, chC, nwC])
  · unfold F82 at h; split at h <;> cases h; exact Nat.le_of_ble_eq_true rfl
  · unfold F82 at h; split at h
    case h_2 => cases h
    cases h
    exact a82 _ (by exact hbd) (hp _ rfl) K hK
noncomputable def v65 (n : Nd) (b : Bs) : AV := .tup [.int .i64 (kidM n b).1, .bool (kidM n b).2]
noncomputable def o65 (n : Nd) (b : Bs) : Prop := okN n
noncomputable def F65 : List AV → QR
  | [.st [.int .i64 n_0, .int .i64 n_1, .str n_2, .ps .str n_3, .ps .node n_4], .str b] => some (some (o65 ⟨n_0, n_1, n_2, n_3, n_4⟩ b), v65 ⟨n_0, n_1, n_2, n_3, n_4⟩ b)
  | _ => none
noncomputable def E65 : Ctx := mkE tab [(81, .pure F81), (82, .pure F82)]
noncomputable def O65 : Nat → List DI := ordL []
theorem a65 (n : Nd) (b : Bs) (hb : BdAs [.st (ndC n), .str b]) (ho : o65 n b) (K : AV → List AV → Prop) (hK : K (v65 n b) []) : abody E65 O65 .ps Tryz.f65 (Tryz.f65.body.getD .skip) [.st (ndC n), .str b] K := by
  simp only [BdAs, BdA, BdL, BdC, MX, ndC, shC, itC, stC, opC, chC, nwC, flC, rqC, rsC, enc, List.cons_append, List.nil_append, and_true, true_and] at hb
  unfold o65 at ho
  unfold v65 at hK
  have h6 := okN_kids ho
  have h5 := fun h => okN_sorted ho h
  conv => whnf
  repeat' first
    | (refine Cnd.mk (fun h => ?_) (fun h => ?_) <;> (try simp [nd_eta, sh_eta, it_eta, sto_eta, op_eta, ch_eta, nw_eta, fl_eta, rq_eta, rs_eta, elDef, -List.getD_eq_getElem?_getD] at h) <;> conv => whnf)
    | (refine Obl.mk (by first | omega | rfl | exact inK_byte _ | (simp only [inK, Int.toNat_natCast, nd_eta, sh_eta, it_eta, sto_eta, op_eta, ch_eta, nw_eta, fl_eta, rq_eta, rs_eta, elDef, o81, o82] <;> first | omega | grind) | grind [inK, o81, o82]) ?_ <;> conv => whnf)
    | (refine OblG.mk (by conv => whnf
                          repeat (first | (refine Bx.mk ?_) | (intro h; (try simp [nd_eta, sh_eta, it_eta, sto_eta, op_eta, ch_eta, nw_eta, fl_eta, rq_eta, rs_eta, elDef, -List.getD_eq_getElem?_getD] at h); conv => whnf))
                          first | omega | rfl | exact inK_byte _ | (simp only [inK, Int.toNat_natCast, nd_eta, sh_eta, it_eta, sto_eta, op_eta, ch_eta, nw_eta, fl_eta, rq_eta, rs_eta, elDef, o81, o82] <;> first | omega | grind) | grind [inK, o81, o82]) ?_ <;> conv => whnf)
    | (refine Gd.mk (fun h => ?_) <;> (try simp [nd_eta, sh_eta, it_eta, sto_eta, op_eta, ch_eta, nw_eta, fl_eta, rq_eta, rs_eta, elDef, -List.getD_eq_getElem?_getD] at h) <;> conv => whnf)
    | (refine And.intro ?_ ?_ <;> conv => whnf)
    | exact True.intro
    | (intro; conv => whnf)
  · exact leafV hK (by simp only [kidM, if_pos h])
  · refine aloop_intro Nat (fun k => k ≤ n.kids.length ∧ ∀ j, j < k → decM j ≠ b) (fun k => n.kids.length - k) (fun k => [(22, .int .i64 k)]) (fun k => []) [] 0 [] [] ?_ ?_ (by exact sgOk_of (by rfl)) ?_
    · first | (simp; done) | (simp; assumption)
    · (conv => whnf); (repeat' (first | exact trivial | rfl | (refine nilEq ?_; first | rfl | (simp only [*]; done) | (simp [*]; done) | grind) | apply And.intro | ((first | refine intEq ?_ | refine boolEq ?_ | refine strEq ?_ | refine psEq ?_ | refine nilEq ?_ | refine arrEq ?_); (try simp only [Int.toNat_natCast, nd_eta, sh_eta, it_eta, sto_eta, op_eta, ch_eta, nw_eta, fl_eta, rq_eta, rs_eta, elDef]); first | done | omega | grind | (simp only [*]; done) | (simp [*]; done)))); (all_goals (conv => whnf)); (repeat' (first | exact trivial | rfl | (refine nilEq ?_; first | rfl | (simp only [*]; done) | (simp [*]; done) | grind) | apply And.intro | ((first | refine intEq ?_ | refine boolEq ?_ | refine strEq ?_ | refine psEq ?_ | refine nilEq ?_ | refine arrEq ?_); (try simp only [Int.toNat_natCast, nd_eta, sh_eta, it_eta, sto_eta, op_eta, ch_eta, nw_eta, fl_eta, rq_eta, rs_eta, elDef]); first | done | omega | grind | (simp only [*]; done) | (simp [*]; done)) | ((try simp only [Int.toNat_natCast, nd_eta, sh_eta, it_eta, sto_eta, op_eta, ch_eta, nw_eta, fl_eta, rq_eta, rs_eta, elDef]); first | done | omega | grind | (simp only [*]; done) | (simp [*]; done))))
    rintro i ⟨hi, hj⟩
    conv => whnf
    repeat' first
      | (refine Cnd.mk (fun h => ?_) (fun h => ?_) <;> (try simp [nd_eta, sh_eta, it_eta, sto_eta, op_eta, ch_eta, nw_eta, fl_eta, rq_eta, rs_eta, elDef, -List.getD_eq_getElem?_getD] at h) <;> conv => whnf)
      | (refine Obl.mk (by first | omega | rfl | exact inK_byte _ | (simp only [inK, Int.toNat_natCast, nd_eta, sh_eta, it_eta, sto_eta, op_eta, ch_eta, nw_eta, fl_eta, rq_eta, rs_eta, elDef, o81, o82] <;> first | omega | grind) | grind [inK, o81, o82]) ?_ <;> conv => whnf)
      | (refine OblG.mk (by conv => whnf
                            repeat (first | (refine Bx.mk ?_) | (intro h; (try simp [nd_eta, sh_eta, it_eta, sto_eta, op_eta, ch_eta, nw_eta, fl_eta, rq_eta, rs_eta, elDef, -List.getD_eq_getElem?_getD] at h); conv => whnf))
                            first | omega | rfl | exact inK_byte _ | (simp only [inK, Int.toNat_natCast, nd_eta, sh_eta, it_eta, sto_eta, op_eta, ch_eta, nw_eta, fl_eta, rq_eta, rs_eta, elDef, o81, o82] <;> first | omega | grind) | grind [inK, o81, o82]) ?_ <;> conv => whnf)
      | (refine Gd.mk (fun h => ?_) <;> (try simp [nd_eta, sh_eta, it_eta, sto_eta, op_eta, ch_eta, nw_eta, fl_eta, rq_eta, rs_eta, elDef, -List.getD_eq_getElem?_getD] at h) <;> conv => whnf)
      | (refine And.intro ?_ ?_ <;> conv => whnf)
      | exact True.intro
      | (intro; conv => whnf)
    · have hp : placeM n b = i := placeM_at (by omega) (hitM_iff.2 (.inr ⟨by assumption, by first | exact of_decide_eq_true h | exact h⟩)) fun j hl => hitM_no ⟨fun h4 => by omega, fun _ => hj j hl⟩
      exact leafV hK (by unfold kidM; rw [if_neg (by omega), if_neg (by omega), hp])
    · have hj' : ∀ j, j < i + 1 → decM j ≠ b := fun j hl => (Nat.lt_or_eq_of_le (Nat.le_of_lt_succ hl)).elim (hj j) (fun e => e ▸ (by first | exact of_decide_eq_false h | exact h))
      exact ⟨i + 1, [], [], ⟨by omega, by exact hj'⟩, by omega, by (conv => whnf); (repeat' (first | exact trivial | rfl | (refine nilEq ?_; first | rfl | (simp only [*]; done) | (simp [*]; done) | grind) | apply And.intro | ((first | refine intEq ?_ | refine boolEq ?_ | refine strEq ?_ | refine psEq ?_ | refine nilEq ?_ | refine arrEq ?_); (try simp only [Int.toNat_natCast, nd_eta, sh_eta, it_eta, sto_eta, op_eta, ch_eta, nw_eta, fl_eta, rq_eta, rs_eta, elDef]); first | done | omega | grind | (simp only [*]; done) | (simp [*]; done)))); (all_goals (conv => whnf)); (repeat' (first | exact trivial | rfl | (refine nilEq ?_; first | rfl | (simp only [*]; done) | (simp [*]; done) | grind) | apply And.intro | ((first | refine intEq ?_ | refine boolEq ?_ | refine strEq ?_ | refine psEq ?_ | refine nilEq ?_ | refine arrEq ?_); (try simp only [Int.toNat_natCast, nd_eta, sh_eta, it_eta, sto_eta, op_eta, ch_eta, nw_eta, fl_eta, rq_eta, rs_eta, elDef]); first | done | omega | grind | (simp only [*]; done) | (simp [*]; done)) | ((try simp only [Int.toNat_natCast, nd_eta, sh_eta, it_eta, sto_eta, op_eta, ch_eta, nw_eta, fl_eta, rq_eta, rs_eta, elDef]); first | done | omega | grind | (simp only [*]; done) | (simp [*]; done)))), (by exact sgOk_of (by rfl))⟩
    · have hp : placeM n b = -1 := placeM_none fun j hl => hitM_no ⟨fun h4 => by omega, fun _ => hj j (by omega)⟩
      exact leafV hK (by unfold kidM; rw [if_neg (by omega), if_pos (by omega)])
  · have hp : placeM n b = -1 := placeM_none fun j hl => hitM_no ⟨fun h4 => by omega, fun h3 => by omega⟩
    exact leafV hK (by unfold kidM; rw [if_neg (by omega), if_pos (by omega)])
theorem s65 : (CtrOK Tryz.prog 65 (.pure F65) ∧ Callable Tryz.prog 65) := by
  refine pure_ok (E := E65) (mkE_cons s81 (mkE_cons s82 (mkE_nil tab_ok))) mix (O := O65) (F := F65) Tryz.func65 rfl (by rfl) (by kernel_rfl) (fun args o v h => ?_) (fun args o v h => ?_) (fun args o v h hbd hp K hK => ?_)
  · unfold F65 at h; split at h <;> cases h; first | trivial | (simp [v65, Scalar, Scalar2, Scalar1, stC, ndC, itC, chC, nwC])
  · unfold F65 at h; split at h <;> cases h; exact Nat.le_of_ble_eq_true rfl
  · unfold F65 at h; split at h
    case h_2 => cases h
    cases h
    exact a65 ⟨_, _, _, _, _⟩ _ (by exact hbd) (hp _ rfl) K hK
noncomputable def v44 (l : List Bs) : AV := .bool (pathM l)
noncomputable def o44 (l : List Bs) : Prop := True
noncomputable def F44 : List AV → QR
  | [.ps .str l] => some (none, v44 l)
  | _ => none
noncomputable def E44 : Ctx := mkE tab [(64, .pure F64)]
noncomputable def O44 : Nat → List DI := ordL []
theorem a44 (l : List Bs) (hb : BdAs [.ps .str l]) (ho : o44 l) (K : AV → List AV → Prop) (hK : K (v44 l) []) : abody E44 O44 .ps Tryz.f44 (Tryz.f44.body.getD .skip) [.ps .str l] K := by
  simp only [BdAs, BdA, BdL, BdC, MX, ndC, shC, itC, stC, opC, chC, nwC, flC, rqC, rsC, enc, List.cons_append, List.nil_append, and_true, true_and] at hb
  unfold v44 at hK
  conv => whnf
  repeat' first
    | (refine Cnd.mk (fun h => ?_) (fun h => ?_) <;> (try simp [nd_eta, sh_eta, it_eta, sto_eta, op_eta, ch_eta, nw_eta, fl_eta, rq_eta, rs_eta, elDef, -List.getD_eq_getElem?_getD] at h) <;> conv => whnf)
    | (refine Obl.mk (by first | omega | rfl | exact inK_byte _ | (simp only [inK, Int.toNat_natCast, nd_eta, sh_eta, it_eta, sto_eta, op_eta, ch_eta, nw_eta, fl_eta, rq_eta, rs_eta, elDef] <;> first | omega | grind) | grind [inK]) ?_ <;> conv => whnf)
    | (refine OblG.mk (by conv => whnf
                          repeat (first | (refine Bx.mk ?_) | (intro h; (try simp [nd_eta, sh_eta, it_eta, sto_eta, op_eta, ch_eta, nw_eta, fl_eta, rq_eta, rs_eta, elDef, -List.getD_eq_getElem?_getD] at h); conv => whnf))
                          first | omega | rfl | exact inK_byte _ | (simp only [inK, Int.toNat_natCast, nd_eta, sh_eta, it_eta, sto_eta, op_eta, ch_eta, nw_eta, fl_eta, rq_eta, rs_eta, elDef] <;> first | omega | grind) | grind [inK]) ?_ <;> conv => whnf)
    | (refine Gd.mk (fun h => ?_) <;> (try simp [nd_eta, sh_eta, it_eta, sto_eta, op_eta, ch_eta, nw_eta, fl_eta, rq_eta, rs_eta, elDef, -List.getD_eq_getElem?_getD] at h) <;> conv => whnf)
    | (refine And.intro ?_ ?_ <;> conv => whnf)
    | exact True.intro
    | (intro; conv => whnf)
  · exact leafB hK (by simp [pathM]; omega)
  refine aloop_intro Nat (fun k => k ≤ l.length ∧ ∀ j, j < k → txtM (l.getD j []) = true) (fun k => l.length - k) (fun k => [(10, .int .i64 k)]) (fun k => []) [] 0 [] [] ?_ ?_ (by exact sgOk_of (by rfl)) ?_
  · first | (simp; done) | (simp; assumption)
  · (conv => whnf); (repeat' (first | exact trivial | rfl | (refine nilEq ?_; first | rfl | (simp only [*]; done) | (simp [*]; done) | grind) | apply And.intro | ((first | refine intEq ?_ | refine boolEq ?_ | refine strEq ?_ | refine psEq ?_ | refine nilEq ?_ | refine arrEq ?_); (try simp only [Int.toNat_natCast, nd_eta, sh_eta, it_eta, sto_eta, op_eta, ch_eta, nw_eta, fl_eta, rq_eta, rs_eta, elDef]); first | done | omega | grind | (simp only [*]; done) | (simp [*]; done)))); (all_goals (conv => whnf)); (repeat' (first | exact trivial | rfl | (refine nilEq ?_; first | rfl | (simp only [*]; done) | (simp [*]; done) | grind) | apply And.intro | ((first | refine intEq ?_ | refine boolEq ?_ | refine strEq ?_ | refine psEq ?_ | refine nilEq ?_ | refine arrEq ?_); (try simp only [Int.toNat_natCast, nd_eta, sh_eta, it_eta, sto_eta, op_eta, ch_eta, nw_eta, fl_eta, rq_eta, rs_eta, elDef]); first | done | omega | grind | (simp only [*]; done) | (simp [*]; done)) | ((try simp only [Int.toNat_natCast, nd_eta, sh_eta, it_eta, sto_eta, op_eta, ch_eta, nw_eta, fl_eta, rq_eta, rs_eta, elDef]); first | done | omega | grind | (simp only [*]; done) | (simp [*]; done))))
  rintro i ⟨hi, hj⟩
  conv => whnf
  repeat' first
    | (refine Cnd.mk (fun h => ?_) (fun h => ?_) <;> (try simp [nd_eta, sh_eta, it_eta, sto_eta, op_eta, ch_eta, nw_eta, fl_eta, rq_eta, rs_eta, elDef, -List.getD_eq_getElem?_getD] at h) <;> conv => whnf)
    | (refine Obl.mk (by first | omega | rfl | exact inK_byte _ | (simp only [inK, Int.toNat_natCast, nd_eta, sh_eta, it_eta, sto_eta, op_eta, ch_eta, nw_eta, fl_eta, rq_eta, rs_eta, elDef] <;> first | omega | grind) | grind [inK]) ?_ <;> conv => whnf)
    | (refine OblG.mk (by conv => whnf
                          repeat (first | (refine Bx.mk ?_) | (intro h; (try simp [nd_eta, sh_eta, it_eta, sto_eta, op_eta, ch_eta, nw_eta, fl_eta, rq_eta, rs_eta, elDef, -List.getD_eq_getElem?_getD] at h); conv => whnf))
                          first | omega | rfl | exact inK_byte _ | (simp only [inK, Int.toNat_natCast, nd_eta, sh_eta, it_eta, sto_eta, op_eta, ch_eta, nw_eta, fl_eta, rq_eta, rs_eta, elDef] <;> first | omega | grind) | grind [inK]) ?_ <;> conv => whnf)
    | (refine Gd.mk (fun h => ?_) <;> (try simp [nd_eta, sh_eta, it_eta, sto_eta, op_eta, ch_eta, nw_eta, fl_eta, rq_eta, rs_eta, elDef, -List.getD_eq_getElem?_getD] at h) <;> conv => whnf)
    | (refine And.intro ?_ ?_ <;> conv => whnf)
    | exact True.intro
    | (intro; conv => whnf)
  · have : l.all txtM = false := allB_no (j := i) (by omega) (by grind)
    exact leafB hK (by simp only [pathM, this, Bool.and_false])
  · exact ⟨i + 1, [], [], ⟨by omega, by grind⟩, by omega, by (conv => whnf); (repeat' (first | exact trivial | rfl | (refine nilEq ?_; first | rfl | (simp only [*]; done) | (simp [*]; done) | grind) | apply And.intro | ((first | refine intEq ?_ | refine boolEq ?_ | refine strEq ?_ | refine psEq ?_ | refine nilEq ?_ | refine arrEq ?_); (try simp only [Int.toNat_natCast, nd_eta, sh_eta, it_eta, sto_eta, op_eta, ch_eta, nw_eta, fl_eta, rq_eta, rs_eta, elDef]); first | done | omega | grind | (simp only [*]; done) | (simp [*]; done)))); (all_goals (conv => whnf)); (repeat' (first | exact trivial | rfl | (refine nilEq ?_; first | rfl | (simp only [*]; done) | (simp [*]; done) | grind) | apply And.intro | ((first | refine intEq ?_ | refine boolEq ?_ | refine strEq ?_ | refine psEq ?_ | refine nilEq ?_ | refine arrEq ?_); (try simp only [Int.toNat_natCast, nd_eta, sh_eta, it_eta, sto_eta, op_eta, ch_eta, nw_eta, fl_eta, rq_eta, rs_eta, elDef]); first | done | omega | grind | (simp only [*]; done) | (simp [*]; done)) | ((try simp only [Int.toNat_natCast, nd_eta, sh_eta, it_eta, sto_eta, op_eta, ch_eta, nw_eta, fl_eta, rq_eta, rs_eta, elDef]); first | done | omega | grind | (simp only [*]; done) | (simp [*]; done)))), (by exact sgOk_of (by rfl))⟩
  · have : l.all txtM = true := (allB_iff _ _).2 (by grind)
    exact leafB hK (by simp only [pathM, this, Bool.and_true]; exact decide_eq_true (by omega))
theorem s44 : (CtrOK Tryz.prog 44 (.pure F44) ∧ Callable Tryz.prog 44) := by
  refine pure_ok (E := E44) (mkE_cons s64 (mkE_nil tab_ok)) mix (O := O44) (F := F44) Tryz.func44 rfl (by rfl) (by kernel_rfl) (fun args o v h => ?_) (fun args o v h => ?_) (fun args o v h hbd hp K hK => ?_)
  · unfold F44 at h; split at h <;> cases h; first | trivial | (simp [v44, Scalar, Scalar2, Scalar1, stC, ndC, itC, chC, nwC])
  · unfold F44 at h; split at h <;> cases h; exact Nat.le_of_ble_eq_true rfl
  · unfold F44 at h; split at h
    case h_2 => cases h
    cases h
    exact a44 _ (by exact hbd) trivial K hK
noncomputable def v50 (l : List Bs) : AV := .bool (pathM l)
noncomputable def o50 (l : List Bs) : Prop := True
noncomputable def F50 : List AV → QR
  | [.ps .str l] => some (none, v50 l)
  | _ => none
noncomputable def E50 : Ctx := mkE tab [(68, .pure F68)]
noncomputable def O50 : Nat → List DI := ordL []
theorem a50 (l : List Bs) (hb : BdAs [.ps .str l]) (ho : o50 l) (K : AV → List AV → Prop) (hK : K (v50 l) []) : abody E50 O50 .ps Tryz.f50 (Tryz.f50.body.getD .skip) [.ps .str l] K := by
  simp only [BdAs, BdA, BdL, BdC, MX, ndC, shC, itC, stC, opC, chC, nwC, flC, rqC, rsC, enc, List.cons_append, List.nil_append, and_true, true_and] at hb
  unfold v50 at hK
  conv => whnf
  refine aloop_intro Nat (fun k => k ≤ l.length ∧ ∀ j, j < k → txtM (l.getD j []) = true) (fun k => l.length - k) (fun k => [(3, .int .i64 k)]) (fun k => []) [] 0 [] [] ?_ ?_ (by exact sgOk_of (by rfl)) ?_
  · first | (simp; done) | (simp; assumption)
  · (conv => whnf); (repeat' (first | exact trivial | rfl | (refine nilEq ?_; first | rfl | (simp only [*]; done) | (simp [*]; done) | grind) | apply And.intro | ((first | refine intEq ?_ | refine boolEq ?_ | refine strEq ?_ | refine psEq ?_ | refine nilEq ?_ | refine arrEq ?_); (try simp only [Int.toNat_natCast, nd_eta, sh_eta, it_eta, sto_eta, op_eta, ch_eta, nw_eta, fl_eta, rq_eta, rs_eta, elDef]); first | done | omega | grind | (simp only [*]; done) | (simp [*]; done)))); (all_goals (conv => whnf)); (repeat' (first | exact trivial | rfl | (refine nilEq ?_; first | rfl | (simp only [*]; done) | (simp [*]; done) | grind) | apply And.intro | ((first | refine intEq ?_ | refine boolEq ?_ | refine strEq ?_ | refine psEq ?_ | refine nilEq ?_ | refine arrEq ?_); (try simp only [Int.toNat_natCast, nd_eta, sh_eta, it_eta, sto_eta, op_eta, ch_eta, nw_eta, fl_eta, rq_eta, rs_eta, elDef]); first | done | omega | grind | (simp only [*]; done) | (simp [*]; done)) | ((try simp only [Int.toNat_natCast, nd_eta, sh_eta, it_eta, sto_eta, op_eta, ch_eta, nw_eta, fl_eta, rq_eta, rs_eta, elDef]); first | done | omega | grind | (simp only [*]; done) | (simp [*]; done))))
  rintro i ⟨hi, hj⟩
  conv => whnf
  repeat' first
    | (refine Cnd.mk (fun h => ?_) (fun h => ?_) <;> (try simp [nd_eta, sh_eta, it_eta, sto_eta, op_eta, ch_eta, nw_eta, fl_eta, rq_eta, rs_eta, elDef, -List.getD_eq_getElem?_getD] at h) <;> conv => whnf)
    | (refine Obl.mk (by first | omega | rfl | exact inK_byte _ | (simp only [inK, Int.toNat_natCast, nd_eta, sh_eta, it_eta, sto_eta, op_eta, ch_eta, nw_eta, fl_eta, rq_eta, rs_eta, elDef] <;> first | omega | grind) | grind [inK]) ?_ <;> conv => whnf)
    | (refine OblG.mk (by conv => whnf
                          repeat (first | (refine Bx.mk ?_) | (intro h; (try simp [nd_eta, sh_eta, it_eta, sto_eta, op_eta, ch_eta, nw_eta, fl_eta, rq_eta, rs_eta, elDef, -List.getD_eq_getElem?_getD] at h); conv => whnf))
                          first | omega | rfl | exact inK_byte _ | (simp only [inK, Int.toNat_natCast, nd_eta, sh_eta, it_eta, sto_eta, op_eta, ch_eta, nw_eta, fl_eta, rq_eta, rs_eta, elDef] <;> first | omega | grind) | grind [inK]) ?_ <;> conv => whnf)
    | (refine Gd.mk (fun h => ?_) <;> (try simp [nd_eta, sh_eta, it_eta, sto_eta, op_eta, ch_eta, nw_eta, fl_eta, rq_eta, rs_eta, elDef, -List.getD_eq_getElem?_getD] at h) <;> conv => whnf)
    | (refine And.intro ?_ ?_ <;> conv => whnf)
    | exact True.intro
    | (intro; conv => whnf)
  · have : l.all txtM = false := allB_no (j := i) (by omega) (by grind)
    exact leafB hK (by simp only [pathM, this, Bool.and_false])
  · exact ⟨i + 1, [], [], ⟨by omega, by grind⟩, by omega, by (conv => whnf); (repeat' (first | exact trivial | rfl | (refine nilEq ?_; first | rfl | (simp only [*]; done) | (simp [*]; done) | grind) | apply And.intro | ((first | refine intEq ?_ | refine boolEq ?_ | refine strEq ?_ | refine psEq ?_ | refine nilEq ?_ | refine arrEq ?_); (try simp only [Int.toNat_natCast, nd_eta, sh_eta, it_eta, sto_eta, op_eta, ch_eta, nw_eta, fl_eta, rq_eta, rs_eta, elDef]); first | done | omega | grind | (simp only [*]; done) | (simp [*]; done)))); (all_goals (conv => whnf)); (repeat' (first | exact trivial | rfl | (refine nilEq ?_; first | rfl | (simp only [*]; done) | (simp [*]; done) | grind) | apply And.intro | ((first | refine intEq ?_ | refine boolEq ?_ | refine strEq ?_ | refine psEq ?_ | refine nilEq ?_ | refine arrEq ?_); (try simp only [Int.toNat_natCast, nd_eta, sh_eta, it_eta, sto_eta, op_eta, ch_eta, nw_eta, fl_eta, rq_eta, rs_eta, elDef]); first | done | omega | grind | (simp only [*]; done) | (simp [*]; done)) | ((try simp only [Int.toNat_natCast, nd_eta, sh_eta, it_eta, sto_eta, op_eta, ch_eta, nw_eta, fl_eta, rq_eta, rs_eta, elDef]); first | done | omega | grind | (simp only [*]; done) | (simp [*]; done)))), (by exact sgOk_of (by rfl))⟩
  · have : l.all txtM = true := (allB_iff _ _).2 (by grind)
    exact leafB hK (by simp only [pathM, this, Bool.and_true]; rw [Bool.eq_iff_iff]; simp; omega)
theorem s50 : (CtrOK Tryz.prog 50 (.pure F50) ∧ Callable Tryz.prog 50) := by
  refine pure_ok (E := E50) (mkE_cons s68 (mkE_nil tab_ok)) mix (O := O50) (F := F50) Tryz.func50 rfl (by rfl) (by kernel_rfl) (fun args o v h => ?_) (fun args o v h => ?_) (fun args o v h hbd hp K hK => ?_)
  · unfold F50 at h; split at h <;> cases h; first | trivial | (simp [v50, Scalar, Scalar2, Scalar1, stC, ndC, itC, chC, nwC])
  · unfold F50 at h; split at h <;> cases h; exact Nat.le_of_ble_eq_true rfl
  · unfold F50 at h; split at h
    case h_2 => cases h
    cases h
    exact a50 _ (by exact hbd) trivial K hK
noncomputable def v72 (a : Int) (b : Int) : AV := .int .i64 (ordI a b)
noncomputable def o72 (a : Int) (b : Int) : Prop := True
noncomputable def F72 : List AV → QR
  | [.int .i64 a, .int .i64 b] => some (none, v72 a b)
  | _ => none
noncomputable def E72 : Ctx := mkE tab [(86, .pure F86)]
noncomputable def O72 : Nat → List DI := ordL []
theorem a72 (a : Int) (b : Int) (hb : BdAs [.int .i64 a, .int .i64 b]) (ho : o72 a b) (K : AV → List AV → Prop) (hK : K (v72 a b) []) : abody E72 O72 .ps Tryz.f72 (Tryz.f72.body.getD .skip) [.int .i64 a, .int .i64 b] K := by
  simp only [BdAs, BdA, BdL, BdC, MX, ndC, shC, itC, stC, opC, chC, nwC, flC, rqC, rsC, enc, List.cons_append, List.nil_append, and_true, true_and] at hb
  unfold v72 at hK
  conv => whnf
  repeat' first
    | (refine Cnd.mk (fun h => ?_) (fun h => ?_) <;> (try simp [nd_eta, sh_eta, it_eta, sto_eta, op_eta, ch_eta, nw_eta, fl_eta, rq_eta, rs_eta, elDef, -List.getD_eq_getElem?_getD] at h) <;> conv => whnf)
    | (refine Obl.mk (by first | omega | rfl | exact inK_byte _ | (simp only [inK, Int.toNat_natCast, nd_eta, sh_eta, it_eta, sto_eta, op_eta, ch_eta, nw_eta, fl_eta, rq_eta, rs_eta, elDef] <;> first | omega | grind) | grind [inK]) ?_ <;> conv => whnf)
    | (refine OblG.mk (by conv => whnf
                          repeat (first | (refine Bx.mk ?_) | (intro h; (try simp [nd_eta, sh_eta, it_eta, sto_eta, op_eta, ch_eta, nw_eta, fl_eta, rq_eta, rs_eta, elDef, -List.getD_eq_getElem?_getD] at h); conv => whnf))
                          first | omega | rfl | exact inK_byte _ | (simp only [inK, Int.toNat_natCast, nd_eta, sh_eta, it_eta, sto_eta, op_eta, ch_eta, nw_eta, fl_eta, rq_eta, rs_eta, elDef] <;> first | omega | grind) | grind [inK]) ?_ <;> conv => whnf)
    | (refine Gd.mk (fun h => ?_) <;> (try simp [nd_eta, sh_eta, it_eta, sto_eta, op_eta, ch_eta, nw_eta, fl_eta, rq_eta, rs_eta, elDef, -List.getD_eq_getElem?_getD] at h) <;> conv => whnf)
    | (refine And.intro ?_ ?_ <;> conv => whnf)
    | exact True.intro
    | (intro; conv => whnf)
  all_goals exact leafI hK (by unfold ordI; grind)
theorem s72 : (CtrOK Tryz.prog 72 (.pure F72) ∧ Callable Tryz.prog 72) := by
  refine pure_ok (E := E72) (mkE_cons s86 (mkE_nil tab_ok)) mix (O := O72) (F := F72) Tryz.func72 rfl (by rfl) (by kernel_rfl) (fun args o v h => ?_) (fun args o v h => ?_) (fun args o v h hbd hp K hK => ?_)
  · unfold F72 at h; split at h <;> cases h; first | trivial | (simp [v72, Scalar, Scalar2, Scalar1, stC, ndC, itC, chC, nwC])
  · unfold F72 at h; split at h <;> cases h; exact Nat.le_of_ble_eq_true rfl
  · unfold F72 at h; split at h
    case h_2 => cases h
    cases h
    exact a72 _ _ (by exact hbd) trivial K hK
noncomputable def v73 (a : Bs) (b : Bs) : AV := .int .i64 (cmpI a b)
noncomputable def o73 (a : Bs) (b : Bs) : Prop := True
noncomputable def F73 : List AV → QR
  | [.str a, .str b] => some (none, v73 a b)
  | _ => none
noncomputable def E73 : Ctx := mkE tab [(86, .pure F86)]
noncomputable def O73 : Nat → List DI := ordL []
theorem a73 (a : Bs) (b : Bs) (hb : BdAs [.str a, .str b]) (ho : o73 a b) (K : AV → List AV → Prop) (hK : K (v73 a b) []) : abody E73 O73 .ps Tryz.f73 (Tryz.f73.body.getD .skip) [.str a, .str b] K := by
  simp only [BdAs, BdA, BdL, BdC, MX, ndC, shC, itC, stC, opC, chC, nwC, flC, rqC, rsC, enc, List.cons_append, List.nil_append, and_true, true_and] at hb
  unfold v73 at hK
  have h1 := fun h : ltS a b = true => ltS_asymm h
  conv => whnf
  repeat' first
    | (refine Cnd.mk (fun h => ?_) (fun h => ?_) <;> (try simp [nd_eta, sh_eta, it_eta, sto_eta, op_eta, ch_eta, nw_eta, fl_eta, rq_eta, rs_eta, elDef, -List.getD_eq_getElem?_getD] at h) <;> conv => whnf)
    | (refine Obl.mk (by first | omega | rfl | exact inK_byte _ | (simp only [inK, Int.toNat_natCast, nd_eta, sh_eta, it_eta, sto_eta, op_eta, ch_eta, nw_eta, fl_eta, rq_eta, rs_eta, elDef] <;> first | omega | grind) | grind [inK]) ?_ <;> conv => whnf)
    | (refine OblG.mk (by conv => whnf
                          repeat (first | (refine Bx.mk ?_) | (intro h; (try simp [nd_eta, sh_eta, it_eta, sto_eta, op_eta, ch_eta, nw_eta, fl_eta, rq_eta, rs_eta, elDef, -List.getD_eq_getElem?_getD] at h); conv => whnf))
                          first | omega | rfl | exact inK_byte _ | (simp only [inK, Int.toNat_natCast, nd_eta, sh_eta, it_eta, sto_eta, op_eta, ch_eta, nw_eta, fl_eta, rq_eta, rs_eta, elDef] <;> first | omega | grind) | grind [inK]) ?_ <;> conv => whnf)
    | (refine Gd.mk (fun h => ?_) <;> (try simp [nd_eta, sh_eta, it_eta, sto_eta, op_eta, ch_eta, nw_eta, fl_eta, rq_eta, rs_eta, elDef, -List.getD_eq_getElem?_getD] at h) <;> conv => whnf)
    | (refine And.intro ?_ ?_ <;> conv => whnf)
    | exact True.intro
    | (intro; conv => whnf)
  all_goals exact leafI hK (by unfold cmpI; grind)
theorem s73 : (CtrOK Tryz.prog 73 (.pure F73) ∧ Callable Tryz.prog 73) := by
  refine pure_ok (E := E73) (mkE_cons s86 (mkE_nil tab_ok)) mix (O := O73) (F := F73) Tryz.func73 rfl (by rfl) (by kernel_rfl) (fun args o v h => ?_) (fun args o v h => ?_) (fun args o v h hbd hp K hK => ?_)
  · unfold F73 at h; split at h <;> cases h; first | trivial | (simp [v73, Scalar, Scalar2, Scalar1, stC, ndC, itC, chC, nwC])
  · unfold F73 at h; split at h <;> cases h; exact Nat.le_of_ble_eq_true rfl
  · unfold F73 at h; split at h
    case h_2 => cases h
    cases h
    exact a73 _ _ (by exact hbd) trivial K hK
noncomputable def v46 (a : Nd) (b : Nd) : AV := .int .i64 (cmpN a b)
noncomputable def o46 (a : Nd) (b : Nd) : Prop := okN a ∧ okN b
noncomputable def m46 (a : Nd) (b : Nd) : Nat := SizeOf.sizeOf a
noncomputable def F46 : List AV → QR
  | [.st [.int .i64 a_0, .int .i64 a_1, .str a_2, .ps .str a_3, .ps .node a_4], .st [.int .i64 b_0, .int .i64 b_1, .str b_2, .ps .str b_3, .ps .node b_4]] => some (some (o46 ⟨a_0, a_1, a_2, a_3, a_4⟩ ⟨b_0, b_1, b_2, b_3, b_4⟩), v46 ⟨a_0, a_1, a_2, a_3, a_4⟩ ⟨b_0, b_1, b_2, b_3, b_4⟩)
  | _ => none
noncomputable def Fk46 (k : Nat) : List AV → QR
  | [.st [.int .i64 a_0, .int .i64 a_1, .str a_2, .ps .str a_3, .ps .node a_4], .st [.int .i64 b_0, .int .i64 b_1, .str b_2, .ps .str b_3, .ps .node b_4]] => some (some (m46 ⟨a_0, a_1, a_2, a_3, a_4⟩ ⟨b_0, b_1, b_2, b_3, b_4⟩ < k ∧ o46 ⟨a_0, a_1, a_2, a_3, a_4⟩ ⟨b_0, b_1, b_2, b_3, b_4⟩), v46 ⟨a_0, a_1, a_2, a_3, a_4⟩ ⟨b_0, b_1, b_2, b_3, b_4⟩)
  | _ => none
noncomputable def E46 (k : Nat) : Ctx := mkE tab [(46, .pure (Fk46 k)), (66, .pure F66), (67, .pure F67)]
noncomputable def O46 : Nat → List DI := ordL [(14, [.q 0, .q 1, .q 2, .q 3, .q 4, .q 5, .q 6, .q 7, .q 8, .q 9, .q 10, .q 11]), (17, [.q 0, .q 1, .q 2, .q 3, .q 4, .q 5, .q 6, .q 7, .q 8, .q 9, .q 10, .q 11])]
theorem a46 (k : Nat) (a : Nd) (b : Nd) (hm : m46 a b < k + 1) (hb : BdAs [.st (ndC a), .st (ndC b)]) (ho : o46 a b) (K : AV → List AV → Prop) (hK : K (v46 a b) []) : abody (E46 k) O46 .ps Tryz.f46 (Tryz.f46.body.getD .skip) [.st (ndC a), .st (ndC b)] K := by
  simp only [BdAs, BdA, BdL, BdC, MX, ndC, shC, itC, stC, opC, chC, nwC, flC, rqC, rsC, enc, List.cons_append, List.nil_append, and_true, true_and] at hb
  unfold o46 at ho
  unfold v46 at hK
  unfold m46 at hm
  rw [cmpN_eq] at hK
  obtain ⟨ha, hb2⟩ := ho
  have hna := (okN_names ha).2.1
  have hnb := (okN_names hb2).2.1
  have hkid : ∀ j, j < a.kids.length → j < b.kids.length → SizeOf.sizeOf (a.kids.getD j default) < k ∧ okN (a.kids.getD j default) ∧ okN (b.kids.getD j default) := fun j hj hj2 => ⟨by have := kid_size hj; omega, okN_kid ha hj, okN_kid hb2 hj2⟩
  conv => whnf
  repeat' first
    | (refine Cnd.mk (fun h => ?_) (fun h => ?_) <;> (try simp [nd_eta, sh_eta, it_eta, sto_eta, op_eta, ch_eta, nw_eta, fl_eta, rq_eta, rs_eta, elDef, -List.getD_eq_getElem?_getD] at h) <;> conv => whnf)
    | (refine Obl.mk (by first | omega | rfl | exact inK_byte _ | (simp only [inK, Int.toNat_natCast, nd_eta, sh_eta, it_eta, sto_eta, op_eta, ch_eta, nw_eta, fl_eta, rq_eta, rs_eta, elDef, m46, o46, m46] <;> first | omega | grind) | grind [inK, m46, o46, m46]) ?_ <;> conv => whnf)
    | (refine OblG.mk (by conv => whnf
                          repeat (first | (refine Bx.mk ?_) | (intro h; (try simp [nd_eta, sh_eta, it_eta, sto_eta, op_eta, ch_eta, nw_eta, fl_eta, rq_eta, rs_eta, elDef, -List.getD_eq_getElem?_getD] at h); conv => whnf))
                          first | omega | rfl | exact inK_byte _ | (simp only [inK, Int.toNat_natCast, nd_eta, sh_eta, it_eta, sto_eta, op_eta, ch_eta, nw_eta, fl_eta, rq_eta, rs_eta, elDef, m46, o46, m46] <;> first | omega | grind) | grind [inK, m46, o46, m46]) ?_ <;> conv => whnf)
    | (refine Gd.mk (fun h => ?_) <;> (try simp [nd_eta, sh_eta, it_eta, sto_eta, op_eta, ch_eta, nw_eta, fl_eta, rq_eta, rs_eta, elDef, -List.getD_eq_getElem?_getD] at h) <;> conv => whnf)
    | (refine And.intro ?_ ?_ <;> conv => whnf)
    | exact True.intro
    | (intro; conv => whnf)
  · exact leafI hK (by rw [if_neg (fun e => h (ordI_zero.2 e))])
  · exact leafI hK (by rw [if_pos (ordI_zero.1 (by assumption)), if_neg (fun e => h (ordI_zero.2 e))])
  · exact leafI hK (by rw [if_pos (ordI_zero.1 (by assumption)), if_pos (ordI_zero.1 (by assumption)), if_neg (fun e => h (cmpI_zero.2 e))])
  have e1 : a.kind = b.kind := ordI_zero.1 (by assumption)
  have e2 : a.num = b.num := ordI_zero.1 (by assumption)
  have e3 : a.text = b.text := cmpI_zero.1 (by assumption)
  rw [if_pos e1, if_pos e2, if_pos e3, ← cmpK_zero] at hK
  refine aloop_intro Nat (fun i => i ≤ a.kids.length ∧ i ≤ b.kids.length ∧ cmpK a b 0 = cmpK a b i) (fun i => a.kids.length - i) (fun i => [(8, .int .i64 i)]) (fun _ => []) [2, 3] 0 [] [] ⟨by omega, by omega, rfl⟩ ?_ (by exact sgOk_of (by rfl)) ?_
  · (conv => whnf); (repeat' (first | exact trivial | rfl | (refine nilEq ?_; first | rfl | (simp only [*]; done) | (simp [*]; done) | grind) | apply And.intro | ((first | refine intEq ?_ | refine boolEq ?_ | refine strEq ?_ | refine psEq ?_ | refine nilEq ?_ | refine arrEq ?_); (try simp only [Int.toNat_natCast, nd_eta, sh_eta, it_eta, sto_eta, op_eta, ch_eta, nw_eta, fl_eta, rq_eta, rs_eta, elDef]); first | done | omega | grind | (simp only [*]; done) | (simp [*]; done)))); (all_goals (conv => whnf)); (repeat' (first | exact trivial | rfl | (refine nilEq ?_; first | rfl | (simp only [*]; done) | (simp [*]; done) | grind) | apply And.intro | ((first | refine intEq ?_ | refine boolEq ?_ | refine strEq ?_ | refine psEq ?_ | refine nilEq ?_ | refine arrEq ?_); (try simp only [Int.toNat_natCast, nd_eta, sh_eta, it_eta, sto_eta, op_eta, ch_eta, nw_eta, fl_eta, rq_eta, rs_eta, elDef]); first | done | omega | grind | (simp only [*]; done) | (simp [*]; done)) | ((try simp only [Int.toNat_natCast, nd_eta, sh_eta, it_eta, sto_eta, op_eta, ch_eta, nw_eta, fl_eta, rq_eta, rs_eta, elDef]); first | done | omega | grind | (simp only [*]; done) | (simp [*]; done))))
  rintro i ⟨hi1, hi2, hj⟩
  have hst := fun h1 h2 => cmpK_step (a := a) (b := b) (i := i) h1 h2
  have hen := fun h => cmpK_end (a := a) (b := b) (i := i) hi1 hi2 h
  have hz := @cmpI_zero
  conv => whnf
  repeat' first
    | (refine Cnd.mk (fun h => ?_) (fun h => ?_) <;> (try simp [nd_eta, sh_eta, it_eta, sto_eta, op_eta, ch_eta, nw_eta, fl_eta, rq_eta, rs_eta, elDef, -List.getD_eq_getElem?_getD] at h) <;> conv => whnf)
    | (refine Obl.mk (by first | omega | rfl | exact inK_byte _ | (simp only [inK, Int.toNat_natCast, nd_eta, sh_eta, it_eta, sto_eta, op_eta, ch_eta, nw_eta, fl_eta, rq_eta, rs_eta, elDef, m46, o46, m46] <;> first | omega | grind) | grind [inK, m46, o46, m46]) ?_ <;> conv => whnf)
    | (refine OblG.mk (by conv => whnf
                          repeat (first | (refine Bx.mk ?_) | (intro h; (try simp [nd_eta, sh_eta, it_eta, sto_eta, op_eta, ch_eta, nw_eta, fl_eta, rq_eta, rs_eta, elDef, -List.getD_eq_getElem?_getD] at h); conv => whnf))
                          first | omega | rfl | exact inK_byte _ | (simp only [inK, Int.toNat_natCast, nd_eta, sh_eta, it_eta, sto_eta, op_eta, ch_eta, nw_eta, fl_eta, rq_eta, rs_eta, elDef, m46, o46, m46] <;> first | omega | grind) | grind [inK, m46, o46, m46]) ?_ <;> conv => whnf)
    | (refine Gd.mk (fun h => ?_) <;> (try simp [nd_eta, sh_eta, it_eta, sto_eta, op_eta, ch_eta, nw_eta, fl_eta, rq_eta, rs_eta, elDef, -List.getD_eq_getElem?_getD] at h) <;> conv => whnf)
    | (refine And.intro ?_ ?_ <;> conv => whnf)
    | exact True.intro
    | (intro; conv => whnf)
  all_goals first
    | exact leafI hK (by rw [hj, hen (by omega)])
    | exact leafI hK (by rw [hj, hst (by omega) (by omega)]; simp only [Int.toNat_natCast, elDef, nd_eta]; grind)
    | (have e : cmpK a b i = cmpK a b (i + 1) := by rw [hst (by omega) (by omega)]; grind
       exact ⟨i + 1, [], [], ⟨by omega, by omega, hj.trans e⟩, by omega, by (conv => whnf); (repeat' (first | exact trivial | rfl | (refine nilEq ?_; first | rfl | (simp only [*]; done) | (simp [*]; done) | grind) | apply And.intro | ((first | refine intEq ?_ | refine boolEq ?_ | refine strEq ?_ | refine psEq ?_ | refine nilEq ?_ | refine arrEq ?_); (try simp only [Int.toNat_natCast, nd_eta, sh_eta, it_eta, sto_eta, op_eta, ch_eta, nw_eta, fl_eta, rq_eta, rs_eta, elDef]); first | done | omega | grind | (simp only [*]; done) | (simp [*]; done)))); (all_goals (conv => whnf)); (repeat' (first | exact trivial | rfl | (refine nilEq ?_; first | rfl | (simp only [*]; done) | (simp [*]; done) | grind) | apply And.intro | ((first | refine intEq ?_ | refine boolEq ?_ | refine strEq ?_ | refine psEq ?_ | refine nilEq ?_ | refine arrEq ?_); (try simp only [Int.toNat_natCast, nd_eta, sh_eta, it_eta, sto_eta, op_eta, ch_eta, nw_eta, fl_eta, rq_eta, rs_eta, elDef]); first | done | omega | grind | (simp only [*]; done) | (simp [*]; done)) | ((try simp only [Int.toNat_natCast, nd_eta, sh_eta, it_eta, sto_eta, op_eta, ch_eta, nw_eta, fl_eta, rq_eta, rs_eta, elDef]); first | done | omega | grind | (simp only [*]; done) | (simp [*]; done)))), (by exact sgOk_of (by rfl))⟩)
theorem r46 : ∀ k, (CtrOK Tryz.prog 46 (.pure (Fk46 k)) ∧ Callable Tryz.prog 46) := by
  intro k
  induction k with
  | zero =>
    exact ⟨⟨fun args o v h => by unfold Fk46 at h; split at h <;> cases h; first | trivial | (simp [v46, Scalar, Scalar2, Scalar1, stC, ndC, itC, chC, nwC]), fun args K h => by
        unfold pureC Fk46 at h; split at h
        · rename_i h1; split at h1 <;> cases h1; exact absurd (h.1 _ rfl).1 (Nat.not_lt_zero _)
        · exact h.elim⟩, callable Tryz.func46 rfl (by rfl)⟩
  | succ k ih =>
    refine pure_ok (E := E46 k) (mkE_cons ih (mkE_cons s66 (mkE_cons s67 (mkE_nil tab_ok)))) mix (O := O46) (F := (Fk46 (k + 1))) Tryz.func46 rfl (by rfl) (by kernel_rfl) (fun args o v h => ?_) (fun args o v h => ?_) (fun args o v h hbd hp K hK => ?_)
    · unfold Fk46 at h; split at h <;> cases h; first | trivial | (simp [v46, Scalar, Scalar2, Scalar1, stC, ndC, itC, chC, nwC])
    · unfold Fk46 at h; split at h <;> cases h; exact Nat.le_of_ble_eq_true rfl
    · unfold Fk46 at h; split at h
      case h_2 => cases h
      cases h
      exact a46 k ⟨_, _, _, _, _⟩ ⟨_, _, _, _, _⟩ (hp _ rfl).1 (by exact hbd) (hp _ rfl).2 K hK
theorem s46 : (CtrOK Tryz.prog 46 (.pure F46) ∧ Callable Tryz.prog 46) := by
  refine ⟨⟨fun args o v h => ?_, fun args K h => ?_⟩, (r46 0).2⟩
  · unfold F46 at h; split at h <;> cases h; first | trivial | (simp [v46, Scalar, Scalar2, Scalar1, stC, ndC, itC, chC, nwC])
  · unfold pureC F46 at h; split at h
    · rename_i h1; split at h1 <;> cases h1
      exact (r46 (m46 ⟨_, _, _, _, _⟩ ⟨_, _, _, _, _⟩ + 1)).1.2 _ K ⟨fun p hp => by cases hp; exact ⟨Nat.lt_succ_self _, (h.1 _ rfl)⟩, h.2⟩
    · exact h.elim
noncomputable def v53 (a : Nd) (b : Nd) : AV := .int .i64 (cmpN a b)
noncomputable def o53 (a : Nd) (b : Nd) : Prop := okN a ∧ okN b
noncomputable def m53 (a : Nd) (b : Nd) : Nat := SizeOf.sizeOf a
noncomputable def F53 : List AV → QR
  | [.st [.int .i64 a_0, .int .i64 a_1, .str a_2, .ps .str a_3, .ps .node a_4], .st [.int .i64 b_0, .int .i64 b_1, .str b_2, .ps .str b_3, .ps .node b_4]] => some (some (o53 ⟨a_0, a_1, a_2, a_3, a_4⟩ ⟨b_0, b_1, b_2, b_3, b_4⟩), v53 ⟨a_0, a_1, a_2, a_3, a_4⟩ ⟨b_0, b_1, b_2, b_3, b_4⟩)
  | _ => none
noncomputable def Fk53 (k : Nat) : List AV → QR
  | [.st [.int .i64 a_0, .int .i64 a_1, .str a_2, .ps .str a_3, .ps .node a_4], .st [.int .i64 b_0, .int .i64 b_1, .str b_2, .ps .str b_3, .ps .node b_4]] => some (some (m53 ⟨a_0, a_1, a_2, a_3, a_4⟩ ⟨b_0, b_1, b_2, b_3, b_4⟩ < k ∧ o53 ⟨a_0, a_1, a_2, a_3, a_4⟩ ⟨b_0, b_1, b_2, b_3, b_4⟩), v53 ⟨a_0, a_1, a_2, a_3, a_4⟩ ⟨b_0, b_1, b_2, b_3, b_4⟩)
  | _ => none
noncomputable def E53 (k : Nat) : Ctx := mkE tab [(53, .pure (Fk53 k)), (72, .pure F72), (73, .pure F73)]
noncomputable def O53 : Nat → List DI := ordL [(10, [.q 0, .q 1, .q 2, .q 3, .q 4, .q 5, .q 6, .q 7, .q 8, .q 9, .q 10, .q 11, .q 12, .q 13, .q 14, .q 15]), (11, [.q 0, .q 1, .q 2, .q 3, .q 4, .q 5, .q 6, .q 7, .q 8, .q 9, .q 10, .q 11]), (12, [.q 0, .q 1, .q 2, .q 3, .q 4, .q 5, .q 6, .q 7, .q 8, .q 9, .q 10, .q 11])]
theorem a53 (k : Nat) (a : Nd) (b : Nd) (hm : m53 a b < k + 1) (hb : BdAs [.st (ndC a), .st (ndC b)]) (ho : o53 a b) (K : AV → List AV → Prop) (hK : K (v53 a b) []) : abody (E53 k) O53 .ps Tryz.f53 (Tryz.f53.body.getD .skip) [.st (ndC a), .st (ndC b)] K := by
  simp only [BdAs, BdA, BdL, BdC, MX, ndC, shC, itC, stC, opC, chC, nwC, flC, rqC, rsC, enc, List.cons_append, List.nil_append, and_true, true_and] at hb
  unfold o53 at ho
  unfold v53 at hK
  unfold m53 at hm
  rw [cmpN_eq] at hK
  obtain ⟨ha, hb2⟩ := ho
  have hna := (okN_names ha).2.1
  have hnb := (okN_names hb2).2.1
  have hkid : ∀ j, j < a.kids.length → j < b.kids.length → SizeOf.sizeOf (a.kids.getD j default) < k ∧ okN (a.kids.getD j default) ∧ okN (b.kids.getD j default) := fun j hj hj2 => ⟨by have := kid_size hj; omega, okN_kid ha hj, okN_kid hb2 hj2⟩
  conv => whnf
  repeat' first
    | (refine Cnd.mk (fun h => ?_) (fun h => ?_) <;> (try simp [nd_eta, sh_eta, it_eta, sto_eta, op_eta, ch_eta, nw_eta, fl_eta, rq_eta, rs_eta, elDef, -List.getD_eq_getElem?_getD] at h) <;> conv => whnf)
    | (refine Obl.mk (by first | omega | rfl | exact inK_byte _ | (simp only [inK, Int.toNat_natCast, nd_eta, sh_eta, it_eta, sto_eta, op_eta, ch_eta, nw_eta, fl_eta, rq_eta, rs_eta, elDef, m53, o53, m53] <;> first | omega | grind) | grind [inK, m53, o53, m53]) ?_ <;> conv => whnf)
    | (refine OblG.mk (by conv => whnf
                          repeat (first | (refine Bx.mk ?_) | (intro h; (try simp [nd_eta, sh_eta, it_eta, sto_eta, op_eta, ch_eta, nw_eta, fl_eta, rq_eta, rs_eta, elDef, -List.getD_eq_getElem?_getD] at h); conv => whnf))
                          first | omega | rfl | exact inK_byte _ | (simp only [inK, Int.toNat_natCast, nd_eta, sh_eta, it_eta, sto_eta, op_eta, ch_eta, nw_eta, fl_eta, rq_eta, rs_eta, elDef, m53, o53, m53] <;> first | omega | grind) | grind [inK, m53, o53, m53]) ?_ <;> conv => whnf)
    | (refine Gd.mk (fun h => ?_) <;> (try simp [nd_eta, sh_eta, it_eta, sto_eta, op_eta, ch_eta, nw_eta, fl_eta, rq_eta, rs_eta, elDef, -List.getD_eq_getElem?_getD] at h) <;> conv => whnf)
    | (refine And.intro ?_ ?_ <;> conv => whnf)
    | exact True.intro
    | (intro; conv => whnf)
  · exact leafI hK (by rw [if_neg (fun e => h (e))])
  · exact leafI hK (by rw [if_pos (by assumption), if_neg (fun e => h (e))])
  · exact leafI hK (by rw [if_pos (by assumption), if_pos (by assumption), if_neg (fun e => h (e))])
  have e1 : a.kind = b.kind := by assumption
  have e2 : a.num = b.num := by assumption
  have e3 : a.text = b.text := by assumption
  rw [if_pos e1, if_pos e2, if_pos e3, ← cmpK_zero] at hK
  refine aloop_intro Nat (fun i => i ≤ a.kids.length ∧ i ≤ b.kids.length ∧ cmpK a b 0 = cmpK a b i) (fun i => a.kids.length - i) (fun i => [(5, .int .i64 i)]) (fun _ => []) [2, 3] 0 [] [] ⟨by omega, by omega, rfl⟩ ?_ (by exact sgOk_of (by rfl)) ?_
  · (conv => whnf); (repeat' (first | exact trivial | rfl | (refine nilEq ?_; first | rfl | (simp only [*]; done) | (simp [*]; done) | grind) | apply And.intro | ((first | refine intEq ?_ | refine boolEq ?_ | refine strEq ?_ | refine psEq ?_ | refine nilEq ?_ | refine arrEq ?_); (try simp only [Int.toNat_natCast, nd_eta, sh_eta, it_eta, sto_eta, op_eta, ch_eta, nw_eta, fl_eta, rq_eta, rs_eta, elDef]); first | done | omega | grind | (simp only [*]; done) | (simp [*]; done)))); (all_goals (conv => whnf)); (repeat' (first | exact trivial | rfl | (refine nilEq ?_; first | rfl | (simp only [*]; done) | (simp [*]; done) | grind) | apply And.intro | ((first | refine intEq ?_ | refine boolEq ?_ | refine strEq ?_ | refine psEq ?_ | refine nilEq ?_ | refine arrEq ?_); (try simp only [Int.toNat_natCast, nd_eta, sh_eta, it_eta, sto_eta, op_eta, ch_eta, nw_eta, fl_eta, rq_eta, rs_eta, elDef]); first | done | omega | grind | (simp only [*]; done) | (simp [*]; done)) | ((try simp only [Int.toNat_natCast, nd_eta, sh_eta, it_eta, sto_eta, op_eta, ch_eta, nw_eta, fl_eta, rq_eta, rs_eta, elDef]); first | done | omega | grind | (simp only [*]; done) | (simp [*]; done))))
  rintro i ⟨hi1, hi2, hj⟩
  have hst := fun h1 h2 => cmpK_step (a := a) (b := b) (i := i) h1 h2
  have hen := fun h => cmpK_end (a := a) (b := b) (i := i) hi1 hi2 h
  have hz := @cmpI_zero
  conv => whnf
  repeat' first
    | (refine Cnd.mk (fun h => ?_) (fun h => ?_) <;> (try simp [nd_eta, sh_eta, it_eta, sto_eta, op_eta, ch_eta, nw_eta, fl_eta, rq_eta, rs_eta, elDef, -List.getD_eq_getElem?_getD] at h) <;> conv => whnf)
    | (refine Obl.mk (by first | omega | rfl | exact inK_byte _ | (simp only [inK, Int.toNat_natCast, nd_eta, sh_eta, it_eta, sto_eta, op_eta, ch_eta, nw_eta, fl_eta, rq_eta, rs_eta, elDef, m53, o53, m53] <;> first | omega | grind) | grind [inK, m53, o53, m53]) ?_ <;> conv => whnf)
    | (refine OblG.mk (by conv => whnf
                          repeat (first | (refine Bx.mk ?_) | (intro h; (try simp [nd_eta, sh_eta, it_eta, sto_eta, op_eta, ch_eta, nw_eta, fl_eta, rq_eta, rs_eta, elDef, -List.getD_eq_getElem?_getD] at h); conv => whnf))
                          first | omega | rfl | exact inK_byte _ | (simp only [inK, Int.toNat_natCast, nd_eta, sh_eta, it_eta, sto_eta, op_eta, ch_eta, nw_eta, fl_eta, rq_eta, rs_eta, elDef, m53, o53, m53] <;> first | omega | grind) | grind [inK, m53, o53, m53]) ?_ <;> conv => whnf)
    | (refine Gd.mk (fun h => ?_) <;> (try simp [nd_eta, sh_eta, it_eta, sto_eta, op_eta, ch_eta, nw_eta, fl_eta, rq_eta, rs_eta, elDef, -List.getD_eq_getElem?_getD] at h) <;> conv => whnf)
    | (refine And.intro ?_ ?_ <;> conv => whnf)
    | exact True.intro
    | (intro; conv => whnf)
  all_goals first
    | exact leafI hK (by rw [hj, hen (by omega)])
    | exact leafI hK (by rw [hj, hst (by omega) (by omega)]; simp only [Int.toNat_natCast, elDef, nd_eta]; grind)
    | (have e : cmpK a b i = cmpK a b (i + 1) := by rw [hst (by omega) (by omega)]; grind
       exact ⟨i + 1, [], [], ⟨by omega, by omega, hj.trans e⟩, by omega, by (conv => whnf); (repeat' (first | exact trivial | rfl | (refine nilEq ?_; first | rfl | (simp only [*]; done) | (simp [*]; done) | grind) | apply And.intro | ((first | refine intEq ?_ | refine boolEq ?_ | refine strEq ?_ | refine psEq ?_ | refine nilEq ?_ | refine arrEq ?_); (try simp only [Int.toNat_natCast, nd_eta, sh_eta, it_eta, sto_eta, op_eta, ch_eta, nw_eta, fl_eta, rq_eta, rs_eta, elDef]); first | done | omega | grind | (simp only [*]; done) | (simp [*]; done)))); (all_goals (conv => whnf)); (repeat' (first | exact trivial | rfl | (refine nilEq ?_; first | rfl | (simp only [*]; done) | (simp [*]; done) | grind) | apply And.intro | ((first | refine intEq ?_ | refine boolEq ?_ | refine strEq ?_ | refine psEq ?_ | refine nilEq ?_ | refine arrEq ?_); (try simp only [Int.toNat_natCast, nd_eta, sh_eta, it_eta, sto_eta, op_eta, ch_eta, nw_eta, fl_eta, rq_eta, rs_eta, elDef]); first | done | omega | grind | (simp only [*]; done) | (simp [*]; done)) | ((try simp only [Int.toNat_natCast, nd_eta, sh_eta, it_eta, sto_eta, op_eta, ch_eta, nw_eta, fl_eta, rq_eta, rs_eta, elDef]); first | done | omega | grind | (simp only [*]; done) | (simp [*]; done)))), (by exact sgOk_of (by rfl))⟩)
theorem r53 : ∀ k, (CtrOK Tryz.prog 53 (.pure (Fk53 k)) ∧ Callable Tryz.prog 53) := by
  intro k
  induction k with
  | zero =>
    exact ⟨⟨fun args o v h => by unfold Fk53 at h; split at h <;> cases h; first | trivial | (simp [v53, Scalar, Scalar2, Scalar1, stC, ndC, itC, chC, nwC]), fun args K h => by
        unfold pureC Fk53 at h; split at h
        · rename_i h1; split at h1 <;> cases h1; exact absurd (h.1 _ rfl).1 (Nat.not_lt_zero _)
        · exact h.elim⟩, callable Tryz.func53 rfl (by rfl)⟩
  | succ k ih =>
    refine pure_ok (E := E53 k) (mkE_cons ih (mkE_cons s72 (mkE_cons s73 (mkE_nil tab_ok)))) mix (O := O53) (F := (Fk53 (k + 1))) Tryz.func53 rfl (by rfl) (by kernel_rfl) (fun args o v h => ?_) (fun args o v h => ?_) (fun args o v h hbd hp K hK => ?_)
    · unfold Fk53 at h; split at h <;> cases h; first | trivial | (simp [v53, Scalar, Scalar2, Scalar1, stC, ndC, itC, chC, nwC])
    · unfold Fk53 at h; split at h <;> cases h; exact Nat.le_of_ble_eq_true rfl
    · unfold Fk53 at h; split at h
      case h_2 => cases h
      cases h
      exact a53 k ⟨_, _, _, _, _⟩ ⟨_, _, _, _, _⟩ (hp _ rfl).1 (by exact hbd) (hp _ rfl).2 K hK
theorem s53 : (CtrOK Tryz.prog 53 (.pure F53) ∧ Callable Tryz.prog 53) := by
  refine ⟨⟨fun args o v h => ?_, fun args K h => ?_⟩, (r53 0).2⟩
  · unfold F53 at h; split at h <;> cases h; first | trivial | (simp [v53, Scalar, Scalar2, Scalar1, stC, ndC, itC, chC, nwC])
  · unfold pureC F53 at h; split at h
    · rename_i h1; split at h1 <;> cases h1
      exact (r53 (m53 ⟨_, _, _, _, _⟩ ⟨_, _, _, _, _⟩ + 1)).1.2 _ K ⟨fun p hp => by cases hp; exact ⟨Nat.lt_succ_self _, (h.1 _ rfl)⟩, h.2⟩
    · exact h.elim
end Go.Rs

