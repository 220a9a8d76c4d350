import Derived.Test.YtjdjkggdgddhdaaDoorCN
import Derived.Test.YtjdjkggdgddhdaaDoorMC
set_option linter.all false
namespace Go.Rs
open Go.Proofs
set_option maxRecDepth 100000
set_option linter.unusedVariables false
set_option linter.unusedSimpArgs false
noncomputable def v84 (a : Int) : AV := .bool false
noncomputable def o84 (a : Int) : Prop := True
noncomputable def F84 : List AV → QR
  | [.int .i64 a] => some (none, v84 a)
  | _ => none
noncomputable def E84 : Ctx := mkE tab []
noncomputable def O84 : Nat → List DI := ordL []
theorem a84 (a : Int) (hb : BdAs [.int .i64 a]) (ho : o84 a) (K : AV → List AV → Prop) (hK : K (v84 a) []) : abody E84 O84 .ps Tryd.f84 (Tryd.f84.body.getD .skip) [.int .i64 a] K := by
  simp only [BdAs, BdA, BdL, BdC, MX, ndC, shC, itC, stC, opC, chC, nwC, flC, rqC, rsC, enc, List.cons_append, List.nil_append, and_true, true_and] at hb
  unfold v84 at hK
  conv => whnf
  repeat' first
    | (refine Cnd.mk (fun h => ?_) (fun h => ?_) <;> (try simp [nd_eta, sh_eta, it_eta, sto_eta, op_eta, ch_eta, nw_eta, fl_eta, rq_eta, rs_eta, elDef, -List.getD_eq_getElem?_getD] at h) <;> conv => whnf)
    | (refine Obl.mk (by first | omega | rfl | exact inK_byte _ | (simp only [inK, Int.toNat_natCast, nd_eta, sh_eta, it_eta, sto_eta, op_eta, ch_eta, nw_eta, fl_eta, rq_eta, rs_eta, elDef] <;> first | omega | grind) | grind [inK]) ?_ <;> conv => whnf)
    | (refine OblG.mk (by conv => whnf
                          repeat (first | (refine Bx.mk ?_) | (intro h; (try simp [nd_eta, sh_eta, it_eta, sto_eta, op_eta, ch_eta, nw_eta, fl_eta, rq_eta, rs_eta, elDef, -List.getD_eq_getElem?_getD] at h); conv => whnf))
                          first | omega | rfl | exact inK_byte _ | (simp only [inK, Int.toNat_natCast, nd_eta, sh_eta, it_eta, sto_eta, op_eta, ch_eta, nw_eta, fl_eta, rq_eta, rs_eta, elDef] <;> first | omega | grind) | grind [inK]) ?_ <;> conv => whnf)
    | (refine Gd.mk (fun h => ?_) <;> (try simp [nd_eta, sh_eta, it_eta, sto_eta, op_eta, ch_eta, nw_eta, fl_eta, rq_eta, rs_eta, elDef, -List.getD_eq_getElem?_getD] at h) <;> conv => whnf)
    | (refine And.intro ?_ ?_ <;> conv => whnf)
    | exact True.intro
    | (intro; conv => whnf)
  all_goals exact leafB hK (by simp)
theorem s84 : (CtrOK Tryd.prog 84 (.pure F84) ∧ Callable Tryd.prog 84) := by
  refine pure_ok (E := E84) (mkE_nil tab_ok) mix (O := O84) (F := F84) Tryd.func84 rfl (by rfl) (by kernel_rfl) (fun args o v h => ?_) (fun args o v h => ?_) (fun args o v h hbd hp K hK => ?_)
  · unfold F84 at h; split at h <;> cases h; first | trivial | (simp [v84, Scalar, Scalar2, Scalar1, stC, ndC, itC, chC, nwC])
  · unfold F84 at h; split at h <;> cases h; exact Nat.le_of_ble_eq_true rfl
  · unfold F84 at h; split at h
    case h_2 => cases h
    cases h
    exact a84 _ (by exact hbd) trivial K hK
noncomputable def v90 (a : Bs) : AV := .bool false
noncomputable def o90 (a : Bs) : Prop := True
noncomputable def F90 : List AV → QR
  | [.str a] => some (none, v90 a)
  | _ => none
noncomputable def E90 : Ctx := mkE tab []
noncomputable def O90 : Nat → List DI := ordL []
theorem a90 (a : Bs) (hb : BdAs [.str a]) (ho : o90 a) (K : AV → List AV → Prop) (hK : K (v90 a) []) : abody E90 O90 .ps Tryd.f90 (Tryd.f90.body.getD .skip) [.str a] K := by
  simp only [BdAs, BdA, BdL, BdC, MX, ndC, shC, itC, stC, opC, chC, nwC, flC, rqC, rsC, enc, List.cons_append, List.nil_append, and_true, true_and] at hb
  unfold v90 at hK
  conv => whnf
  repeat' first
    | (refine Cnd.mk (fun h => ?_) (fun h => ?_) <;> (try simp [nd_eta, sh_eta, it_eta, sto_eta, op_eta, ch_eta, nw_eta, fl_eta, rq_eta, rs_eta, elDef, -List.getD_eq_getElem?_getD] at h) <;> conv => whnf)
    | (refine Obl.mk (by first | omega | rfl | exact inK_byte _ | (simp only [inK, Int.toNat_natCast, nd_eta, sh_eta, it_eta, sto_eta, op_eta, ch_eta, nw_eta, fl_eta, rq_eta, rs_eta, elDef] <;> first | omega | grind) | grind [inK]) ?_ <;> conv => whnf)
    | (refine OblG.mk (by conv => whnf
                          repeat (first | (refine Bx.mk ?_) | (intro h; (try simp [nd_eta, sh_eta, it_eta, sto_eta, op_eta, ch_eta, nw_eta, fl_eta, rq_eta, rs_eta, elDef, -List.getD_eq_getElem?_getD] at h); conv => whnf))
                          first | omega | rfl | exact inK_byte _ | (simp only [inK, Int.toNat_natCast, nd_eta, sh_eta, it_eta, sto_eta, op_eta, ch_eta, nw_eta, fl_eta, rq_eta, rs_eta, elDef] <;> first | omega | grind) | grind [inK]) ?_ <;> conv => whnf)
    | (refine Gd.mk (fun h => ?_) <;> (try simp [nd_eta, sh_eta, it_eta, sto_eta, op_eta, ch_eta, nw_eta, fl_eta, rq_eta, rs_eta, elDef, -List.getD_eq_getElem?_getD] at h) <;> conv => whnf)
    | (refine And.intro ?_ ?_ <;> conv => whnf)
    | exact True.intro
    | (intro; conv => whnf)
  all_goals exact leafB hK (by simp)
theorem s90 : (CtrOK Tryd.prog 90 (.pure F90) ∧ Callable Tryd.prog 90) := by
  refine pure_ok (E := E90) (mkE_nil tab_ok) mix (O := O90) (F := F90) Tryd.func90 rfl (by rfl) (by kernel_rfl) (fun args o v h => ?_) (fun args o v h => ?_) (fun args o v h hbd hp K hK => ?_)
  · unfold F90 at h; split at h <;> cases h; first | trivial | (simp [v90, Scalar, Scalar2, Scalar1, stC, ndC, itC, chC, nwC])
  · unfold F90 at h; split at h <;> cases h; exact Nat.le_of_ble_eq_true rfl
  · unfold F90 at h; split at h
    case h_2 => cases h
    cases h
    exact a90 _ (by exact hbd) trivial K hK
noncomputable def v87 (a : Bs) : AV := .bool false
noncomputable def o87 (a : Bs) : Prop := True
noncomputable def F87 : List AV → QR
  | [.str a] => some (none, v87 a)
  | _ => none
noncomputable def E87 : Ctx := mkE tab []
noncomputable def O87 : Nat → List DI := ordL []
theorem a87 (a : Bs) (hb : BdAs [.str a]) (ho : o87 a) (K : AV → List AV → Prop) (hK : K (v87 a) []) : abody E87 O87 .ps Tryd.f87 (Tryd.f87.body.getD .skip) [.str a] K := by
  simp only [BdAs, BdA, BdL, BdC, MX, ndC, shC, itC, stC, opC, chC, nwC, flC, rqC, rsC, enc, List.cons_append, List.nil_append, and_true, true_and] at hb
  unfold v87 at hK
  conv => whnf
  repeat' first
    | (refine Cnd.mk (fun h => ?_) (fun h => ?_) <;> (try simp [nd_eta, sh_eta, it_eta, sto_eta, op_eta, ch_eta, nw_eta, fl_eta, rq_eta, rs_eta, elDef, -List.getD_eq_getElem?_getD] at h) <;> conv => whnf)
    | (refine Obl.mk (by first | omega | rfl | exact inK_byte _ | (simp only [inK, Int.toNat_natCast, nd_eta, sh_eta, it_eta, sto_eta, op_eta, ch_eta, nw_eta, fl_eta, rq_eta, rs_eta, elDef] <;> first | omega | grind) | grind [inK]) ?_ <;> conv => whnf)
    | (refine OblG.mk (by conv => whnf
                          repeat (first | (refine Bx.mk ?_) | (intro h; (try simp [nd_eta, sh_eta, it_eta, sto_eta, op_eta, ch_eta, nw_eta, fl_eta, rq_eta, rs_eta, elDef, -List.getD_eq_getElem?_getD] at h); conv => whnf))
                          first | omega | rfl | exact inK_byte _ | (simp only [inK, Int.toNat_natCast, nd_eta, sh_eta, it_eta, sto_eta, op_eta, ch_eta, nw_eta, fl_eta, rq_eta, rs_eta, elDef] <;> first | omega | grind) | grind [inK]) ?_ <;> conv => whnf)
    | (refine Gd.mk (fun h => ?_) <;> (try simp [nd_eta, sh_eta, it_eta, sto_eta, op_eta, ch_eta, nw_eta, fl_eta, rq_eta, rs_eta, elDef, -List.getD_eq_getElem?_getD] at h) <;> conv => whnf)
    | (refine And.intro ?_ ?_ <;> conv => whnf)
    | exact True.intro
    | (intro; conv => whnf)
  all_goals exact leafB hK (by simp)
theorem s87 : (CtrOK Tryd.prog 87 (.pure F87) ∧ Callable Tryd.prog 87) := by
  refine pure_ok (E := E87) (mkE_nil tab_ok) mix (O := O87) (F := F87) Tryd.func87 rfl (by rfl) (by kernel_rfl) (fun args o v h => ?_) (fun args o v h => ?_) (fun args o v h hbd hp K hK => ?_)
  · unfold F87 at h; split at h <;> cases h; first | trivial | (simp [v87, Scalar, Scalar2, Scalar1, stC, ndC, itC, chC, nwC])
  · unfold F87 at h; split at h <;> cases h; exact Nat.le_of_ble_eq_true rfl
  · unfold F87 at h; split at h
    case h_2 => cases h
    cases h
    exact a87 _ (by exact hbd) trivial K hK
noncomputable def v86 (a : Bs) (b : Bs) : AV := .bool (ltS a b)
noncomputable def o86 (a : Bs) (b : Bs) : Prop := True
noncomputable def F86 : List AV → QR
  | [.str a, .str b] => some (none, v86 a b)
  | _ => none
noncomputable def E86 : Ctx := mkE tab [(90, .pure F90)]
noncomputable def O86 : Nat → List DI := ordL []
theorem a86 (a : Bs) (b : Bs) (hb : BdAs [.str a, .str b]) (ho : o86 a b) (K : AV → List AV → Prop) (hK : K (v86 a b) []) : abody E86 O86 .ps Tryd.f86 (Tryd.f86.body.getD .skip) [.str a, .str b] K := by
  simp only [BdAs, BdA, BdL, BdC, MX, ndC, shC, itC, stC, opC, chC, nwC, flC, rqC, rsC, enc, List.cons_append, List.nil_append, and_true, true_and] at hb
  unfold v86 at hK
  conv => whnf
  repeat' first
    | (refine Cnd.mk (fun h => ?_) (fun h => ?_) <;> (try simp [nd_eta, sh_eta, it_eta, sto_eta, op_eta, ch_eta, nw_eta, fl_eta, rq_eta, rs_eta, elDef, -List.getD_eq_getElem?_getD] at h) <;> conv => whnf)
    | (refine Obl.mk (by first | omega | rfl | exact inK_byte _ | (simp only [inK, Int.toNat_natCast, nd_eta, sh_eta, it_eta, sto_eta, op_eta, ch_eta, nw_eta, fl_eta, rq_eta, rs_eta, elDef] <;> first | omega | grind) | grind [inK]) ?_ <;> conv => whnf)
    | (refine OblG.mk (by conv => whnf
                          repeat (first | (refine Bx.mk ?_) | (intro h; (try simp [nd_eta, sh_eta, it_eta, sto_eta, op_eta, ch_eta, nw_eta, fl_eta, rq_eta, rs_eta, elDef, -List.getD_eq_getElem?_getD] at h); conv => whnf))
                          first | omega | rfl | exact inK_byte _ | (simp only [inK, Int.toNat_natCast, nd_eta, sh_eta, it_eta, sto_eta, op_eta, ch_eta, nw_eta, fl_eta, rq_eta, rs_eta, elDef] <;> first | omega | grind) | grind [inK]) ?_ <;> conv => whnf)
    | (refine Gd.mk (fun h => ?_) <;> (try simp [nd_eta, sh_eta, it_eta, sto_eta, op_eta, ch_eta, nw_eta, fl_eta, rq_eta, rs_eta, elDef, -List.getD_eq_getElem?_getD] at h) <;> conv => whnf)
    | (refine And.intro ?_ ?_ <;> conv => whnf)
    | exact True.intro
    | (intro; conv => whnf)
  all_goals exact leafB hK (by simp)
theorem s86 : (CtrOK Tryd.prog 86 (.pure F86) ∧ Callable Tryd.prog 86) := by
  refine pure_ok (E := E86) (mkE_cons s90 (mkE_nil tab_ok)) mix (O := O86) (F := F86) Tryd.func86 rfl (by rfl) (by kernel_rfl) (fun args o v h => ?_) (fun args o v h => ?_) (fun args o v h hbd hp K hK => ?_)
  · unfold F86 at h; split at h <;> cases h; first | trivial | (simp [v86, Scalar, Scalar2, Scalar1, stC, ndC, itC, chC, nwC])
  · unfold F86 at h; split at h <;> cases h; exact Nat.le_of_ble_eq_true rfl
  · unfold F86 at h; split at h
    case h_2 => cases h
    cases h
    exact a86 _ _ (by exact hbd) trivial K hK
noncomputable def v75 (a : Int) (b : Int) : AV := .int .i64 (ordI a b)
noncomputable def o75 (a : Int) (b : Int) : Prop := True
noncomputable def F75 : List AV → QR
  | [.int .i64 a, .int .i64 b] => some (none, v75 a b)
  | _ => none
noncomputable def E75 : Ctx := mkE tab [(84, .pure F84)]
noncomputable def O75 : Nat → List DI := ordL []
theorem a75 (a : Int) (b : Int) (hb : BdAs [.int .i64 a, .int .i64 b]) (ho : o75 a b) (K : AV → List AV → Prop) (hK : K (v75 a b) []) : abody E75 O75 .ps Tryd.f75 (Tryd.f75.body.getD .skip) [.int .i64 a, .int .i64 b] K := by
  simp only [BdAs, BdA, BdL, BdC, MX, ndC, shC, itC, stC, opC, chC, nwC, flC, rqC, rsC, enc, List.cons_append, List.nil_append, and_true, true_and] at hb
  unfold v75 at hK
  conv => whnf
  repeat' first
    | (refine Cnd.mk (fun h => ?_) (fun h => ?_) <;> (try simp [nd_eta, sh_eta, it_eta, sto_eta, op_eta, ch_eta, nw_eta, fl_eta, rq_eta, rs_eta, elDef, -List.getD_eq_getElem?_getD] at h) <;> conv => whnf)
    | (refine Obl.mk (by first | omega | rfl | exact inK_byte _ | (simp only [inK, Int.toNat_natCast, nd_eta, sh_eta, it_eta, sto_eta, op_eta, ch_eta, nw_eta, fl_eta, rq_eta, rs_eta, elDef] <;> first | omega | grind) | grind [inK]) ?_ <;> conv => whnf)
    | (refine OblG.mk (by conv => whnf
                          repeat (first | (refine Bx.mk ?_) | (intro h; (try simp [nd_eta, sh_eta, it_eta, sto_eta, op_eta, ch_eta, nw_eta, fl_eta, rq_eta, rs_eta, elDef, -List.getD_eq_getElem?_getD] at h); conv => whnf))
                          first | omega | rfl | exact inK_byte _ | (simp only [inK, Int.toNat_natCast, nd_eta, sh_eta, it_eta, sto_eta, op_eta, ch_eta, nw_eta, fl_eta, rq_eta, rs_eta, elDef] <;> first | omega | grind) | grind [inK]) ?_ <;> conv => whnf)
    | (refine Gd.mk (fun h => ?_) <;> (try simp [nd_eta, sh_eta, it_eta, sto_eta, op_eta, ch_eta, nw_eta, fl_eta, rq_eta, rs_eta, elDef, -List.getD_eq_getElem?_getD] at h) <;> conv => whnf)
    | (refine And.intro ?_ ?_ <;> conv => whnf)
    | exact True.intro
    | (intro; conv => whnf)
  all_goals exact leafI hK (by unfold ordI; split <;> (try split) <;> omega)
theorem s75 : (CtrOK Tryd.prog 75 (.pure F75) ∧ Callable Tryd.prog 75) := by
  refine pure_ok (E := E75) (mkE_cons s84 (mkE_nil tab_ok)) mix (O := O75) (F := F75) Tryd.func75 rfl (by rfl) (by kernel_rfl) (fun args o v h => ?_) (fun args o v h => ?_) (fun args o v h hbd hp K hK => ?_)
  · unfold F75 at h; split at h <;> cases h; first | trivial | (simp [v75, Scalar, Scalar2, Scalar1, stC, ndC, itC, chC, nwC])
  · unfold F75 at h; split at h <;> cases h; exact Nat.le_of_ble_eq_true rfl
  · unfold F75 at h; split at h
    case h_2 => cases h
    cases h
    exact a75 _ _ (by exact hbd) trivial K hK
noncomputable def v82 (l : List Bs) (b : Bs) : AV := .tup [.int .i64 (lbI (nmI l) b), .bool (foundI (nmI l) b)]
noncomputable def o82 (l : List Bs) (b : Bs) : Prop := sortedI (nmI l)
noncomputable def F82 : List AV → QR
  | [.ps .str l, .str b] => some (some (o82 l b), v82 l b)
  | _ => none
noncomputable def E82 : Ctx := mkE tab [(86, .pure F86), (87, .pure F87)]
noncomputable def O82 : Nat → List DI := ordL []
theorem a82 (l : List Bs) (b : Bs) (hb : BdAs [.ps .str l, .str b]) (ho : o82 l b) (K : AV → List AV → Prop) (hK : K (v82 l b) []) : abody E82 O82 .ps Tryd.f82 (Tryd.f82.body.getD .skip) [.ps .str l, .str b] K := by
  simp only [BdAs, BdA, BdL, BdC, MX, ndC, shC, itC, stC, opC, chC, nwC, flC, rqC, rsC, enc, List.cons_append, List.nil_append, and_true, true_and] at hb
  unfold o82 at ho
  unfold v82 at hK
  have hle := lbI_le (nmI l) b
  rw [nmI_len] at hle
  conv => whnf
  repeat' first
    | (refine Cnd.mk (fun h => ?_) (fun h => ?_) <;> (try simp [nd_eta, sh_eta, it_eta, sto_eta, op_eta, ch_eta, nw_eta, fl_eta, rq_eta, rs_eta, elDef, -List.getD_eq_getElem?_getD] at h) <;> conv => whnf)
    | (refine Obl.mk (by first | omega | rfl | exact inK_byte _ | (simp only [inK, Int.toNat_natCast, nd_eta, sh_eta, it_eta, sto_eta, op_eta, ch_eta, nw_eta, fl_eta, rq_eta, rs_eta, elDef] <;> first | omega | grind) | grind [inK]) ?_ <;> conv => whnf)
    | (refine OblG.mk (by conv => whnf
                          repeat (first | (refine Bx.mk ?_) | (intro h; (try simp [nd_eta, sh_eta, it_eta, sto_eta, op_eta, ch_eta, nw_eta, fl_eta, rq_eta, rs_eta, elDef, -List.getD_eq_getElem?_getD] at h); conv => whnf))
                          first | omega | rfl | exact inK_byte _ | (simp only [inK, Int.toNat_natCast, nd_eta, sh_eta, it_eta, sto_eta, op_eta, ch_eta, nw_eta, fl_eta, rq_eta, rs_eta, elDef] <;> first | omega | grind) | grind [inK]) ?_ <;> conv => whnf)
    | (refine Gd.mk (fun h => ?_) <;> (try simp [nd_eta, sh_eta, it_eta, sto_eta, op_eta, ch_eta, nw_eta, fl_eta, rq_eta, rs_eta, elDef, -List.getD_eq_getElem?_getD] at h) <;> conv => whnf)
    | (refine And.intro ?_ ?_ <;> conv => whnf)
    | exact True.intro
    | (intro; conv => whnf)
  refine aloop_intro (Nat × Nat) (fun p => p.1 ≤ lbI (nmI l) b ∧ lbI (nmI l) b ≤ p.2 ∧ p.2 ≤ l.length) (fun p => p.2 - p.1) (fun p => [(7, .int .i64 p.1), (8, .int .i64 p.2)]) (fun _ => []) [] (0, l.length) [] [] ?_ ?_ (by exact sgOk_of (by rfl)) ?_
  · simp; exact hle
  · (conv => whnf); (repeat' (first | exact trivial | rfl | (refine nilEq ?_; first | rfl | (simp only [*]; done) | (simp [*]; done) | grind) | apply And.intro | ((first | refine intEq ?_ | refine boolEq ?_ | refine strEq ?_ | refine psEq ?_ | refine nilEq ?_ | refine arrEq ?_); (try simp only [Int.toNat_natCast, nd_eta, sh_eta, it_eta, sto_eta, op_eta, ch_eta, nw_eta, fl_eta, rq_eta, rs_eta, elDef]); first | done | omega | grind | (simp only [*]; done) | (simp [*]; done)))); (all_goals (conv => whnf)); (repeat' (first | exact trivial | rfl | (refine nilEq ?_; first | rfl | (simp only [*]; done) | (simp [*]; done) | grind) | apply And.intro | ((first | refine intEq ?_ | refine boolEq ?_ | refine strEq ?_ | refine psEq ?_ | refine nilEq ?_ | refine arrEq ?_); (try simp only [Int.toNat_natCast, nd_eta, sh_eta, it_eta, sto_eta, op_eta, ch_eta, nw_eta, fl_eta, rq_eta, rs_eta, elDef]); first | done | omega | grind | (simp only [*]; done) | (simp [*]; done)) | ((try simp only [Int.toNat_natCast, nd_eta, sh_eta, it_eta, sto_eta, op_eta, ch_eta, nw_eta, fl_eta, rq_eta, rs_eta, elDef]); first | done | omega | grind | (simp only [*]; done) | (simp [*]; done))))
  rintro ⟨i, j⟩ ⟨h1, h2, h3⟩
  dsimp only at h1 h2 h3
  conv => whnf
  repeat' first
    | (refine Cnd.mk (fun h => ?_) (fun h => ?_) <;> (try simp [nd_eta, sh_eta, it_eta, sto_eta, op_eta, ch_eta, nw_eta, fl_eta, rq_eta, rs_eta, elDef, -List.getD_eq_getElem?_getD] at h) <;> conv => whnf)
    | (refine Obl.mk (by first | omega | rfl | exact inK_byte _ | (simp only [inK, Int.toNat_natCast, nd_eta, sh_eta, it_eta, sto_eta, op_eta, ch_eta, nw_eta, fl_eta, rq_eta, rs_eta, elDef] <;> first | omega | grind) | grind [inK]) ?_ <;> conv => whnf)
    | (refine OblG.mk (by conv => whnf
                          repeat (first | (refine Bx.mk ?_) | (intro h; (try simp [nd_eta, sh_eta, it_eta, sto_eta, op_eta, ch_eta, nw_eta, fl_eta, rq_eta, rs_eta, elDef, -List.getD_eq_getElem?_getD] at h); conv => whnf))
                          first | omega | rfl | exact inK_byte _ | (simp only [inK, Int.toNat_natCast, nd_eta, sh_eta, it_eta, sto_eta, op_eta, ch_eta, nw_eta, fl_eta, rq_eta, rs_eta, elDef] <;> first | omega | grind) | grind [inK]) ?_ <;> conv => whnf)
    | (refine Gd.mk (fun h => ?_) <;> (try simp [nd_eta, sh_eta, it_eta, sto_eta, op_eta, ch_eta, nw_eta, fl_eta, rq_eta, rs_eta, elDef, -List.getD_eq_getElem?_getD] at h) <;> conv => whnf)
    | (refine And.intro ?_ ?_ <;> conv => whnf)
    | exact True.intro
    | (intro; conv => whnf)
  · have e : ((i + j : Int) / 2).toNat = (i + j) / 2 := by omega
    have hh := lbI_gt (b := b) (h := (i + j) / 2) ho (by rw [nmI_len]; omega) (by rw [nmI_get]; rw [e] at h; exact h)
    exact ⟨((i + j) / 2 + 1, j), [], [], ⟨by simp only; omega, by simp only; omega, by simp only; omega⟩, by simp only; omega, by (conv => whnf); (repeat' (first | exact trivial | rfl | (refine nilEq ?_; first | rfl | (simp only [*]; done) | (simp [*]; done) | grind) | apply And.intro | ((first | refine intEq ?_ | refine boolEq ?_ | refine strEq ?_ | refine psEq ?_ | refine nilEq ?_ | refine arrEq ?_); (try simp only [Int.toNat_natCast, nd_eta, sh_eta, it_eta, sto_eta, op_eta, ch_eta, nw_eta, fl_eta, rq_eta, rs_eta, elDef]); (simp only; omega)))); (all_goals (conv => whnf)); (repeat' (first | exact trivial | rfl | (refine nilEq ?_; first | rfl | (simp only [*]; done) | (simp [*]; done) | grind) | apply And.intro | ((first | refine intEq ?_ | refine boolEq ?_ | refine strEq ?_ | refine psEq ?_ | refine nilEq ?_ | refine arrEq ?_); (try simp only [Int.toNat_natCast, nd_eta, sh_eta, it_eta, sto_eta, op_eta, ch_eta, nw_eta, fl_eta, rq_eta, rs_eta, elDef]); (simp only; omega)) | ((try simp only [Int.toNat_natCast, nd_eta, sh_eta, it_eta, sto_eta, op_eta, ch_eta, nw_eta, fl_eta, rq_eta, rs_eta, elDef]); (simp only; omega)))), (by exact sgOk_of (by rfl))⟩
  · have e : ((i + j : Int) / 2).toNat = (i + j) / 2 := by omega
    have hh := lbI_ge (l := nmI l) (b := b) (h := (i + j) / 2) (by rw [nmI_get]; rw [e] at h; exact h)
    exact ⟨(i, (i + j) / 2), [], [], ⟨by simp only; omega, by simp only; omega, by simp only; omega⟩, by simp only; omega, by (conv => whnf); (repeat' (first | exact trivial | rfl | (refine nilEq ?_; first | rfl | (simp only [*]; done) | (simp [*]; done) | grind) | apply And.intro | ((first | refine intEq ?_ | refine boolEq ?_ | refine strEq ?_ | refine psEq ?_ | refine nilEq ?_ | refine arrEq ?_); (try simp only [Int.toNat_natCast, nd_eta, sh_eta, it_eta, sto_eta, op_eta, ch_eta, nw_eta, fl_eta, rq_eta, rs_eta, elDef]); (simp only; omega)))); (all_goals (conv => whnf)); (repeat' (first | exact trivial | rfl | (refine nilEq ?_; first | rfl | (simp only [*]; done) | (simp [*]; done) | grind) | apply And.intro | ((first | refine intEq ?_ | refine boolEq ?_ | refine strEq ?_ | refine psEq ?_ | refine nilEq ?_ | refine arrEq ?_); (try simp only [Int.toNat_natCast, nd_eta, sh_eta, it_eta, sto_eta, op_eta, ch_eta, nw_eta, fl_eta, rq_eta, rs_eta, elDef]); (simp only; omega)) | ((try simp only [Int.toNat_natCast, nd_eta, sh_eta, it_eta, sto_eta, op_eta, ch_eta, nw_eta, fl_eta, rq_eta, rs_eta, elDef]); (simp only; omega)))), (by exact sgOk_of (by rfl))⟩
  · have e : i = lbI (nmI l) b := by omega
    subst e
    refine leafV hK ?_
    simp only [foundI, Int.toNat_natCast, elDef, nmI_len, nmI_get]
    simp
theorem s82 : (CtrOK Tryd.prog 82 (.pure F82) ∧ Callable Tryd.prog 82) := by
  refine pure_ok (E := E82) (mkE_cons s86 (mkE_cons s87 (mkE_nil tab_ok))) mix (O := O82) (F := F82) Tryd.func82 rfl (by rfl) (by kernel_rfl) (fun args o v h => ?_) (fun args o v h => ?_) (fun args o v h hbd hp K hK => ?_)
  · unfold F82 at h; split at h <;> cases h; first | trivial | (simp [v82, Scalar, Scalar2, Scalar1, stC, ndC, itC, chC, nwC])
  · unfold F82 at h; split at h <;> cases h; exact Nat.le_of_ble_eq_true rfl
  · unfold F82 at h; split at h
    case h_2 => cases h
    cases h
    exact a82 _ _ (by exact hbd) (hp _ rfl) K hK
noncomputable def v92 (n : Int) : AV := .str (decM n.toNat)
noncomputable def o92 (n : Int) : Prop := 0 ≤ n ∧ n < 10
noncomputable def F92 : List AV → QR
  | [.int .i64 n] => some (some (o92 n), v92 n)
  | _ => none
noncomputable def E92 : Ctx := mkE tab []
noncomputable def O92 : Nat → List DI := ordL []
theorem a92 (n : Int) (hb : BdAs [.int .i64 n]) (ho : o92 n) (K : AV → List AV → Prop) (hK : K (v92 n) []) : abody E92 O92 .ps Tryd.f92 (Tryd.f92.body.getD .skip) [.int .i64 n] K := by
  simp only [BdAs, BdA, BdL, BdC, MX, ndC, shC, itC, stC, opC, chC, nwC, flC, rqC, rsC, enc, List.cons_append, List.nil_append, and_true, true_and] at hb
  unfold o92 at ho
  unfold v92 at hK
  conv => whnf
  repeat' first
    | (refine Cnd.mk (fun h => ?_) (fun h => ?_) <;> (try simp [nd_eta, sh_eta, it_eta, sto_eta, op_eta, ch_eta, nw_eta, fl_eta, rq_eta, rs_eta, elDef, -List.getD_eq_getElem?_getD] at h) <;> conv => whnf)
    | (refine Obl.mk (by first | omega | rfl | exact inK_byte _ | (simp only [inK, Int.toNat_natCast, nd_eta, sh_eta, it_eta, sto_eta, op_eta, ch_eta, nw_eta, fl_eta, rq_eta, rs_eta, elDef] <;> first | omega | grind) | grind [inK]) ?_ <;> conv => whnf)
    | (refine OblG.mk (by conv => whnf
                          repeat (first | (refine Bx.mk ?_) | (intro h; (try simp [nd_eta, sh_eta, it_eta, sto_eta, op_eta, ch_eta, nw_eta, fl_eta, rq_eta, rs_eta, elDef, -List.getD_eq_getElem?_getD] at h); conv => whnf))
                          first | omega | rfl | exact inK_byte _ | (simp only [inK, Int.toNat_natCast, nd_eta, sh_eta, it_eta, sto_eta, op_eta, ch_eta, nw_eta, fl_eta, rq_eta, rs_eta, elDef] <;> first | omega | grind) | grind [inK]) ?_ <;> conv => whnf)
    | (refine Gd.mk (fun h => ?_) <;> (try simp [nd_eta, sh_eta, it_eta, sto_eta, op_eta, ch_eta, nw_eta, fl_eta, rq_eta, rs_eta, elDef, -List.getD_eq_getElem?_getD] at h) <;> conv => whnf)
    | (refine And.intro ?_ ?_ <;> conv => whnf)
    | exact True.intro
    | (intro; conv => whnf)
  · refine Obl.mk (by simp; omega) ?_
    conv => whnf
    refine leafS hK ?_
    rw [decM_lt (by omega)]
    obtain ⟨k, rfl⟩ := Int.eq_ofNat_of_zero_le ho.1
    have hk : k < 10 := by omega
    clear hK ho hb h
    rw [show ((k : Int) + 1).toNat = k + 1 by omega, Int.toNat_natCast]
    revert k
    decide
  · exfalso; omega
theorem s92 : (CtrOK Tryd.prog 92 (.pure F92) ∧ Callable Tryd.prog 92) := by
  refine pure_ok (E := E92) (mkE_nil tab_ok) mix (O := O92) (F := F92) Tryd.func92 rfl (by rfl) (by kernel_rfl) (fun args o v h => ?_) (fun args o v h => ?_) (fun args o v h hbd hp K hK => ?_)
  · unfold F92 at h; split at h <;> cases h; first | trivial | (simp [v92, Scalar, Scalar2, Scalar1, stC, ndC, itC, chC, nwC])
  · unfold F92 at h; split at h <;> cases h; exact Nat.le_of_ble_eq_true rfl
  · unfold F92 at h; split at h
    case h_2 => cases h
    cases h
    exact a92 _ (by exact hbd) (hp _ rfl) K hK
noncomputable def v91 (n : Int) : AV := .str (decM n.toNat)
noncomputable def o91 (n : Int) : Prop := 0 ≤ n ∧ n < 10
noncomputable def F91 : List AV → QR
  | [.int .i64 n, .int .i64 10] => some (some (o91 n), v91 n)
  | _ => none
noncomputable def E91 : Ctx := mkE tab [(92, .pure F92)]
noncomputable def O91 : Nat → List DI := ordL []
theorem a91 (n : Int) (hb : BdAs [.int .i64 n, .int .i64 10]) (ho : o91 n) (K : AV → List AV → Prop) (hK : K (v91 n) []) : abody E91 O91 .ps Tryd.f91 (Tryd.f91.body.getD .skip) [.int .i64 n, .int .i64 10] K := by
  simp only [BdAs, BdA, BdL, BdC, MX, ndC, shC, itC, stC, opC, chC, nwC, flC, rqC, rsC, enc, List.cons_append, List.nil_append, and_true, true_and] at hb
  unfold o91 at ho
  unfold v91 at hK
  conv => whnf
  repeat' first
    | (refine Cnd.mk (fun h => ?_) (fun h => ?_) <;> (try simp [nd_eta, sh_eta, it_eta, sto_eta, op_eta, ch_eta, nw_eta, fl_eta, rq_eta, rs_eta, elDef, -List.getD_eq_getElem?_getD] at h) <;> conv => whnf)
    | (refine Obl.mk (by first | omega | rfl | exact inK_byte _ | (simp only [inK, Int.toNat_natCast, nd_eta, sh_eta, it_eta, sto_eta, op_eta, ch_eta, nw_eta, fl_eta, rq_eta, rs_eta, elDef, o92] <;> first | omega | grind) | grind [inK, o92]) ?_ <;> conv => whnf)
    | (refine OblG.mk (by conv => whnf
                          repeat (first | (refine Bx.mk ?_) | (intro h; (try simp [nd_eta, sh_eta, it_eta, sto_eta, op_eta, ch_eta, nw_eta, fl_eta, rq_eta, rs_eta, elDef, -List.getD_eq_getElem?_getD] at h); conv => whnf))
                          first | omega | rfl | exact inK_byte _ | (simp only [inK, Int.toNat_natCast, nd_eta, sh_eta, it_eta, sto_eta, op_eta, ch_eta, nw_eta, fl_eta, rq_eta, rs_eta, elDef, o92] <;> first | omega | grind) | grind [inK, o92]) ?_ <;> conv => whnf)
    | (refine Gd.mk (fun h => ?_) <;> (try simp [nd_eta, sh_eta, it_eta, sto_eta, op_eta, ch_eta, nw_eta, fl_eta, rq_eta, rs_eta, elDef, -List.getD_eq_getElem?_getD] at h) <;> conv => whnf)
    | (refine And.intro ?_ ?_ <;> conv => whnf)
    | exact True.intro
    | (intro; conv => whnf)
  all_goals first | exact hK | (exfalso; omega)
theorem s91 : (CtrOK Tryd.prog 91 (.pure F91) ∧ Callable Tryd.prog 91) := by
  refine pure_ok (E := E91) (mkE_cons s92 (mkE_nil tab_ok)) mix (O := O91) (F := F91) Tryd.func91 rfl (by rfl) (by kernel_rfl) (fun args o v h => ?_) (fun args o v h => ?_) (fun args o v h hbd hp K hK => ?_)
  · unfold F91 at h; split at h <;> cases h; first | trivial | (simp [v91, Scalar, Scalar2, Scalar1, stC, ndC, itC, chC, nwC])
  · unfold F91 at h; split at h <;> cases h; exact Nat.le_of_ble_eq_true rfl
  · unfold F91 at h; split at h
    case h_2 => cases h
    cases h
    exact a91 _ (by exact hbd) (hp _ rfl) K hK
noncomputable def v88 (n : Int) : AV := .str (decM n.toNat)
noncomputable def o88 (n : Int) : Prop := 0 ≤ n ∧ n < 10
noncomputable def F88 : List AV → QR
  | [.int .i64 n] => some (some (o88 n), v88 n)
  | _ => none
noncomputable def E88 : Ctx := mkE tab [(91, .pure F91)]
noncomputable def O88 : Nat → List DI := ordL []
theorem a88 (n : Int) (hb : BdAs [.int .i64 n]) (ho : o88 n) (K : AV → List AV → Prop) (hK : K (v88 n) []) : abody E88 O88 .ps Tryd.f88 (Tryd.f88.body.getD .skip) [.int .i64 n] K := by
  simp only [BdAs, BdA, BdL, BdC, MX, ndC, shC, itC, stC, opC, chC, nwC, flC, rqC, rsC, enc, List.cons_append, List.nil_append, and_true, true_and] at hb
  unfold o88 at ho
  unfold v88 at hK
  conv => whnf
  repeat' first
    | (refine Cnd.mk (fun h => ?_) (fun h => ?_) <;> (try simp [nd_eta, sh_eta, it_eta, sto_eta, op_eta, ch_eta, nw_eta, fl_eta, rq_eta, rs_eta, elDef, -List.getD_eq_getElem?_getD] at h) <;> conv => whnf)
    | (refine Obl.mk (by first | omega | rfl | exact inK_byte _ | (simp only [inK, Int.toNat_natCast, nd_eta, sh_eta, it_eta, sto_eta, op_eta, ch_eta, nw_eta, fl_eta, rq_eta, rs_eta, elDef, o91] <;> first | omega | grind) | grind [inK, o91]) ?_ <;> conv => whnf)
    | (refine OblG.mk (by conv => whnf
                          repeat (first | (refine Bx.mk ?_) | (intro h; (try simp [nd_eta, sh_eta, it_eta, sto_eta, op_eta, ch_eta, nw_eta, fl_eta, rq_eta, rs_eta, elDef, -List.getD_eq_getElem?_getD] at h); conv => whnf))
                          first | omega | rfl | exact inK_byte _ | (simp only [inK, Int.toNat_natCast, nd_eta, sh_eta, it_eta, sto_eta, op_eta, ch_eta, nw_eta, fl_eta, rq_eta, rs_eta, elDef, o91] <;> first | omega | grind) | grind [inK, o91]) ?_ <;> conv => whnf)
    | (refine Gd.mk (fun h => ?_) <;> (try simp [nd_eta, sh_eta, it_eta, sto_eta, op_eta, ch_eta, nw_eta, fl_eta, rq_eta, rs_eta, elDef, -List.getD_eq_getElem?_getD] at h) <;> conv => whnf)
    | (refine And.intro ?_ ?_ <;> conv => whnf)
    | exact True.intro
    | (intro; conv => whnf)
  all_goals exact hK
theorem s88 : (CtrOK Tryd.prog 88 (.pure F88) ∧ Callable Tryd.prog 88) := by
  refine pure_ok (E := E88) (mkE_cons s91 (mkE_nil tab_ok)) mix (O := O88) (F := F88) Tryd.func88 rfl (by rfl) (by kernel_rfl) (fun args o v h => ?_) (fun args o v h => ?_) (fun args o v h hbd hp K hK => ?_)
  · unfold F88 at h; split at h <;> cases h; first | trivial | (simp [v88, Scalar, Scalar2, Scalar1, stC, ndC, itC, chC, nwC])
  · unfold F88 at h; split at h <;> cases h; exact Nat.le_of_ble_eq_true rfl
  · unfold F88 at h; split at h
    case h_2 => cases h
    cases h
    exact a88 _ (by exact hbd) (hp _ rfl) K hK
noncomputable def v83 (n : Int) : AV := .str (decM n.toNat)
noncomputable def o83 (n : Int) : Prop := 0 ≤ n ∧ n < 10
noncomputable def F83 : List AV → QR
  | [.int .i64 n] => some (some (o83 n), v83 n)
  | _ => none
noncomputable def E83 : Ctx := mkE tab [(88, .pure F88)]
noncomputable def O83 : Nat → List DI := ordL []
theorem a83 (n : Int) (hb : BdAs [.int .i64 n]) (ho : o83 n) (K : AV → List AV → Prop) (hK : K (v83 n) []) : abody E83 O83 .ps Tryd.f83 (Tryd.f83.body.getD .skip) [.int .i64 n] K := by
  simp only [BdAs, BdA, BdL, BdC, MX, ndC, shC, itC, stC, opC, chC, nwC, flC, rqC, rsC, enc, List.cons_append, List.nil_append, and_true, true_and] at hb
  unfold o83 at ho
  unfold v83 at hK
  conv => whnf
  repeat' first
    | (refine Cnd.mk (fun h => ?_) (fun h => ?_) <;> (try simp [nd_eta, sh_eta, it_eta, sto_eta, op_eta, ch_eta, nw_eta, fl_eta, rq_eta, rs_eta, elDef, -List.getD_eq_getElem?_getD] at h) <;> conv => whnf)
    | (refine Obl.mk (by first | omega | rfl | exact inK_byte _ | (simp only [inK, Int.toNat_natCast, nd_eta, sh_eta, it_eta, sto_eta, op_eta, ch_eta, nw_eta, fl_eta, rq_eta, rs_eta, elDef, o88] <;> first | omega | grind) | grind [inK, o88]) ?_ <;> conv => whnf)
    | (refine OblG.mk (by conv => whnf
                          repeat (first | (refine Bx.mk ?_) | (intro h; (try simp [nd_eta, sh_eta, it_eta, sto_eta, op_eta, ch_eta, nw_eta, fl_eta, rq_eta, rs_eta, elDef, -List.getD_eq_getElem?_getD] at h); conv => whnf))
                          first | omega | rfl | exact inK_byte _ | (simp only [inK, Int.toNat_natCast, nd_eta, sh_eta, it_eta, sto_eta, op_eta, ch_eta, nw_eta, fl_eta, rq_eta, rs_eta, elDef, o88] <;> first | omega | grind) | grind [inK, o88]) ?_ <;> conv => whnf)
    | (refine Gd.mk (fun h => ?_) <;> (try simp [nd_eta, sh_eta, it_eta, sto_eta, op_eta, ch_eta, nw_eta, fl_eta, rq_eta, rs_eta, elDef, -List.getD_eq_getElem?_getD] at h) <;> conv => whnf)
    | (refine And.intro ?_ ?_ <;> conv => whnf)
    | exact True.intro
    | (intro; conv => whnf)
  all_goals exact hK
theorem s83 : (CtrOK Tryd.prog 83 (.pure F83) ∧ Callable Tryd.prog 83) := by
  refine pure_ok (E := E83) (mkE_cons s88 (mkE_nil tab_ok)) mix (O := O83) (F := F83) Tryd.func83 rfl (by rfl) (by kernel_rfl) (fun args o v h => ?_) (fun args o v h => ?_) (fun args o v h hbd hp K hK => ?_)
  · unfold F83 at h; split at h <;> cases h; first | trivial | (simp [v83, Scalar, Scalar2, Scalar1, stC, ndC, itC, chC, nwC])
  · unfold F83 at h; split at h <;> cases h; exact Nat.le_of_ble_eq_true rfl
  · unfold F83 at h; split at h
    case h_2 => cases h
    cases h
    exact a83 _ (by exact hbd) (hp _ rfl) K hK
noncomputable def v74 (n : Nd) (b : Bs) : AV := .tup [.int .i64 (kidM n b).1, .bool (kidM n b).2]
noncomputable def o74 (n : Nd) (b : Bs) : Prop := okN n
noncomputable def F74 : List AV → QR
  | [.st [.int .i64 n_0, .int .i64 n_1, .str n_2, .ps .str n_3, .ps .node n_4], .str b] => some (some (o74 ⟨n_0, n_1, n_2, n_3, n_4⟩ b), v74 ⟨n_0, n_1, n_2, n_3, n_4⟩ b)
  | _ => none
noncomputable def E74 : Ctx := mkE tab [(82, .pure F82), (83, .pure F83)]
noncomputable def O74 : Nat → List DI := ordL []
theorem a74 (n : Nd) (b : Bs) (hb : BdAs [.st (ndC n), .str b]) (ho : o74 n b) (K : AV → List AV → Prop) (hK : K (v74 n b) []) : abody E74 O74 .ps Tryd.f74 (Tryd.f74.body.getD .skip) [.st (ndC n), .str b] K := by
  simp only [BdAs, BdA, BdL, BdC, MX, ndC, shC, itC, stC, opC, chC, nwC, flC, rqC, rsC, enc, List.cons_append, List.nil_append, and_true, true_and] at hb
  unfold o74 at ho
  unfold v74 at hK
  have h6 := okN_kids ho
  have h5 := fun h => okN_sorted ho h
  conv => whnf
  repeat' first
    | (refine Cnd.mk (fun h => ?_) (fun h => ?_) <;> (try simp [nd_eta, sh_eta, it_eta, sto_eta, op_eta, ch_eta, nw_eta, fl_eta, rq_eta, rs_eta, elDef, -List.getD_eq_getElem?_getD] at h) <;> conv => whnf)
    | (refine Obl.mk (by first | omega | rfl | exact inK_byte _ | (simp only [inK, Int.toNat_natCast, nd_eta, sh_eta, it_eta, sto_eta, op_eta, ch_eta, nw_eta, fl_eta, rq_eta, rs_eta, elDef, o82, o83] <;> first | omega | grind) | grind [inK, o82, o83]) ?_ <;> conv => whnf)
    | (refine OblG.mk (by conv => whnf
                          repeat (first | (refine Bx.mk ?_) | (intro h; (try simp [nd_eta, sh_eta, it_eta, sto_eta, op_eta, ch_eta, nw_eta, fl_eta, rq_eta, rs_eta, elDef, -List.getD_eq_getElem?_getD] at h); conv => whnf))
                          first | omega | rfl | exact inK_byte _ | (simp only [inK, Int.toNat_natCast, nd_eta, sh_eta, it_eta, sto_eta, op_eta, ch_eta, nw_eta, fl_eta, rq_eta, rs_eta, elDef, o82, o83] <;> first | omega | grind) | grind [inK, o82, o83]) ?_ <;> conv => whnf)
    | (refine Gd.mk (fun h => ?_) <;> (try simp [nd_eta, sh_eta, it_eta, sto_eta, op_eta, ch_eta, nw_eta, fl_eta, rq_eta, rs_eta, elDef, -List.getD_eq_getElem?_getD] at h) <;> conv => whnf)
    | (refine And.intro ?_ ?_ <;> conv => whnf)
    | exact True.intro
    | (intro; conv => whnf)
  · exact leafV hK (by simp only [kidM, if_pos h])
  · refine aloop_intro Nat (fun k => k ≤ n.kids.length ∧ ∀ j, j < k → decM j ≠ b) (fun k => n.kids.length - k) (fun k => [(22, .int .i64 k)]) (fun k => []) [] 0 [] [] ?_ ?_ (by exact sgOk_of (by rfl)) ?_
    · first | (simp; done) | (simp; assumption)
    · (conv => whnf); (repeat' (first | exact trivial | rfl | (refine nilEq ?_; first | rfl | (simp only [*]; done) | (simp [*]; done) | grind) | apply And.intro | ((first | refine intEq ?_ | refine boolEq ?_ | refine strEq ?_ | refine psEq ?_ | refine nilEq ?_ | refine arrEq ?_); (try simp only [Int.toNat_natCast, nd_eta, sh_eta, it_eta, sto_eta, op_eta, ch_eta, nw_eta, fl_eta, rq_eta, rs_eta, elDef]); first | done | omega | grind | (simp only [*]; done) | (simp [*]; done)))); (all_goals (conv => whnf)); (repeat' (first | exact trivial | rfl | (refine nilEq ?_; first | rfl | (simp only [*]; done) | (simp [*]; done) | grind) | apply And.intro | ((first | refine intEq ?_ | refine boolEq ?_ | refine strEq ?_ | refine psEq ?_ | refine nilEq ?_ | refine arrEq ?_); (try simp only [Int.toNat_natCast, nd_eta, sh_eta, it_eta, sto_eta, op_eta, ch_eta, nw_eta, fl_eta, rq_eta, rs_eta, elDef]); first | done | omega | grind | (simp only [*]; done) | (simp [*]; done)) | ((try simp only [Int.toNat_natCast, nd_eta, sh_eta, it_eta, sto_eta, op_eta, ch_eta, nw_eta, fl_eta, rq_eta, rs_eta, elDef]); first | done | omega | grind | (simp only [*]; done) | (simp [*]; done))))
    rintro i ⟨hi, hj⟩
    conv => whnf
    repeat' first
      | (refine Cnd.mk (fun h => ?_) (fun h => ?_) <;> (try simp [nd_eta, sh_eta, it_eta, sto_eta, op_eta, ch_eta, nw_eta, fl_eta, rq_eta, rs_eta, elDef, -List.getD_eq_getElem?_getD] at h) <;> conv => whnf)
      | (refine Obl.mk (by first | omega | rfl | exact inK_byte _ | (simp only [inK, Int.toNat_natCast, nd_eta, sh_eta, it_eta, sto_eta, op_eta, ch_eta, nw_eta, fl_eta, rq_eta, rs_eta, elDef, o82, o83] <;> first | omega | grind) | grind [inK, o82, o83]) ?_ <;> conv => whnf)
      | (refine OblG.mk (by conv => whnf
                            repeat (first | (refine Bx.mk ?_) | (intro h; (try simp [nd_eta, sh_eta, it_eta, sto_eta, op_eta, ch_eta, nw_eta, fl_eta, rq_eta, rs_eta, elDef, -List.getD_eq_getElem?_getD] at h); conv => whnf))
                            first | omega | rfl | exact inK_byte _ | (simp only [inK, Int.toNat_natCast, nd_eta, sh_eta, it_eta, sto_eta, op_eta, ch_eta, nw_eta, fl_eta, rq_eta, rs_eta, elDef, o82, o83] <;> first | omega | grind) | grind [inK, o82, o83]) ?_ <;> conv => whnf)
      | (refine Gd.mk (fun h => ?_) <;> (try simp [nd_eta, sh_eta, it_eta, sto_eta, op_eta, ch_eta, nw_eta, fl_eta, rq_eta, rs_eta, elDef, -List.getD_eq_getElem?_getD] at h) <;> conv => whnf)
      | (refine And.intro ?_ ?_ <;> conv => whnf)
      | exact True.intro
      | (intro; conv => whnf)
    · have hp : placeM n b = i := placeM_at (by omega) (hitM_iff.2 (.inr ⟨by assumption, by first | exact of_decide_eq_true h | exact h⟩)) fun j hl => hitM_no ⟨fun h4 => by omega, fun _ => hj j hl⟩
      exact leafV hK (by unfold kidM; rw [if_neg (by omega), if_neg (by omega), hp])
    · have hj' : ∀ j, j < i + 1 → decM j ≠ b := fun j hl => (Nat.lt_or_eq_of_le (Nat.le_of_lt_succ hl)).elim (hj j) (fun e => e ▸ (by first | exact of_decide_eq_false h | exact h))
      exact ⟨i + 1, [], [], ⟨by omega, by exact hj'⟩, by omega, by (conv => whnf); (repeat' (first | exact trivial | rfl | (refine nilEq ?_; first | rfl | (simp only [*]; done) | (simp [*]; done) | grind) | apply And.intro | ((first | refine intEq ?_ | refine boolEq ?_ | refine strEq ?_ | refine psEq ?_ | refine nilEq ?_ | refine arrEq ?_); (try simp only [Int.toNat_natCast, nd_eta, sh_eta, it_eta, sto_eta, op_eta, ch_eta, nw_eta, fl_eta, rq_eta, rs_eta, elDef]); first | done | omega | grind | (simp only [*]; done) | (simp [*]; done)))); (all_goals (conv => whnf)); (repeat' (first | exact trivial | rfl | (refine nilEq ?_; first | rfl | (simp only [*]; done) | (simp [*]; done) | grind) | apply And.intro | ((first | refine intEq ?_ | refine boolEq ?_ | refine strEq ?_ | refine psEq ?_ | refine nilEq ?_ | refine arrEq ?_); (try simp only [Int.toNat_natCast, nd_eta, sh_eta, it_eta, sto_eta, op_eta, ch_eta, nw_eta, fl_eta, rq_eta, rs_eta, elDef]); first | done | omega | grind | (simp only [*]; done) | (simp [*]; done)) | ((try simp only [Int.toNat_natCast, nd_eta, sh_eta, it_eta, sto_eta, op_eta, ch_eta, nw_eta, fl_eta, rq_eta, rs_eta, elDef]); first | done | omega | grind | (simp only [*]; done) | (simp [*]; done)))), (by exact sgOk_of (by rfl))⟩
    · have hp : placeM n b = -1 := placeM_none fun j hl => hitM_no ⟨fun h4 => by omega, fun _ => hj j (by omega)⟩
      exact leafV hK (by unfold kidM; rw [if_neg (by omega), if_pos (by omega)])
  · have hp : placeM n b = -1 := placeM_none fun j hl => hitM_no ⟨fun h4 => by omega, fun h3 => by omega⟩
    exact leafV hK (by unfold kidM; rw [if_neg (by omega), if_pos (by omega)])
theorem s74 : (CtrOK Tryd.prog 74 (.pure F74) ∧ Callable Tryd.prog 74) := by
  refine pure_ok (E := E74) (mkE_cons s82 (mkE_cons s83 (mkE_nil tab_ok))) mix (O := O74) (F := F74) Tryd.func74 rfl (by rfl) (by kernel_rfl) (fun args o v h => ?_) (fun args o v h => ?_) (fun args o v h hbd hp K hK => ?_)
  · unfold F74 at h; split at h <;> cases h; first | trivial | (simp [v74, Scalar, Scalar2, Scalar1, stC, ndC, itC, chC, nwC])
  · unfold F74 at h; split at h <;> cases h; exact Nat.le_of_ble_eq_true rfl
  · unfold F74 at h; split at h
    case h_2 => cases h
    cases h
    exact a74 ⟨_, _, _, _, _⟩ _ (by exact hbd) (hp _ rfl) K hK
noncomputable def v57 (l : List Bs) : AV := .bool (pathM l)
noncomputable def o57 (l : List Bs) : Prop := True
noncomputable def F57 : List AV → QR
  | [.ps .str l] => some (none, v57 l)
  | _ => none
noncomputable def E57 : Ctx := mkE tab [(66, .pure F66)]
noncomputable def O57 : Nat → List DI := ordL []
theorem a57 (l : List Bs) (hb : BdAs [.ps .str l]) (ho : o57 l) (K : AV → List AV → Prop) (hK : K (v57 l) []) : abody E57 O57 .ps Tryd.f57 (Tryd.f57.body.getD .skip) [.ps .str l] K := by
  simp only [BdAs, BdA, BdL, BdC, MX, ndC, shC, itC, stC, opC, chC, nwC, flC, rqC, rsC, enc, List.cons_append, List.nil_append, and_true, true_and] at hb
  unfold v57 at hK
  conv => whnf
  repeat' first
    | (refine Cnd.mk (fun h => ?_) (fun h => ?_) <;> (try simp [nd_eta, sh_eta, it_eta, sto_eta, op_eta, ch_eta, nw_eta, fl_eta, rq_eta, rs_eta, elDef, -List.getD_eq_getElem?_getD] at h) <;> conv => whnf)
    | (refine Obl.mk (by first | omega | rfl | exact inK_byte _ | (simp only [inK, Int.toNat_natCast, nd_eta, sh_eta, it_eta, sto_eta, op_eta, ch_eta, nw_eta, fl_eta, rq_eta, rs_eta, elDef] <;> first | omega | grind) | grind [inK]) ?_ <;> conv => whnf)
    | (refine OblG.mk (by conv => whnf
                          repeat (first | (refine Bx.mk ?_) | (intro h; (try simp [nd_eta, sh_eta, it_eta, sto_eta, op_eta, ch_eta, nw_eta, fl_eta, rq_eta, rs_eta, elDef, -List.getD_eq_getElem?_getD] at h); conv => whnf))
                          first | omega | rfl | exact inK_byte _ | (simp only [inK, Int.toNat_natCast, nd_eta, sh_eta, it_eta, sto_eta, op_eta, ch_eta, nw_eta, fl_eta, rq_eta, rs_eta, elDef] <;> first | omega | grind) | grind [inK]) ?_ <;> conv => whnf)
    | (refine Gd.mk (fun h => ?_) <;> (try simp [nd_eta, sh_eta, it_eta, sto_eta, op_eta, ch_eta, nw_eta, fl_eta, rq_eta, rs_eta, elDef, -List.getD_eq_getElem?_getD] at h) <;> conv => whnf)
    | (refine And.intro ?_ ?_ <;> conv => whnf)
    | exact True.intro
    | (intro; conv => whnf)
  · exact leafB hK (by simp [pathM]; omega)
  refine aloop_intro Nat (fun k => k ≤ l.length ∧ ∀ j, j < k → txtM (l.getD j []) = true) (fun k => l.length - k) (fun k => [(10, .int .i64 k)]) (fun k => []) [] 0 [] [] ?_ ?_ (by exact sgOk_of (by rfl)) ?_
  · first | (simp; done) | (simp; assumption)
  · (conv => whnf); (repeat' (first | exact trivial | rfl | (refine nilEq ?_; first | rfl | (simp only [*]; done) | (simp [*]; done) | grind) | apply And.intro | ((first | refine intEq ?_ | refine boolEq ?_ | refine strEq ?_ | refine psEq ?_ | refine nilEq ?_ | refine arrEq ?_); (try simp only [Int.toNat_natCast, nd_eta, sh_eta, it_eta, sto_eta, op_eta, ch_eta, nw_eta, fl_eta, rq_eta, rs_eta, elDef]); first | done | omega | grind | (simp only [*]; done) | (simp [*]; done)))); (all_goals (conv => whnf)); (repeat' (first | exact trivial | rfl | (refine nilEq ?_; first | rfl | (simp only [*]; done) | (simp [*]; done) | grind) | apply And.intro | ((first | refine intEq ?_ | refine boolEq ?_ | refine strEq ?_ | refine psEq ?_ | refine nilEq ?_ | refine arrEq ?_); (try simp only [Int.toNat_natCast, nd_eta, sh_eta, it_eta, sto_eta, op_eta, ch_eta, nw_eta, fl_eta, rq_eta, rs_eta, elDef]); first | done | omega | grind | (simp only [*]; done) | (simp [*]; done)) | ((try simp only [Int.toNat_natCast, nd_eta, sh_eta, it_eta, sto_eta, op_eta, ch_eta, nw_eta, fl_eta, rq_eta, rs_eta, elDef]); first | done | omega | grind | (simp only [*]; done) | (simp [*]; done))))
  rintro i ⟨hi, hj⟩
  conv => whnf
  repeat' first
    | (refine Cnd.mk (fun h => ?_) (fun h => ?_) <;> (try simp [nd_eta, sh_eta, it_eta, sto_eta, op_eta, ch_eta, nw_eta, fl_eta, rq_eta, rs_eta, elDef, -List.getD_eq_getElem?_getD] at h) <;> conv => whnf)
    | (refine Obl.mk (by first | omega | rfl | exact inK_byte _ | (simp only [inK, Int.toNat_natCast, nd_eta, sh_eta, it_eta, sto_eta, op_eta, ch_eta, nw_eta, fl_eta, rq_eta, rs_eta, elDef] <;> first | omega | grind) | grind [inK]) ?_ <;> conv => whnf)
    | (refine OblG.mk (by conv => whnf
                          repeat (first | (refine Bx.mk ?_) | (intro h; (try simp [nd_eta, sh_eta, it_eta, sto_eta, op_eta, ch_eta, nw_eta, fl_eta, rq_eta, rs_eta, elDef, -List.getD_eq_getElem?_getD] at h); conv => whnf))
                          first | omega | rfl | exact inK_byte _ | (simp only [inK, Int.toNat_natCast, nd_eta, sh_eta, it_eta, sto_eta, op_eta, ch_eta, nw_eta, fl_eta, rq_eta, rs_eta, elDef] <;> first | omega | grind) | grind [inK]) ?_ <;> conv => whnf)
    | (refine Gd.mk (fun h => ?_) <;> (try simp [nd_eta, sh_eta, it_eta, sto_eta, op_eta, ch_eta, nw_eta, fl_eta, rq_eta, rs_eta, elDef, -List.getD_eq_getElem?_getD] at h) <;> conv => whnf)
    | (refine And.intro ?_ ?_ <;> conv => whnf)
    | exact True.intro
    | (intro; conv => whnf)
  · have : l.all txtM = false := allB_no (j := i) (by omega) (by grind)
    exact leafB hK (by simp only [pathM, this, Bool.and_false])
  · exact ⟨i + 1, [], [], ⟨by omega, by grind⟩, by omega, by (conv => whnf); (repeat' (first | exact trivial | rfl | (refine nilEq ?_; first | rfl | (simp only [*]; done) | (simp [*]; done) | grind) | apply And.intro | ((first | refine intEq ?_ | refine boolEq ?_ | refine strEq ?_ | refine psEq ?_ | refine nilEq ?_ | refine arrEq ?_); (try simp only [Int.toNat_natCast, nd_eta, sh_eta, it_eta, sto_eta, op_eta, ch_eta, nw_eta, fl_eta, rq_eta, rs_eta, elDef]); first | done | omega | grind | (simp only [*]; done) | (simp [*]; done)))); (all_goals (conv => whnf)); (repeat' (first | exact trivial | rfl | (refine nilEq ?_; first | rfl | (simp only [*]; done) | (simp [*]; done) | grind) | apply And.intro | ((first | refine intEq ?_ | refine boolEq ?_ | refine strEq ?_ | refine psEq ?_ | refine nilEq ?_ | refine arrEq ?_); (try simp only [Int.toNat_natCast, nd_eta, sh_eta, it_eta, sto_eta, op_eta, ch_eta, nw_eta, fl_eta, rq_eta, rs_eta, elDef]); first | done | omega | grind | (simp only [*]; done) | (simp [*]; done)) | ((try simp only [Int.toNat_natCast, nd_eta, sh_eta, it_eta, sto_eta, op_eta, ch_eta, nw_eta, fl_eta, rq_eta, rs_eta, elDef]); first | done | omega | grind | (simp only [*]; done) | (simp [*]; done)))), (by exact sgOk_of (by rfl))⟩
  · have : l.all txtM = true := (allB_iff _ _).2 (by grind)
    exact leafB hK (by simp only [pathM, this, Bool.and_true]; exact decide_eq_true (by omega))
theorem s57 : (CtrOK Tryd.prog 57 (.pure F57) ∧ Callable Tryd.prog 57) := by
  refine pure_ok (E := E57) (mkE_cons s66 (mkE_nil tab_ok)) mix (O := O57) (F := F57) Tryd.func57 rfl (by rfl) (by kernel_rfl) (fun args o v h => ?_) (fun args o v h => ?_) (fun args o v h hbd hp K hK => ?_)
  · unfold F57 at h; split at h <;> cases h; first | trivial | (simp [v57, Scalar, Scalar2, Scalar1, stC, ndC, itC, chC, nwC])
  · unfold F57 at h; split at h <;> cases h; exact Nat.le_of_ble_eq_true rfl
  · unfold F57 at h; split at h
    case h_2 => cases h
    cases h
    exact a57 _ (by exact hbd) trivial K hK
noncomputable def v42 (l : List Bs) : AV := .bool (pathM l)
noncomputable def o42 (l : List Bs) : Prop := True
noncomputable def F42 : List AV → QR
  | [.ps .str l] => some (none, v42 l)
  | _ => none
noncomputable def E42 : Ctx := mkE tab [(60, .pure F60)]
noncomputable def O42 : Nat → List DI := ordL []
theorem a42 (l : List Bs) (hb : BdAs [.ps .str l]) (ho : o42 l) (K : AV → List AV → Prop) (hK : K (v42 l) []) : abody E42 O42 .ps Tryd.f42 (Tryd.f42.body.getD .skip) [.ps .str l] K := by
  simp only [BdAs, BdA, BdL, BdC, MX, ndC, shC, itC, stC, opC, chC, nwC, flC, rqC, rsC, enc, List.cons_append, List.nil_append, and_true, true_and] at hb
  unfold v42 at hK
  conv => whnf
  refine aloop_intro Nat (fun k => k ≤ l.length ∧ ∀ j, j < k → txtM (l.getD j []) = true) (fun k => l.length - k) (fun k => [(3, .int .i64 k)]) (fun k => []) [] 0 [] [] ?_ ?_ (by exact sgOk_of (by rfl)) ?_
  · first | (simp; done) | (simp; assumption)
  · (conv => whnf); (repeat' (first | exact trivial | rfl | (refine nilEq ?_; first | rfl | (simp only [*]; done) | (simp [*]; done) | grind) | apply And.intro | ((first | refine intEq ?_ | refine boolEq ?_ | refine strEq ?_ | refine psEq ?_ | refine nilEq ?_ | refine arrEq ?_); (try simp only [Int.toNat_natCast, nd_eta, sh_eta, it_eta, sto_eta, op_eta, ch_eta, nw_eta, fl_eta, rq_eta, rs_eta, elDef]); first | done | omega | grind | (simp only [*]; done) | (simp [*]; done)))); (all_goals (conv => whnf)); (repeat' (first | exact trivial | rfl | (refine nilEq ?_; first | rfl | (simp only [*]; done) | (simp [*]; done) | grind) | apply And.intro | ((first | refine intEq ?_ | refine boolEq ?_ | refine strEq ?_ | refine psEq ?_ | refine nilEq ?_ | refine arrEq ?_); (try simp only [Int.toNat_natCast, nd_eta, sh_eta, it_eta, sto_eta, op_eta, ch_eta, nw_eta, fl_eta, rq_eta, rs_eta, elDef]); first | done | omega | grind | (simp only [*]; done) | (simp [*]; done)) | ((try simp only [Int.toNat_natCast, nd_eta, sh_eta, it_eta, sto_eta, op_eta, ch_eta, nw_eta, fl_eta, rq_eta, rs_eta, elDef]); first | done | omega | grind | (simp only [*]; done) | (simp [*]; done))))
  rintro i ⟨hi, hj⟩
  conv => whnf
  repeat' first
    | (refine Cnd.mk (fun h => ?_) (fun h => ?_) <;> (try simp [nd_eta, sh_eta, it_eta, sto_eta, op_eta, ch_eta, nw_eta, fl_eta, rq_eta, rs_eta, elDef, -List.getD_eq_getElem?_getD] at h) <;> conv => whnf)
    | (refine Obl.mk (by first | omega | rfl | exact inK_byte _ | (simp only [inK, Int.toNat_natCast, nd_eta, sh_eta, it_eta, sto_eta, op_eta, ch_eta, nw_eta, fl_eta, rq_eta, rs_eta, elDef] <;> first | omega | grind) | grind [inK]) ?_ <;> conv => whnf)
    | (refine OblG.mk (by conv => whnf
                          repeat (first | (refine Bx.mk ?_) | (intro h; (try simp [nd_eta, sh_eta, it_eta, sto_eta, op_eta, ch_eta, nw_eta, fl_eta, rq_eta, rs_eta, elDef, -List.getD_eq_getElem?_getD] at h); conv => whnf))
                          first | omega | rfl | exact inK_byte _ | (simp only [inK, Int.toNat_natCast, nd_eta, sh_eta, it_eta, sto_eta, op_eta, ch_eta, nw_eta, fl_eta, rq_eta, rs_eta, elDef] <;> first | omega | grind) | grind [inK]) ?_ <;> conv => whnf)
    | (refine Gd.mk (fun h => ?_) <;> (try simp [nd_eta, sh_eta, it_eta, sto_eta, op_eta, ch_eta, nw_eta, fl_eta, rq_eta, rs_eta, elDef, -List.getD_eq_getElem?_getD] at h) <;> conv => whnf)
    | (refine And.intro ?_ ?_ <;> conv => whnf)
    | exact True.intro
    | (intro; conv => whnf)
  · have : l.all txtM = false := allB_no (j := i) (by omega) (by grind)
    exact leafB hK (by simp only [pathM, this, Bool.and_false])
  · exact ⟨i + 1, [], [], ⟨by omega, by grind⟩, by omega, by (conv => whnf); (repeat' (first | exact trivial | rfl | (refine nilEq ?_; first | rfl | (simp only [*]; done) | (simp [*]; done) | grind) | apply And.intro | ((first | refine intEq ?_ | refine boolEq ?_ | refine strEq ?_ | refine psEq ?_ | refine nilEq ?_ | refine arrEq ?_); (try simp only [Int.toNat_natCast, nd_eta, sh_eta, it_eta, sto_eta, op_eta, ch_eta, nw_eta, fl_eta, rq_eta, rs_eta, elDef]); first | done | omega | grind | (simp only [*]; done) | (simp [*]; done)))); (all_goals (conv => whnf)); (repeat' (first | exact trivial | rfl | (refine nilEq ?_; first | rfl | (simp only [*]; done) | (simp [*]; done) | grind) | apply And.intro | ((first | refine intEq ?_ | refine boolEq ?_ | refine strEq ?_ | refine psEq ?_ | refine nilEq ?_ | refine arrEq ?_); (try simp only [Int.toNat_natCast, nd_eta, sh_eta, it_eta, sto_eta, op_eta, ch_eta, nw_eta, fl_eta, rq_eta, rs_eta, elDef]); first | done | omega | grind | (simp only [*]; done) | (simp [*]; done)) | ((try simp only [Int.toNat_natCast, nd_eta, sh_eta, it_eta, sto_eta, op_eta, ch_eta, nw_eta, fl_eta, rq_eta, rs_eta, elDef]); first | done | omega | grind | (simp only [*]; done) | (simp [*]; done)))), (by exact sgOk_of (by rfl))⟩
  · have : l.all txtM = true := (allB_iff _ _).2 (by grind)
    exact leafB hK (by simp only [pathM, this, Bool.and_true]; rw [Bool.eq_iff_iff]; simp; omega)
theorem s42 : (CtrOK Tryd.prog 42 (.pure F42) ∧ Callable Tryd.prog 42) := by
  refine pure_ok (E := E42) (mkE_cons s60 (mkE_nil tab_ok)) mix (O := O42) (F := F42) Tryd.func42 rfl (by rfl) (by kernel_rfl) (fun args o v h => ?_) (fun args o v h => ?_) (fun args o v h hbd hp K hK => ?_)
  · unfold F42 at h; split at h <;> cases h; first | trivial | (simp [v42, Scalar, Scalar2, Scalar1, stC, ndC, itC, chC, nwC])
  · unfold F42 at h; split at h <;> cases h; exact Nat.le_of_ble_eq_true rfl
  · unfold F42 at h; split at h
    case h_2 => cases h
    cases h
    exact a42 _ (by exact hbd) trivial K hK
noncomputable def v64 (a : Int) (b : Int) : AV := .int .i64 (ordI a b)
noncomputable def o64 (a : Int) (b : Int) : Prop := True
noncomputable def F64 : List AV → QR
  | [.int .i64 a, .int .i64 b] => some (none, v64 a b)
  | _ => none
noncomputable def E64 : Ctx := mkE tab [(78, .pure F78)]
noncomputable def O64 : Nat → List DI := ordL []
theorem a64 (a : Int) (b : Int) (hb : BdAs [.int .i64 a, .int .i64 b]) (ho : o64 a b) (K : AV → List AV → Prop) (hK : K (v64 a b) []) : abody E64 O64 .ps Tryd.f64 (Tryd.f64.body.getD .skip) [.int .i64 a, .int .i64 b] K := by
  simp only [BdAs, BdA, BdL, BdC, MX, ndC, shC, itC, stC, opC, chC, nwC, flC, rqC, rsC, enc, List.cons_append, List.nil_append, and_true, true_and] at hb
  unfold v64 at hK
  conv => whnf
  repeat' first
    | (refine Cnd.mk (fun h => ?_) (fun h => ?_) <;> (try simp [nd_eta, sh_eta, it_eta, sto_eta, op_eta, ch_eta, nw_eta, fl_eta, rq_eta, rs_eta, elDef, -List.getD_eq_getElem?_getD] at h) <;> conv => whnf)
    | (refine Obl.mk (by first | omega | rfl | exact inK_byte _ | (simp only [inK, Int.toNat_natCast, nd_eta, sh_eta, it_eta, sto_eta, op_eta, ch_eta, nw_eta, fl_eta, rq_eta, rs_eta, elDef] <;> first | omega | grind) | grind [inK]) ?_ <;> conv => whnf)
    | (refine OblG.mk (by conv => whnf
                          repeat (first | (refine Bx.mk ?_) | (intro h; (try simp [nd_eta, sh_eta, it_eta, sto_eta, op_eta, ch_eta, nw_eta, fl_eta, rq_eta, rs_eta, elDef, -List.getD_eq_getElem?_getD] at h); conv => whnf))
                          first | omega | rfl | exact inK_byte _ | (simp only [inK, Int.toNat_natCast, nd_eta, sh_eta, it_eta, sto_eta, op_eta, ch_eta, nw_eta, fl_eta, rq_eta, rs_eta, elDef] <;> first | omega | grind) | grind [inK]) ?_ <;> conv => whnf)
    | (refine Gd.mk (fun h => ?_) <;> (try simp [nd_eta, sh_eta, it_eta, sto_eta, op_eta, ch_eta, nw_eta, fl_eta, rq_eta, rs_eta, elDef, -List.getD_eq_getElem?_getD] at h) <;> conv => whnf)
    | (refine And.intro ?_ ?_ <;> conv => whnf)
    | exact True.intro
    | (intro; conv => whnf)
  all_goals exact leafI hK (by unfold ordI; grind)
theorem s64 : (CtrOK Tryd.prog 64 (.pure F64) ∧ Callable Tryd.prog 64) := by
  refine pure_ok (E := E64) (mkE_cons s78 (mkE_nil tab_ok)) mix (O := O64) (F := F64) Tryd.func64 rfl (by rfl) (by kernel_rfl) (fun args o v h => ?_) (fun args o v h => ?_) (fun args o v h hbd hp K hK => ?_)
  · unfold F64 at h; split at h <;> cases h; first | trivial | (simp [v64, Scalar, Scalar2, Scalar1, stC, ndC, itC, chC, nwC])
  · unfold F64 at h; split at h <;> cases h; exact Nat.le_of_ble_eq_true rfl
  · unfold F64 at h; split at h
    case h_2 => cases h
    cases h
    exact a64 _ _ (by exact hbd) trivial K hK
noncomputable def v65 (a : Bs) (b : Bs) : AV := .int .i64 (cmpI a b)
noncomputable def o65 (a : Bs) (b : Bs) : Prop := True
noncomputable def F65 : List AV → QR
  | [.str a, .str b] => some (none, v65 a b)
  | _ => none
noncomputable def E65 : Ctx := mkE tab [(78, .pure F78)]
noncomputable def O65 : Nat → List DI := ordL []
theorem a65 (a : Bs) (b : Bs) (hb : BdAs [.str a, .str b]) (ho : o65 a b) (K : AV → List AV → Prop) (hK : K (v65 a b) []) : abody E65 O65 .ps Tryd.f65 (Tryd.f65.body.getD .skip) [.str a, .str b] K := by
  simp only [BdAs, BdA, BdL, BdC, MX, ndC, shC, itC, stC, opC, chC, nwC, flC, rqC, rsC, enc, List.cons_append, List.nil_append, and_true, true_and] at hb
  unfold v65 at hK
  have h1 := fun h : ltS a b = true => ltS_asymm h
  conv => whnf
  repeat' first
    | (refine Cnd.mk (fun h => ?_) (fun h => ?_) <;> (try simp [nd_eta, sh_eta, it_eta, sto_eta, op_eta, ch_eta, nw_eta, fl_eta, rq_eta, rs_eta, elDef, -List.getD_eq_getElem?_getD] at h) <;> conv => whnf)
    | (refine Obl.mk (by first | omega | rfl | exact inK_byte _ | (simp only [inK, Int.toNat_natCast, nd_eta, sh_eta, it_eta, sto_eta, op_eta, ch_eta, nw_eta, fl_eta, rq_eta, rs_eta, elDef] <;> first | omega | grind) | grind [inK]) ?_ <;> conv => whnf)
    | (refine OblG.mk (by conv => whnf
                          repeat (first | (refine Bx.mk ?_) | (intro h; (try simp [nd_eta, sh_eta, it_eta, sto_eta, op_eta, ch_eta, nw_eta, fl_eta, rq_eta, rs_eta, elDef, -List.getD_eq_getElem?_getD] at h); conv => whnf))
                          first | omega | rfl | exact inK_byte _ | (simp only [inK, Int.toNat_natCast, nd_eta, sh_eta, it_eta, sto_eta, op_eta, ch_eta, nw_eta, fl_eta, rq_eta, rs_eta, elDef] <;> first | omega | grind) | grind [inK]) ?_ <;> conv => whnf)
    | (refine Gd.mk (fun h => ?_) <;> (try simp [nd_eta, sh_eta, it_eta, sto_eta, op_eta, ch_eta, nw_eta, fl_eta, rq_eta, rs_eta, elDef, -List.getD_eq_getElem?_getD] at h) <;> conv => whnf)
    | (refine And.intro ?_ ?_ <;> conv => whnf)
    | exact True.intro
    | (intro; conv => whnf)
  all_goals exact leafI hK (by unfold cmpI; grind)
theorem s65 : (CtrOK Tryd.prog 65 (.pure F65) ∧ Callable Tryd.prog 65) := by
  refine pure_ok (E := E65) (mkE_cons s78 (mkE_nil tab_ok)) mix (O := O65) (F := F65) Tryd.func65 rfl (by rfl) (by kernel_rfl) (fun args o v h => ?_) (fun args o v h => ?_) (fun args o v h hbd hp K hK => ?_)
  · unfold F65 at h; split at h <;> cases h; first | trivial | (simp [v65, Scalar, Scalar2, Scalar1, stC, ndC, itC, chC, nwC])
  · unfold F65 at h; split at h <;> cases h; exact Nat.le_of_ble_eq_true rfl
  · unfold F65 at h; split at h
    case h_2 => cases h
    cases h
    exact a65 _ _ (by exact hbd) trivial K hK
noncomputable def v59 (a : Nd) (b : Nd) : AV := .int .i64 (cmpN a b)
noncomputable def o59 (a : Nd) (b : Nd) : Prop := okN a ∧ okN b
noncomputable def m59 (a : Nd) (b : Nd) : Nat := SizeOf.sizeOf a
noncomputable def F59 : List AV → QR
  | [.st [.int .i64 a_0, .int .i64 a_1, .str a_2, .ps .str a_3, .ps .node a_4], .st [.int .i64 b_0, .int .i64 b_1, .str b_2, .ps .str b_3, .ps .node b_4]] => some (some (o59 ⟨a_0, a_1, a_2, a_3, a_4⟩ ⟨b_0, b_1, b_2, b_3, b_4⟩), v59 ⟨a_0, a_1, a_2, a_3, a_4⟩ ⟨b_0, b_1, b_2, b_3, b_4⟩)
  | _ => none
noncomputable def Fk59 (k : Nat) : List AV → QR
  | [.st [.int .i64 a_0, .int .i64 a_1, .str a_2, .ps .str a_3, .ps .node a_4], .st [.int .i64 b_0, .int .i64 b_1, .str b_2, .ps .str b_3, .ps .node b_4]] => some (some (m59 ⟨a_0, a_1, a_2, a_3, a_4⟩ ⟨b_0, b_1, b_2, b_3, b_4⟩ < k ∧ o59 ⟨a_0, a_1, a_2, a_3, a_4⟩ ⟨b_0, b_1, b_2, b_3, b_4⟩), v59 ⟨a_0, a_1, a_2, a_3, a_4⟩ ⟨b_0, b_1, b_2, b_3, b_4⟩)
  | _ => none
noncomputable def E59 (k : Nat) : Ctx := mkE tab [(59, .pure (Fk59 k)), (75, .pure F75), (76, .pure F76)]
noncomputable def O59 : Nat → List DI := ordL [(14, [.q 0, .q 1, .q 2, .q 3, .q 4, .q 5, .q 6, .q 7, .q 8, .q 9, .q 10, .q 11]), (17, [.q 0, .q 1, .q 2, .q 3, .q 4, .q 5, .q 6, .q 7, .q 8, .q 9, .q 10, .q 11])]
theorem a59 (k : Nat) (a : Nd) (b : Nd) (hm : m59 a b < k + 1) (hb : BdAs [.st (ndC a), .st (ndC b)]) (ho : o59 a b) (K : AV → List AV → Prop) (hK : K (v59 a b) []) : abody (E59 k) O59 .ps Tryd.f59 (Tryd.f59.body.getD .skip) [.st (ndC a), .st (ndC b)] K := by
  simp only [BdAs, BdA, BdL, BdC, MX, ndC, shC, itC, stC, opC, chC, nwC, flC, rqC, rsC, enc, List.cons_append, List.nil_append, and_true, true_and] at hb
  unfold o59 at ho
  unfold v59 at hK
  unfold m59 at hm
  rw [cmpN_eq] at hK
  obtain ⟨ha, hb2⟩ := ho
  have hna := (okN_names ha).2.1
  have hnb := (okN_names hb2).2.1
  have hkid : ∀ j, j < a.kids.length → j < b.kids.length → SizeOf.sizeOf (a.kids.getD j default) < k ∧ okN (a.kids.getD j default) ∧ okN (b.kids.getD j default) := fun j hj hj2 => ⟨by have := kid_size hj; omega, okN_kid ha hj, okN_kid hb2 hj2⟩
  conv => whnf
  repeat' first
    | (refine Cnd.mk (fun h => ?_) (fun h => ?_) <;> (try simp [nd_eta, sh_eta, it_eta, sto_eta, op_eta, ch_eta, nw_eta, fl_eta, rq_eta, rs_eta, elDef, -List.getD_eq_getElem?_getD] at h) <;> conv => whnf)
    | (refine Obl.mk (by first | omega | rfl | exact inK_byte _ | (simp only [inK, Int.toNat_natCast, nd_eta, sh_eta, it_eta, sto_eta, op_eta, ch_eta, nw_eta, fl_eta, rq_eta, rs_eta, elDef, m59, o59, m59] <;> first | omega | grind) | grind [inK, m59, o59, m59]) ?_ <;> conv => whnf)
    | (refine OblG.mk (by conv => whnf
                          repeat (first | (refine Bx.mk ?_) | (intro h; (try simp [nd_eta, sh_eta, it_eta, sto_eta, op_eta, ch_eta, nw_eta, fl_eta, rq_eta, rs_eta, elDef, -List.getD_eq_getElem?_getD] at h); conv => whnf))
                          first | omega | rfl | exact inK_byte _ | (simp only [inK, Int.toNat_natCast, nd_eta, sh_eta, it_eta, sto_eta, op_eta, ch_eta, nw_eta, fl_eta, rq_eta, rs_eta, elDef, m59, o59, m59] <;> first | omega | grind) | grind [inK, m59, o59, m59]) ?_ <;> conv => whnf)
    | (refine Gd.mk (fun h => ?_) <;> (try simp [nd_eta, sh_eta, it_eta, sto_eta, op_eta, ch_eta, nw_eta, fl_eta, rq_eta, rs_eta, elDef, -List.getD_eq_getElem?_getD] at h) <;> conv => whnf)
    | (refine And.intro ?_ ?_ <;> conv => whnf)
    | exact True.intro
    | (intro; conv => whnf)
  · exact leafI hK (by rw [if_neg (fun e => h (ordI_zero.2 e))])
  · exact leafI hK (by rw [if_pos (ordI_zero.1 (by assumption)), if_neg (fun e => h (ordI_zero.2 e))])
  · exact leafI hK (by rw [if_pos (ordI_zero.1 (by assumption)), if_pos (ordI_zero.1 (by assumption)), if_neg (fun e => h (cmpI_zero.2 e))])
  have e1 : a.kind = b.kind := ordI_zero.1 (by assumption)
  have e2 : a.num = b.num := ordI_zero.1 (by assumption)
  have e3 : a.text = b.text := cmpI_zero.1 (by assumption)
  rw [if_pos e1, if_pos e2, if_pos e3, ← cmpK_zero] at hK
  refine aloop_intro Nat (fun i => i ≤ a.kids.length ∧ i ≤ b.kids.length ∧ cmpK a b 0 = cmpK a b i) (fun i => a.kids.length - i) (fun i => [(8, .int .i64 i)]) (fun _ => []) [2, 3] 0 [] [] ⟨by omega, by omega, rfl⟩ ?_ (by exact sgOk_of (by rfl)) ?_
  · (conv => whnf); (repeat' (first | exact trivial | rfl | (refine nilEq ?_; first | rfl | (simp only [*]; done) | (simp [*]; done) | grind) | apply And.intro | ((first | refine intEq ?_ | refine boolEq ?_ | refine strEq ?_ | refine psEq ?_ | refine nilEq ?_ | refine arrEq ?_); (try simp only [Int.toNat_natCast, nd_eta, sh_eta, it_eta, sto_eta, op_eta, ch_eta, nw_eta, fl_eta, rq_eta, rs_eta, elDef]); first | done | omega | grind | (simp only [*]; done) | (simp [*]; done)))); (all_goals (conv => whnf)); (repeat' (first | exact trivial | rfl | (refine nilEq ?_; first | rfl | (simp only [*]; done) | (simp [*]; done) | grind) | apply And.intro | ((first | refine intEq ?_ | refine boolEq ?_ | refine strEq ?_ | refine psEq ?_ | refine nilEq ?_ | refine arrEq ?_); (try simp only [Int.toNat_natCast, nd_eta, sh_eta, it_eta, sto_eta, op_eta, ch_eta, nw_eta, fl_eta, rq_eta, rs_eta, elDef]); first | done | omega | grind | (simp only [*]; done) | (simp [*]; done)) | ((try simp only [Int.toNat_natCast, nd_eta, sh_eta, it_eta, sto_eta, op_eta, ch_eta, nw_eta, fl_eta, rq_eta, rs_eta, elDef]); first | done | omega | grind | (simp only [*]; done) | (simp [*]; done))))
  rintro i ⟨hi1, hi2, hj⟩
  have hst := fun h1 h2 => cmpK_step (a := a) (b := b) (i := i) h1 h2
  have hen := fun h => cmpK_end (a := a) (b := b) (i := i) hi1 hi2 h
  have hz := @cmpI_zero
  conv => whnf
  repeat' first
    | (refine Cnd.mk (fun h => ?_) (fun h => ?_) <;> (try simp [nd_eta, sh_eta, it_eta, sto_eta, op_eta, ch_eta, nw_eta, fl_eta, rq_eta, rs_eta, elDef, -List.getD_eq_getElem?_getD] at h) <;> conv => whnf)
    | (refine Obl.mk (by first | omega | rfl | exact inK_byte _ | (simp only [inK, Int.toNat_natCast, nd_eta, sh_eta, it_eta, sto_eta, op_eta, ch_eta, nw_eta, fl_eta, rq_eta, rs_eta, elDef, m59, o59, m59] <;> first | omega | grind) | grind [inK, m59, o59, m59]) ?_ <;> conv => whnf)
    | (refine OblG.mk (by conv => whnf
                          repeat (first | (refine Bx.mk ?_) | (intro h; (try simp [nd_eta, sh_eta, it_eta, sto_eta, op_eta, ch_eta, nw_eta, fl_eta, rq_eta, rs_eta, elDef, -List.getD_eq_getElem?_getD] at h); conv => whnf))
                          first | omega | rfl | exact inK_byte _ | (simp only [inK, Int.toNat_natCast, nd_eta, sh_eta, it_eta, sto_eta, op_eta, ch_eta, nw_eta, fl_eta, rq_eta, rs_eta, elDef, m59, o59, m59] <;> first | omega | grind) | grind [inK, m59, o59, m59]) ?_ <;> conv => whnf)
    | (refine Gd.mk (fun h => ?_) <;> (try simp [nd_eta, sh_eta, it_eta, sto_eta, op_eta, ch_eta, nw_eta, fl_eta, rq_eta, rs_eta, elDef, -List.getD_eq_getElem?_getD] at h) <;> conv => whnf)
    | (refine And.intro ?_ ?_ <;> conv => whnf)
    | exact True.intro
    | (intro; conv => whnf)
  all_goals first
    | exact leafI hK (by rw [hj, hen (by omega)])
    | exact leafI hK (by rw [hj, hst (by omega) (by omega)]; simp only [Int.toNat_natCast, elDef, nd_eta]; grind)
    | (have e : cmpK a b i = cmpK a b (i + 1) := by rw [hst (by omega) (by omega)]; grind
       exact ⟨i + 1, [], [], ⟨by omega, by omega, hj.trans e⟩, by omega, by (conv => whnf); (repeat' (first | exact trivial | rfl | (refine nilEq ?_; first | rfl | (simp only [*]; done) | (simp [*]; done) | grind) | apply And.intro | ((first | refine intEq ?_ | refine boolEq ?_ | refine strEq ?_ | refine psEq ?_ | refine nilEq ?_ | refine arrEq ?_); (try simp only [Int.toNat_natCast, nd_eta, sh_eta, it_eta, sto_eta, op_eta, ch_eta, nw_eta, fl_eta, rq_eta, rs_eta, elDef]); first | done | omega | grind | (simp only [*]; done) | (simp [*]; done)))); (all_goals (conv => whnf)); (repeat' (first | exact trivial | rfl | (refine nilEq ?_; first | rfl | (simp only [*]; done) | (simp [*]; done) | grind) | apply And.intro | ((first | refine intEq ?_ | refine boolEq ?_ | refine strEq ?_ | refine psEq ?_ | refine nilEq ?_ | refine arrEq ?_); (try simp only [Int.toNat_natCast, nd_eta, sh_eta, it_eta, sto_eta, op_eta, ch_eta, nw_eta, fl_eta, rq_eta, rs_eta, elDef]); first | done | omega | grind | (simp only [*]; done) | (simp [*]; done)) | ((try simp only [Int.toNat_natCast, nd_eta, sh_eta, it_eta, sto_eta, op_eta, ch_eta, nw_eta, fl_eta, rq_eta, rs_eta, elDef]); first | done | omega | grind | (simp only [*]; done) | (simp [*]; done)))), (by exact sgOk_of (by rfl))⟩)
theorem r59 : ∀ k, (CtrOK Tryd.prog 59 (.pure (Fk59 k)) ∧ Callable Tryd.prog 59) := by
  intro k
  induction k with
  | zero =>
    exact ⟨⟨fun args o v h => by unfold Fk59 at h; split at h <;> cases h; first | trivial | (simp [v59, Scalar, Scalar2, Scalar1, stC, ndC, itC, chC, nwC]), fun args K h => by
        unfold pureC Fk59 at h; split at h
        · rename_i h1; split at h1 <;> cases h1; exact absurd (h.1 _ rfl).1 (Nat.not_lt_zero _)
        · exact h.elim⟩, callable Tryd.func59 rfl (by rfl)⟩
  | succ k ih =>
    refine pure_ok (E := E59 k) (mkE_cons ih (mkE_cons s75 (mkE_cons s76 (mkE_nil tab_ok)))) mix (O := O59) (F := (Fk59 (k + 1))) Tryd.func59 rfl (by rfl) (by kernel_rfl) (fun args o v h => ?_) (fun args o v h => ?_) (fun args o v h hbd hp K hK => ?_)
    · unfold Fk59 at h; split at h <;> cases h; first | trivial | (simp [v59, Scalar, Scalar2, Scalar1, stC, ndC, itC, chC, nwC])
    · unfold Fk59 at h; split at h <;> cases h; exact Nat.le_of_ble_eq_true rfl
    · unfold Fk59 at h; split at h
      case h_2 => cases h
      cases h
      exact a59 k ⟨_, _, _, _, _⟩ ⟨_, _, _, _, _⟩ (hp _ rfl).1 (by exact hbd) (hp _ rfl).2 K hK
theorem s59 : (CtrOK Tryd.prog 59 (.pure F59) ∧ Callable Tryd.prog 59) := by
  refine ⟨⟨fun args o v h => ?_, fun args K h => ?_⟩, (r59 0).2⟩
  · unfold F59 at h; split at h <;> cases h; first | trivial | (simp [v59, Scalar, Scalar2, Scalar1, stC, ndC, itC, chC, nwC])
  · unfold pureC F59 at h; split at h
    · rename_i h1; split at h1 <;> cases h1
      exact (r59 (m59 ⟨_, _, _, _, _⟩ ⟨_, _, _, _, _⟩ + 1)).1.2 _ K ⟨fun p hp => by cases hp; exact ⟨Nat.lt_succ_self _, (h.1 _ rfl)⟩, h.2⟩
    · exact h.elim
noncomputable def v45 (a : Nd) (b : Nd) : AV := .int .i64 (cmpN a b)
noncomputable def o45 (a : Nd) (b : Nd) : Prop := okN a ∧ okN b
noncomputable def m45 (a : Nd) (b : Nd) : Nat := SizeOf.sizeOf a
noncomputable def F45 : List AV → QR
  | [.st [.int .i64 a_0, .int .i64 a_1, .str a_2, .ps .str a_3, .ps .node a_4], .st [.int .i64 b_0, .int .i64 b_1, .str b_2, .ps .str b_3, .ps .node b_4]] => some (some (o45 ⟨a_0, a_1, a_2, a_3, a_4⟩ ⟨b_0, b_1, b_2, b_3, b_4⟩), v45 ⟨a_0, a_1, a_2, a_3, a_4⟩ ⟨b_0, b_1, b_2, b_3, b_4⟩)
  | _ => none
noncomputable def Fk45 (k : Nat) : List AV → QR
  | [.st [.int .i64 a_0, .int .i64 a_1, .str a_2, .ps .str a_3, .ps .node a_4], .st [.int .i64 b_0, .int .i64 b_1, .str b_2, .ps .str b_3, .ps .node b_4]] => some (some (m45 ⟨a_0, a_1, a_2, a_3, a_4⟩ ⟨b_0, b_1, b_2, b_3, b_4⟩ < k ∧ o45 ⟨a_0, a_1, a_2, a_3, a_4⟩ ⟨b_0, b_1, b_2, b_3, b_4⟩), v45 ⟨a_0, a_1, a_2, a_3, a_4⟩ ⟨b_0, b_1, b_2, b_3, b_4⟩)
  | _ => none
noncomputable def E45 (k : Nat) : Ctx := mkE tab [(45, .pure (Fk45 k)), (64, .pure F64), (65, .pure F65)]
noncomputable def O45 : Nat → List DI := ordL [(10, [.q 0, .q 1, .q 2, .q 3, .q 4, .q 5, .q 6, .q 7, .q 8, .q 9, .q 10, .q 11, .q 12, .q 13, .q 14, .q 15]), (11, [.q 0, .q 1, .q 2, .q 3, .q 4, .q 5, .q 6, .q 7, .q 8, .q 9, .q 10, .q 11]), (12, [.q 0, .q 1, .q 2, .q 3, .q 4, .q 5, .q 6, .q 7, .q 8, .q 9, .q 10, .q 11])]
theorem a45 (k : Nat) (a : Nd) (b : Nd) (hm : m45 a b < k + 1) (hb : BdAs [.st (ndC a), .st (ndC b)]) (ho : o45 a b) (K : AV → List AV → Prop) (hK : K (v45 a b) []) : abody (E45 k) O45 .ps Tryd.f45 (Tryd.f45.body.getD .skip) [.st (ndC a), .st (ndC b)] K := by
  simp only [BdAs, BdA, BdL, BdC, MX, ndC, shC, itC, stC, opC, chC, nwC, flC, rqC, rsC, enc, List.cons_append, List.nil_append, and_true, true_and] at hb
  unfold o45 at ho
  unfold v45 at hK
  unfold m45 at hm
  rw [cmpN_eq] at hK
  obtain ⟨ha, hb2⟩ := ho
  have hna := (okN_names ha).2.1
  have hnb := (okN_names hb2).2.1
  have hkid : ∀ j, j < a.kids.length → j < b.kids.length → SizeOf.sizeOf (a.kids.getD j default) < k ∧ okN (a.kids.getD j default) ∧ okN (b.kids.getD j default) := fun j hj hj2 => ⟨by have := kid_size hj; omega, okN_kid ha hj, okN_kid hb2 hj2⟩
  conv => whnf
  repeat' first
    | (refine Cnd.mk (fun h => ?_) (fun h => ?_) <;> (try simp [nd_eta, sh_eta, it_eta, sto_eta, op_eta, ch_eta, nw_eta, fl_eta, rq_eta, rs_eta, elDef, -List.getD_eq_getElem?_getD] at h) <;> conv => whnf)
    | (refine Obl.mk (by first | omega | rfl | exact inK_byte _ | (simp only [inK, Int.toNat_natCast, nd_eta, sh_eta, it_eta, sto_eta, op_eta, ch_eta, nw_eta, fl_eta, rq_eta, rs_eta, elDef, m45, o45, m45] <;> first | omega | grind) | grind [inK, m45, o45, m45]) ?_ <;> conv => whnf)
    | (refine OblG.mk (by conv => whnf
                          repeat (first | (refine Bx.mk ?_) | (intro h; (try simp [nd_eta, sh_eta, it_eta, sto_eta, op_eta, ch_eta, nw_eta, fl_eta, rq_eta, rs_eta, elDef, -List.getD_eq_getElem?_getD] at h); conv => whnf))
                          first | omega | rfl | exact inK_byte _ | (simp only [inK, Int.toNat_natCast, nd_eta, sh_eta, it_eta, sto_eta, op_eta, ch_eta, nw_eta, fl_eta, rq_eta, rs_eta, elDef, m45, o45, m45] <;> first | omega | grind) | grind [inK, m45, o45, m45]) ?_ <;> conv => whnf)
    | (refine Gd.mk (fun h => ?_) <;> (try simp [nd_eta, sh_eta, it_eta, sto_eta, op_eta, ch_eta, nw_eta, fl_eta, rq_eta, rs_eta, elDef, -List.getD_eq_getElem?_getD] at h) <;> conv => whnf)
    | (refine And.intro ?_ ?_ <;> conv => whnf)
    | exact True.intro
    | (intro; conv => whnf)
  · exact leafI hK (by rw [if_neg (fun e => h (e))])
  · exact leafI hK (by rw [if_pos (by assumption), if_neg (fun e => h (e))])
  · exact leafI hK (by rw [if_pos (by assumption), if_pos (by assumption), if_neg (fun e => h (e))])
  have e1 : a.kind = b.kind := by assumption
  have e2 : a.num = b.num := by assumption
  have e3 : a.text = b.text := by assumption
  rw [if_pos e1, if_pos e2, if_pos e3, ← cmpK_zero] at hK
  refine aloop_intro Nat (fun i => i ≤ a.kids.length ∧ i ≤ b.kids.length ∧ cmpK a b 0 = cmpK a b i) (fun i => a.kids.length - i) (fun i => [(5, .int .i64 i)]) (fun _ => []) [2, 3] 0 [] [] ⟨by omega, by omega, rfl⟩ ?_ (by exact sgOk_of (by rfl)) ?_
  · (conv => whnf); (repeat' (first | exact trivial | rfl | (refine nilEq ?_; first | rfl | (simp only [*]; done) | (simp [*]; done) | grind) | apply And.intro | ((first | refine intEq ?_ | refine boolEq ?_ | refine strEq ?_ | refine psEq ?_ | refine nilEq ?_ | refine arrEq ?_); (try simp only [Int.toNat_natCast, nd_eta, sh_eta, it_eta, sto_eta, op_eta, ch_eta, nw_eta, fl_eta, rq_eta, rs_eta, elDef]); first | done | omega | grind | (simp only [*]; done) | (simp [*]; done)))); (all_goals (conv => whnf)); (repeat' (first | exact trivial | rfl | (refine nilEq ?_; first | rfl | (simp only [*]; done) | (simp [*]; done) | grind) | apply And.intro | ((first | refine intEq ?_ | refine boolEq ?_ | refine strEq ?_ | refine psEq ?_ | refine nilEq ?_ | refine arrEq ?_); (try simp only [Int.toNat_natCast, nd_eta, sh_eta, it_eta, sto_eta, op_eta, ch_eta, nw_eta, fl_eta, rq_eta, rs_eta, elDef]); first | done | omega | grind | (simp only [*]; done) | (simp [*]; done)) | ((try simp only [Int.toNat_natCast, nd_eta, sh_eta, it_eta, sto_eta, op_eta, ch_eta, nw_eta, fl_eta, rq_eta, rs_eta, elDef]); first | done | omega | grind | (simp only [*]; done) | (simp [*]; done))))
  rintro i ⟨hi1, hi2, hj⟩
  have hst := fun h1 h2 => cmpK_step (a := a) (b := b) (i := i) h1 h2
  have hen := fun h => cmpK_end (a := a) (b := b) (i := i) hi1 hi2 h
  have hz := @cmpI_zero
  conv => whnf
  repeat' first
    | (refine Cnd.mk (fun h => ?_) (fun h => ?_) <;> (try simp [nd_eta, sh_eta, it_eta, sto_eta, op_eta, ch_eta, nw_eta, fl_eta, rq_eta, rs_eta, elDef, -List.getD_eq_getElem?_getD] at h) <;> conv => whnf)
    | (refine Obl.mk (by first | omega | rfl | exact inK_byte _ | (simp only [inK, Int.toNat_natCast, nd_eta, sh_eta, it_eta, sto_eta, op_eta, ch_eta, nw_eta, fl_eta, rq_eta, rs_eta, elDef, m45, o45, m45] <;> first | omega | grind) | grind [inK, m45, o45, m45]) ?_ <;> conv => whnf)
    | (refine OblG.mk (by conv => whnf
                          repeat (first | (refine Bx.mk ?_) | (intro h; (try simp [nd_eta, sh_eta, it_eta, sto_eta, op_eta, ch_eta, nw_eta, fl_eta, rq_eta, rs_eta, elDef, -List.getD_eq_getElem?_getD] at h); conv => whnf))
                          first | omega | rfl | exact inK_byte _ | (simp only [inK, Int.toNat_natCast, nd_eta, sh_eta, it_eta, sto_eta, op_eta, ch_eta, nw_eta, fl_eta, rq_eta, rs_eta, elDef, m45, o45, m45] <;> first | omega | grind) | grind [inK, m45, o45, m45]) ?_ <;> conv => whnf)
    | (refine Gd.mk (fun h => ?_) <;> (try simp [nd_eta, sh_eta, it_eta, sto_eta, op_eta, ch_eta, nw_eta, fl_eta, rq_eta, rs_eta, elDef, -List.getD_eq_getElem?_getD] at h) <;> conv => whnf)
    | (refine And.intro ?_ ?_ <;> conv => whnf)
    | exact True.intro
    | (intro; conv => whnf)
  all_goals first
    | exact leafI hK (by rw [hj, hen (by omega)])
    | exact leafI hK (by rw [hj, hst (by omega) (by omega)]; simp only [Int.toNat_natCast, elDef, nd_eta]; grind)
    | (have e : cmpK a b i = cmpK a b (i + 1) := by rw [hst (by omega) (by omega)]; grind
       exact ⟨i + 1, [], [], ⟨by omega, by omega, hj.trans e⟩, by omega, by (conv => whnf); (repeat' (first | exact trivial | rfl | (refine nilEq ?_; first | rfl | (simp only [*]; done) | (simp [*]; done) | grind) | apply And.intro | ((first | refine intEq ?_ | refine boolEq ?_ | refine strEq ?_ | refine psEq ?_ | refine nilEq ?_ | refine arrEq ?_); (try simp only [Int.toNat_natCast, nd_eta, sh_eta, it_eta, sto_eta, op_eta, ch_eta, nw_eta, fl_eta, rq_eta, rs_eta, elDef]); first | done | omega | grind | (simp only [*]; done) | (simp [*]; done)))); (all_goals (conv => whnf)); (repeat' (first | exact trivial | rfl | (refine nilEq ?_; first | rfl | (simp only [*]; done) | (simp [*]; done) | grind) | apply And.intro | ((first | refine intEq ?_ | refine boolEq ?_ | refine strEq ?_ | refine psEq ?_ | refine nilEq ?_ | refine arrEq ?_); (try simp only [Int.toNat_natCast, nd_eta, sh_eta, it_eta, sto_eta, op_eta, ch_eta, nw_eta, fl_eta, rq_eta, rs_eta, elDef]); first | done | omega | grind | (simp only [*]; done) | (simp [*]; done)) | ((try simp only [Int.toNat_natCast, nd_eta, sh_eta, it_eta, sto_eta, op_eta, ch_eta, nw_eta, fl_eta, rq_eta, rs_eta, elDef]); first | done | omega | grind | (simp only [*]; done) | (simp [*]; done)))), (by exact sgOk_of (by rfl))⟩)
theorem r45 : ∀ k, (CtrOK Tryd.prog 45 (.pure (Fk45 k)) ∧ Callable Tryd.prog 45) := by
  intro k
  induction k with
  | zero =>
    exact ⟨⟨fun args o v h => by unfold Fk45 at h; split at h <;> cases h; first | trivial | (simp [v45, Scalar, Scalar2, Scalar1, stC, ndC, itC, chC, nwC]), fun args K h => by
        unfold pureC Fk45 at h; split at h
        · rename_i h1; split at h1 <;> cases h1; exact absurd (h.1 _ rfl).1 (Nat.not_lt_zero _)
        · exact h.elim⟩, callable Tryd.func45 rfl (by rfl)⟩
  | succ k ih =>
    refine pure_ok (E := E45 k) (mkE_cons ih (mkE_cons s64 (mkE_cons s65 (mkE_nil tab_ok)))) mix (O := O45) (F := (Fk45 (k + 1))) Tryd.func45 rfl (by rfl) (by kernel_rfl) (fun args o v h => ?_) (fun args o v h => ?_) (fun args o v h hbd hp K hK => ?_)
    · unfold Fk45 at h; split at h <;> cases h; first | trivial | (simp [v45, Scalar, Scalar2, Scalar1, stC, ndC, itC, chC, nwC])
    · unfold Fk45 at h; split at h <;> cases h; exact Nat.le_of_ble_eq_true rfl
    · unfold Fk45 at h; split at h
      case h_2 => cases h
      cases h
      exact a45 k ⟨_, _, _, _, _⟩ ⟨_, _, _, _, _⟩ (hp _ rfl).1 (by exact hbd) (hp _ rfl).2 K hK
theorem s45 : (CtrOK Tryd.prog 45 (.pure F45) ∧ Callable Tryd.prog 45) := by
  refine ⟨⟨fun args o v h => ?_, fun args K h => ?_⟩, (r45 0).2⟩
  · unfold F45 at h; split at h <;> cases h; first | trivial | (simp [v45, Scalar, Scalar2, Scalar1, stC, ndC, itC, chC, nwC])
  · unfold pureC F45 at h; split at h
    · rename_i h1; split at h1 <;> cases h1
      exact (r45 (m45 ⟨_, _, _, _, _⟩ ⟨_, _, _, _, _⟩ + 1)).1.2 _ K ⟨fun p hp => by cases hp; exact ⟨Nat.lt_succ_self _, (h.1 _ rfl)⟩, h.2⟩
    · exact h.elim
end Go.Rs

