import Derived.Test.YtpiclhdjglelhaaDoorCL
import Derived.Test.YtpiclhdjglelhaaDoorCG
import Derived.Test.YtpiclhdjglelhaaDoorMB
import Derived.Test.YtpiclhdjglelhaaDoorDelB
import Derived.Test.YtpiclhdjglelhaaDoorMC
set_option linter.all false
namespace Go.Rs
open Go.Proofs
set_option maxRecDepth 100000
set_option linter.unusedVariables false
set_option linter.unusedSimpArgs false
noncomputable def v122 (a : Int) : AV := .bool false
noncomputable def o122 (a : Int) : Prop := True
noncomputable def F122 : List AV → QR
  | [.int .i64 a] => some (none, v122 a)
  | _ => none
noncomputable def E122 : Ctx := mkE tab []
noncomputable def O122 : Nat → List DI := ordL []
theorem a122 (a : Int) (hb : BdAs [.int .i64 a]) (ho : o122 a) (K : AV → List AV → Prop) (hK : K (v122 a) []) : abody E122 O122 .ps Tryd.f122 (Tryd.f122.body.getD .skip) [.int .i64 a] K := by
  simp only [BdAs, BdA, BdL, BdC, MX, ndC, shC, itC, stC, opC, chC, nwC, flC, rqC, rsC, enc, List.cons_append, List.nil_append, and_true, true_and] at hb
  unfold v122 at hK
  conv => whnf
  repeat' first
    | (refine Cnd.mk (fun h => ?_) (fun h => ?_) <;> (try simp [nd_eta, sh_eta, it_eta, sto_eta, op_eta, ch_eta, nw_eta, fl_eta, rq_eta, rs_eta, elDef, -List.getD_eq_getElem?_getD] at h) <;> conv => whnf)
    | (refine Obl.mk (by first | omega | rfl | exact inK_byte _ | (simp only [inK, Int.toNat_natCast, nd_eta, sh_eta, it_eta, sto_eta, op_eta, ch_eta, nw_eta, fl_eta, rq_eta, rs_eta, elDef] <;> first | omega | grind) | grind [inK]) ?_ <;> conv => whnf)
    | (refine OblG.mk (by conv => whnf
                          repeat (first | (refine Bx.mk ?_) | (intro h; (try simp [nd_eta, sh_eta, it_eta, sto_eta, op_eta, ch_eta, nw_eta, fl_eta, rq_eta, rs_eta, elDef, -List.getD_eq_getElem?_getD] at h); conv => whnf))
                          first | omega | rfl | exact inK_byte _ | (simp only [inK, Int.toNat_natCast, nd_eta, sh_eta, it_eta, sto_eta, op_eta, ch_eta, nw_eta, fl_eta, rq_eta, rs_eta, elDef] <;> first | omega | grind) | grind [inK]) ?_ <;> conv => whnf)
    | (refine Gd.mk (fun h => ?_) <;> (try simp [nd_eta, sh_eta, it_eta, sto_eta, op_eta, ch_eta, nw_eta, fl_eta, rq_eta, rs_eta, elDef, -List.getD_eq_getElem?_getD] at h) <;> conv => whnf)
    | (refine And.intro ?_ ?_ <;> conv => whnf)
    | exact True.intro
    | (intro; conv => whnf)
  all_goals exact leafB hK (by simp)
theorem s122 : (CtrOK Tryd.prog 122 (.pure F122) ∧ Callable Tryd.prog 122) := by
  refine pure_ok (E := E122) (mkE_nil tab_ok) mix (O := O122) (F := F122) Tryd.func122 rfl (by rfl) (by kernel_rfl) (fun args o v h => ?_) (fun args o v h => ?_) (fun args o v h hbd hp K hK => ?_)
  · unfold F122 at h; split at h <;> cases h; first | trivial | (simp [v122, Scalar, Scalar2, Scalar1, stC, ndC, itC, chC, nwC])
  · unfold F122 at h; split at h <;> cases h; exact Nat.le_of_ble_eq_true rfl
  · unfold F122 at h; split at h
    case h_2 => cases h
    cases h
    exact a122 _ (by exact hbd) trivial K hK
noncomputable def v116 (a : Bs) : AV := .bool false
noncomputable def o116 (a : Bs) : Prop := True
noncomputable def F116 : List AV → QR
  | [.str a] => some (none, v116 a)
  | _ => none
noncomputable def E116 : Ctx := mkE tab []
noncomputable def O116 : Nat → List DI := ordL []
theorem a116 (a : Bs) (hb : BdAs [.str a]) (ho : o116 a) (K : AV → List AV → Prop) (hK : K (v116 a) []) : abody E116 O116 .ps Tryd.f116 (Tryd.f116.body.getD .skip) [.str a] K := by
  simp only [BdAs, BdA, BdL, BdC, MX, ndC, shC, itC, stC, opC, chC, nwC, flC, rqC, rsC, enc, List.cons_append, List.nil_append, and_true, true_and] at hb
  unfold v116 at hK
  conv => whnf
  repeat' first
    | (refine Cnd.mk (fun h => ?_) (fun h => ?_) <;> (try simp [nd_eta, sh_eta, it_eta, sto_eta, op_eta, ch_eta, nw_eta, fl_eta, rq_eta, rs_eta, elDef, -List.getD_eq_getElem?_getD] at h) <;> conv => whnf)
    | (refine Obl.mk (by first | omega | rfl | exact inK_byte _ | (simp only [inK, Int.toNat_natCast, nd_eta, sh_eta, it_eta, sto_eta, op_eta, ch_eta, nw_eta, fl_eta, rq_eta, rs_eta, elDef] <;> first | omega | grind) | grind [inK]) ?_ <;> conv => whnf)
    | (refine OblG.mk (by conv => whnf
                          repeat (first | (refine Bx.mk ?_) | (intro h; (try simp [nd_eta, sh_eta, it_eta, sto_eta, op_eta, ch_eta, nw_eta, fl_eta, rq_eta, rs_eta, elDef, -List.getD_eq_getElem?_getD] at h); conv => whnf))
                          first | omega | rfl | exact inK_byte _ | (simp only [inK, Int.toNat_natCast, nd_eta, sh_eta, it_eta, sto_eta, op_eta, ch_eta, nw_eta, fl_eta, rq_eta, rs_eta, elDef] <;> first | omega | grind) | grind [inK]) ?_ <;> conv => whnf)
    | (refine Gd.mk (fun h => ?_) <;> (try simp [nd_eta, sh_eta, it_eta, sto_eta, op_eta, ch_eta, nw_eta, fl_eta, rq_eta, rs_eta, elDef, -List.getD_eq_getElem?_getD] at h) <;> conv => whnf)
    | (refine And.intro ?_ ?_ <;> conv => whnf)
    | exact True.intro
    | (intro; conv => whnf)
  all_goals exact leafB hK (by simp)
theorem s116 : (CtrOK Tryd.prog 116 (.pure F116) ∧ Callable Tryd.prog 116) := by
  refine pure_ok (E := E116) (mkE_nil tab_ok) mix (O := O116) (F := F116) Tryd.func116 rfl (by rfl) (by kernel_rfl) (fun args o v h => ?_) (fun args o v h => ?_) (fun args o v h hbd hp K hK => ?_)
  · unfold F116 at h; split at h <;> cases h; first | trivial | (simp [v116, Scalar, Scalar2, Scalar1, stC, ndC, itC, chC, nwC])
  · unfold F116 at h; split at h <;> cases h; exact Nat.le_of_ble_eq_true rfl
  · unfold F116 at h; split at h
    case h_2 => cases h
    cases h
    exact a116 _ (by exact hbd) trivial K hK
noncomputable def v106 (a : Bs) : AV := .bool false
noncomputable def o106 (a : Bs) : Prop := True
noncomputable def F106 : List AV → QR
  | [.str a] => some (none, v106 a)
  | _ => none
noncomputable def E106 : Ctx := mkE tab []
noncomputable def O106 : Nat → List DI := ordL []
theorem a106 (a : Bs) (hb : BdAs [.str a]) (ho : o106 a) (K : AV → List AV → Prop) (hK : K (v106 a) []) : abody E106 O106 .ps Tryd.f106 (Tryd.f106.body.getD .skip) [.str a] K := by
  simp only [BdAs, BdA, BdL, BdC, MX, ndC, shC, itC, stC, opC, chC, nwC, flC, rqC, rsC, enc, List.cons_append, List.nil_append, and_true, true_and] at hb
  unfold v106 at hK
  conv => whnf
  repeat' first
    | (refine Cnd.mk (fun h => ?_) (fun h => ?_) <;> (try simp [nd_eta, sh_eta, it_eta, sto_eta, op_eta, ch_eta, nw_eta, fl_eta, rq_eta, rs_eta, elDef, -List.getD_eq_getElem?_getD] at h) <;> conv => whnf)
    | (refine Obl.mk (by first | omega | rfl | exact inK_byte _ | (simp only [inK, Int.toNat_natCast, nd_eta, sh_eta, it_eta, sto_eta, op_eta, ch_eta, nw_eta, fl_eta, rq_eta, rs_eta, elDef] <;> first | omega | grind) | grind [inK]) ?_ <;> conv => whnf)
    | (refine OblG.mk (by conv => whnf
                          repeat (first | (refine Bx.mk ?_) | (intro h; (try simp [nd_eta, sh_eta, it_eta, sto_eta, op_eta, ch_eta, nw_eta, fl_eta, rq_eta, rs_eta, elDef, -List.getD_eq_getElem?_getD] at h); conv => whnf))
                          first | omega | rfl | exact inK_byte _ | (simp only [inK, Int.toNat_natCast, nd_eta, sh_eta, it_eta, sto_eta, op_eta, ch_eta, nw_eta, fl_eta, rq_eta, rs_eta, elDef] <;> first | omega | grind) | grind [inK]) ?_ <;> conv => whnf)
    | (refine Gd.mk (fun h => ?_) <;> (try simp [nd_eta, sh_eta, it_eta, sto_eta, op_eta, ch_eta, nw_eta, fl_eta, rq_eta, rs_eta, elDef, -List.getD_eq_getElem?_getD] at h) <;> conv => whnf)
    | (refine And.intro ?_ ?_ <;> conv => whnf)
    | exact True.intro
    | (intro; conv => whnf)
  all_goals exact leafB hK (by simp)
theorem s106 : (CtrOK Tryd.prog 106 (.pure F106) ∧ Callable Tryd.prog 106) := by
  refine pure_ok (E := E106) (mkE_nil tab_ok) mix (O := O106) (F := F106) Tryd.func106 rfl (by rfl) (by kernel_rfl) (fun args o v h => ?_) (fun args o v h => ?_) (fun args o v h hbd hp K hK => ?_)
  · unfold F106 at h; split at h <;> cases h; first | trivial | (simp [v106, Scalar, Scalar2, Scalar1, stC, ndC, itC, chC, nwC])
  · unfold F106 at h; split at h <;> cases h; exact Nat.le_of_ble_eq_true rfl
  · unfold F106 at h; split at h
    case h_2 => cases h
    cases h
    exact a106 _ (by exact hbd) trivial K hK
noncomputable def v105 (a : Bs) (b : Bs) : AV := .bool (ltS a b)
noncomputable def o105 (a : Bs) (b : Bs) : Prop := True
noncomputable def F105 : List AV → QR
  | [.str a, .str b] => some (none, v105 a b)
  | _ => none
noncomputable def E105 : Ctx := mkE tab [(116, .pure F116)]
noncomputable def O105 : Nat → List DI := ordL []
theorem a105 (a : Bs) (b : Bs) (hb : BdAs [.str a, .str b]) (ho : o105 a b) (K : AV → List AV → Prop) (hK : K (v105 a b) []) : abody E105 O105 .ps Tryd.f105 (Tryd.f105.body.getD .skip) [.str a, .str b] K := by
  simp only [BdAs, BdA, BdL, BdC, MX, ndC, shC, itC, stC, opC, chC, nwC, flC, rqC, rsC, enc, List.cons_append, List.nil_append, and_true, true_and] at hb
  unfold v105 at hK
  conv => whnf
  repeat' first
    | (refine Cnd.mk (fun h => ?_) (fun h => ?_) <;> (try simp [nd_eta, sh_eta, it_eta, sto_eta, op_eta, ch_eta, nw_eta, fl_eta, rq_eta, rs_eta, elDef, -List.getD_eq_getElem?_getD] at h) <;> conv => whnf)
    | (refine Obl.mk (by first | omega | rfl | exact inK_byte _ | (simp only [inK, Int.toNat_natCast, nd_eta, sh_eta, it_eta, sto_eta, op_eta, ch_eta, nw_eta, fl_eta, rq_eta, rs_eta, elDef] <;> first | omega | grind) | grind [inK]) ?_ <;> conv => whnf)
    | (refine OblG.mk (by conv => whnf
                          repeat (first | (refine Bx.mk ?_) | (intro h; (try simp [nd_eta, sh_eta, it_eta, sto_eta, op_eta, ch_eta, nw_eta, fl_eta, rq_eta, rs_eta, elDef, -List.getD_eq_getElem?_getD] at h); conv => whnf))
                          first | omega | rfl | exact inK_byte _ | (simp only [inK, Int.toNat_natCast, nd_eta, sh_eta, it_eta, sto_eta, op_eta, ch_eta, nw_eta, fl_eta, rq_eta, rs_eta, elDef] <;> first | omega | grind) | grind [inK]) ?_ <;> conv => whnf)
    | (refine Gd.mk (fun h => ?_) <;> (try simp [nd_eta, sh_eta, it_eta, sto_eta, op_eta, ch_eta, nw_eta, fl_eta, rq_eta, rs_eta, elDef, -List.getD_eq_getElem?_getD] at h) <;> conv => whnf)
    | (refine And.intro ?_ ?_ <;> conv => whnf)
    | exact True.intro
    | (intro; conv => whnf)
  all_goals exact leafB hK (by simp)
theorem s105 : (CtrOK Tryd.prog 105 (.pure F105) ∧ Callable Tryd.prog 105) := by
  refine pure_ok (E := E105) (mkE_cons s116 (mkE_nil tab_ok)) mix (O := O105) (F := F105) Tryd.func105 rfl (by rfl) (by kernel_rfl) (fun args o v h => ?_) (fun args o v h => ?_) (fun args o v h hbd hp K hK => ?_)
  · unfold F105 at h; split at h <;> cases h; first | trivial | (simp [v105, Scalar, Scalar2, Scalar1, stC, ndC, itC, chC, nwC])
  · unfold F105 at h; split at h <;> cases h; exact Nat.le_of_ble_eq_true rfl
  · unfold F105 at h; split at h
    case h_2 => cases h
    cases h
    exact a105 _ _ (by exact hbd) trivial K hK
noncomputable def v112 (a : Int) (b : Int) : AV := .int .i64 (ordI a b)
noncomputable def o112 (a : Int) (b : Int) : Prop := True
noncomputable def F112 : List AV → QR
  | [.int .i64 a, .int .i64 b] => some (none, v112 a b)
  | _ => none
noncomputable def E112 : Ctx := mkE tab [(122, .pure F122)]
noncomputable def O112 : Nat → List DI := ordL []
theorem a112 (a : Int) (b : Int) (hb : BdAs [.int .i64 a, .int .i64 b]) (ho : o112 a b) (K : AV → List AV → Prop) (hK : K (v112 a b) []) : abody E112 O112 .ps Tryd.f112 (Tryd.f112.body.getD .skip) [.int .i64 a, .int .i64 b] K := by
  simp only [BdAs, BdA, BdL, BdC, MX, ndC, shC, itC, stC, opC, chC, nwC, flC, rqC, rsC, enc, List.cons_append, List.nil_append, and_true, true_and] at hb
  unfold v112 at hK
  conv => whnf
  repeat' first
    | (refine Cnd.mk (fun h => ?_) (fun h => ?_) <;> (try simp [nd_eta, sh_eta, it_eta, sto_eta, op_eta, ch_eta, nw_eta, fl_eta, rq_eta, rs_eta, elDef, -List.getD_eq_getElem?_getD] at h) <;> conv => whnf)
    | (refine Obl.mk (by first | omega | rfl | exact inK_byte _ | (simp only [inK, Int.toNat_natCast, nd_eta, sh_eta, it_eta, sto_eta, op_eta, ch_eta, nw_eta, fl_eta, rq_eta, rs_eta, elDef] <;> first | omega | grind) | grind [inK]) ?_ <;> conv => whnf)
    | (refine OblG.mk (by conv => whnf
                          repeat (first | (refine Bx.mk ?_) | (intro h; (try simp [nd_eta, sh_eta, it_eta, sto_eta, op_eta, ch_eta, nw_eta, fl_eta, rq_eta, rs_eta, elDef, -List.getD_eq_getElem?_getD] at h); conv => whnf))
                          first | omega | rfl | exact inK_byte _ | (simp only [inK, Int.toNat_natCast, nd_eta, sh_eta, it_eta, sto_eta, op_eta, ch_eta, nw_eta, fl_eta, rq_eta, rs_eta, elDef] <;> first | omega | grind) | grind [inK]) ?_ <;> conv => whnf)
    | (refine Gd.mk (fun h => ?_) <;> (try simp [nd_eta, sh_eta, it_eta, sto_eta, op_eta, ch_eta, nw_eta, fl_eta, rq_eta, rs_eta, elDef, -List.getD_eq_getElem?_getD] at h) <;> conv => whnf)
    | (refine And.intro ?_ ?_ <;> conv => whnf)
    | exact True.intro
    | (intro; conv => whnf)
  all_goals exact leafI hK (by unfold ordI; split <;> (try split) <;> omega)
theorem s112 : (CtrOK Tryd.prog 112 (.pure F112) ∧ Callable Tryd.prog 112) := by
  refine pure_ok (E := E112) (mkE_cons s122 (mkE_nil tab_ok)) mix (O := O112) (F := F112) Tryd.func112 rfl (by rfl) (by kernel_rfl) (fun args o v h => ?_) (fun args o v h => ?_) (fun args o v h hbd hp K hK => ?_)
  · unfold F112 at h; split at h <;> cases h; first | trivial | (simp [v112, Scalar, Scalar2, Scalar1, stC, ndC, itC, chC, nwC])
  · unfold F112 at h; split at h <;> cases h; exact Nat.le_of_ble_eq_true rfl
  · unfold F112 at h; split at h
    case h_2 => cases h
    cases h
    exact a112 _ _ (by exact hbd) trivial K hK
noncomputable def v83 (l : List Bs) (b : Bs) : AV := .tup [.int .i64 (lbI (nmI l) b), .bool (foundI (nmI l) b)]
noncomputable def o83 (l : List Bs) (b : Bs) : Prop := sortedI (nmI l)
noncomputable def F83 : List AV → QR
  | [.ps .str l, .str b] => some (some (o83 l b), v83 l b)
  | _ => none
noncomputable def E83 : Ctx := mkE tab [(105, .pure F105), (106, .pure F106)]
noncomputable def O83 : Nat → List DI := ordL []
theorem a83 (l : List Bs) (b : Bs) (hb : BdAs [.ps .str l, .str b]) (ho : o83 l b) (K : AV → List AV → Prop) (hK : K (v83 l b) []) : abody E83 O83 .ps Tryd.f83 (Tryd.f83.body.getD .skip) [.ps .str l, .str b] K := by
  simp only [BdAs, BdA, BdL, BdC, MX, ndC, shC, itC, stC, opC, chC, nwC, flC, rqC, rsC, enc, List.cons_append, List.nil_append, and_true, true_and] at hb
  unfold o83 at ho
  unfold v83 at hK
  have hle := lbI_le (nmI l) b
  rw [nmI_len] at hle
  conv => whnf
  repeat' first
    | (refine Cnd.mk (fun h => ?_) (fun h => ?_) <;> (try simp [nd_eta, sh_eta, it_eta, sto_eta, op_eta, ch_eta, nw_eta, fl_eta, rq_eta, rs_eta, elDef, -List.getD_eq_getElem?_getD] at h) <;> conv => whnf)
    | (refine Obl.mk (by first | omega | rfl | exact inK_byte _ | (simp only [inK, Int.toNat_natCast, nd_eta, sh_eta, it_eta, sto_eta, op_eta, ch_eta, nw_eta, fl_eta, rq_eta, rs_eta, elDef] <;> first | omega | grind) | grind [inK]) ?_ <;> conv => whnf)
    | (refine OblG.mk (by conv => whnf
                          repeat (first | (refine Bx.mk ?_) | (intro h; (try simp [nd_eta, sh_eta, it_eta, sto_eta, op_eta, ch_eta, nw_eta, fl_eta, rq_eta, rs_eta, elDef, -List.getD_eq_getElem?_getD] at h); conv => whnf))
                          first | omega | rfl | exact inK_byte _ | (simp only [inK, Int.toNat_natCast, nd_eta, sh_eta, it_eta, sto_eta, op_eta, ch_eta, nw_eta, fl_eta, rq_eta, rs_eta, elDef] <;> first | omega | grind) | grind [inK]) ?_ <;> conv => whnf)
    | (refine Gd.mk (fun h => ?_) <;> (try simp [nd_eta, sh_eta, it_eta, sto_eta, op_eta, ch_eta, nw_eta, fl_eta, rq_eta, rs_eta, elDef, -List.getD_eq_getElem?_getD] at h) <;> conv => whnf)
    | (refine And.intro ?_ ?_ <;> conv => whnf)
    | exact True.intro
    | (intro; conv => whnf)
  refine aloop_intro (Nat × Nat) (fun p => p.1 ≤ lbI (nmI l) b ∧ lbI (nmI l) b ≤ p.2 ∧ p.2 ≤ l.length) (fun p => p.2 - p.1) (fun p => [(7, .int .i64 p.1), (8, .int .i64 p.2)]) (fun _ => []) [] (0, l.length) [] [] ?_ ?_ (by exact sgOk_of (by rfl)) ?_
  · simp; exact hle
  · (conv => whnf); (repeat' (first | exact trivial | rfl | (refine nilEq ?_; first | rfl | (simp only [*]; done) | (simp [*]; done) | grind) | apply And.intro | ((first | refine intEq ?_ | refine boolEq ?_ | refine strEq ?_ | refine psEq ?_ | refine nilEq ?_ | refine arrEq ?_); (try simp only [Int.toNat_natCast, nd_eta, sh_eta, it_eta, sto_eta, op_eta, ch_eta, nw_eta, fl_eta, rq_eta, rs_eta, elDef]); first | done | omega | grind | (simp only [*]; done) | (simp [*]; done)))); (all_goals (conv => whnf)); (repeat' (first | exact trivial | rfl | (refine nilEq ?_; first | rfl | (simp only [*]; done) | (simp [*]; done) | grind) | apply And.intro | ((first | refine intEq ?_ | refine boolEq ?_ | refine strEq ?_ | refine psEq ?_ | refine nilEq ?_ | refine arrEq ?_); (try simp only [Int.toNat_natCast, nd_eta, sh_eta, it_eta, sto_eta, op_eta, ch_eta, nw_eta, fl_eta, rq_eta, rs_eta, elDef]); first | done | omega | grind | (simp only [*]; done) | (simp [*]; done)) | ((try simp only [Int.toNat_natCast, nd_eta, sh_eta, it_eta, sto_eta, op_eta, ch_eta, nw_eta, fl_eta, rq_eta, rs_eta, elDef]); first | done | omega | grind | (simp only [*]; done) | (simp [*]; done))))
  rintro ⟨i, j⟩ ⟨h1, h2, h3⟩
  dsimp only at h1 h2 h3
  conv => whnf
  repeat' first
    | (refine Cnd.mk (fun h => ?_) (fun h => ?_) <;> (try simp [nd_eta, sh_eta, it_eta, sto_eta, op_eta, ch_eta, nw_eta, fl_eta, rq_eta, rs_eta, elDef, -List.getD_eq_getElem?_getD] at h) <;> conv => whnf)
    | (refine Obl.mk (by first | omega | rfl | exact inK_byte _ | (simp only [inK, Int.toNat_natCast, nd_eta, sh_eta, it_eta, sto_eta, op_eta, ch_eta, nw_eta, fl_eta, rq_eta, rs_eta, elDef] <;> first | omega | grind) | grind [inK]) ?_ <;> conv => whnf)
    | (refine OblG.mk (by conv => whnf
                          repeat (first | (refine Bx.mk ?_) | (intro h; (try simp [nd_eta, sh_eta, it_eta, sto_eta, op_eta, ch_eta, nw_eta, fl_eta, rq_eta, rs_eta, elDef, -List.getD_eq_getElem?_getD] at h); conv => whnf))
                          first | omega | rfl | exact inK_byte _ | (simp only [inK, Int.toNat_natCast, nd_eta, sh_eta, it_eta, sto_eta, op_eta, ch_eta, nw_eta, fl_eta, rq_eta, rs_eta, elDef] <;> first | omega | grind) | grind [inK]) ?_ <;> conv => whnf)
    | (refine Gd.mk (fun h => ?_) <;> (try simp [nd_eta, sh_eta, it_eta, sto_eta, op_eta, ch_eta, nw_eta, fl_eta, rq_eta, rs_eta, elDef, -List.getD_eq_getElem?_getD] at h) <;> conv => whnf)
    | (refine And.intro ?_ ?_ <;> conv => whnf)
    | exact True.intro
    | (intro; conv => whnf)
  · have e : ((i + j : Int) / 2).toNat = (i + j) / 2 := by omega
    have hh := lbI_gt (b := b) (h := (i + j) / 2) ho (by rw [nmI_len]; omega) (by rw [nmI_get]; rw [e] at h; exact h)
    exact ⟨((i + j) / 2 + 1, j), [], [], ⟨by simp only; omega, by simp only; omega, by simp only; omega⟩, by simp only; omega, by (conv => whnf); (repeat' (first | exact trivial | rfl | (refine nilEq ?_; first | rfl | (simp only [*]; done) | (simp [*]; done) | grind) | apply And.intro | ((first | refine intEq ?_ | refine boolEq ?_ | refine strEq ?_ | refine psEq ?_ | refine nilEq ?_ | refine arrEq ?_); (try simp only [Int.toNat_natCast, nd_eta, sh_eta, it_eta, sto_eta, op_eta, ch_eta, nw_eta, fl_eta, rq_eta, rs_eta, elDef]); (simp only; omega)))); (all_goals (conv => whnf)); (repeat' (first | exact trivial | rfl | (refine nilEq ?_; first | rfl | (simp only [*]; done) | (simp [*]; done) | grind) | apply And.intro | ((first | refine intEq ?_ | refine boolEq ?_ | refine strEq ?_ | refine psEq ?_ | refine nilEq ?_ | refine arrEq ?_); (try simp only [Int.toNat_natCast, nd_eta, sh_eta, it_eta, sto_eta, op_eta, ch_eta, nw_eta, fl_eta, rq_eta, rs_eta, elDef]); (simp only; omega)) | ((try simp only [Int.toNat_natCast, nd_eta, sh_eta, it_eta, sto_eta, op_eta, ch_eta, nw_eta, fl_eta, rq_eta, rs_eta, elDef]); (simp only; omega)))), (by exact sgOk_of (by rfl))⟩
  · have e : ((i + j : Int) / 2).toNat = (i + j) / 2 := by omega
    have hh := lbI_ge (l := nmI l) (b := b) (h := (i + j) / 2) (by rw [nmI_get]; rw [e] at h; exact h)
    exact ⟨(i, (i + j) / 2), [], [], ⟨by simp only; omega, by simp only; omega, by simp only; omega⟩, by simp only; omega, by (conv => whnf); (repeat' (first | exact trivial | rfl | (refine nilEq ?_; first | rfl | (simp only [*]; done) | (simp [*]; done) | grind) | apply And.intro | ((first | refine intEq ?_ | refine boolEq ?_ | refine strEq ?_ | refine psEq ?_ | refine nilEq ?_ | refine arrEq ?_); (try simp only [Int.toNat_natCast, nd_eta, sh_eta, it_eta, sto_eta, op_eta, ch_eta, nw_eta, fl_eta, rq_eta, rs_eta, elDef]); (simp only; omega)))); (all_goals (conv => whnf)); (repeat' (first | exact trivial | rfl | (refine nilEq ?_; first | rfl | (simp only [*]; done) | (simp [*]; done) | grind) | apply And.intro | ((first | refine intEq ?_ | refine boolEq ?_ | refine strEq ?_ | refine psEq ?_ | refine nilEq ?_ | refine arrEq ?_); (try simp only [Int.toNat_natCast, nd_eta, sh_eta, it_eta, sto_eta, op_eta, ch_eta, nw_eta, fl_eta, rq_eta, rs_eta, elDef]); (simp only; omega)) | ((try simp only [Int.toNat_natCast, nd_eta, sh_eta, it_eta, sto_eta, op_eta, ch_eta, nw_eta, fl_eta, rq_eta, rs_eta, elDef]); (simp only; omega)))), (by exact sgOk_of (by rfl))⟩
  · have e : i = lbI (nmI l) b := by omega
    subst e
    refine leafV hK ?_
    simp only [foundI, Int.toNat_natCast, elDef, nmI_len, nmI_get]
    simp
theorem s83 : (CtrOK Tryd.prog 83 (.pure F83) ∧ Callable Tryd.prog 83) := by
  refine pure_ok (E := E83) (mkE_cons s105 (mkE_cons s106 (mkE_nil tab_ok))) mix (O := O83) (F := F83) Tryd.func83 rfl (by rfl) (by kernel_rfl) (fun args o v h => ?_) (fun args o v h => ?_) (fun args o v h hbd hp K hK => ?_)
  · unfold F83 at h; split at h <;> cases h; first | trivial | (simp [v83, Scalar, Scalar2, Scalar1, stC, ndC, itC, chC, nwC])
  · unfold F83 at h; split at h <;> cases h; exact Nat.le_of_ble_eq_true rfl
  · unfold F83 at h; split at h
    case h_2 => cases h
    cases h
    exact a83 _ _ (by exact hbd) (hp _ rfl) K hK
noncomputable def v127 (n : Int) : AV := .str (decM n.toNat)
noncomputable def o127 (n : Int) : Prop := 0 ≤ n ∧ n < 10
noncomputable def F127 : List AV → QR
  | [.int .i64 n] => some (some (o127 n), v127 n)
  | _ => none
noncomputable def E127 : Ctx := mkE tab []
noncomputable def O127 : Nat → List DI := ordL []
theorem a127 (n : Int) (hb : BdAs [.int .i64 n]) (ho : o127 n) (K : AV → List AV → Prop) (hK : K (v127 n) []) : abody E127 O127 .ps Tryd.f127 (Tryd.f127.body.getD .skip) [.int .i64 n] K := by
  simp only [BdAs, BdA, BdL, BdC, MX, ndC, shC, itC, stC, opC, chC, nwC, flC, rqC, rsC, enc, List.cons_append, List.nil_append, and_true, true_and] at hb
  unfold o127 at ho
  unfold v127 at hK
  conv => whnf
  repeat' first
    | (refine Cnd.mk (fun h => ?_) (fun h => ?_) <;> (try simp [nd_eta, sh_eta, it_eta, sto_eta, op_eta, ch_eta, nw_eta, fl_eta, rq_eta, rs_eta, elDef, -List.getD_eq_getElem?_getD] at h) <;> conv => whnf)
    | (refine Obl.mk (by first | omega | rfl | exact inK_byte _ | (simp only [inK, Int.toNat_natCast, nd_eta, sh_eta, it_eta, sto_eta, op_eta, ch_eta, nw_eta, fl_eta, rq_eta, rs_eta, elDef] <;> first | omega | grind) | grind [inK]) ?_ <;> conv => whnf)
    | (refine OblG.mk (by conv => whnf
                          repeat (first | (refine Bx.mk ?_) | (intro h; (try simp [nd_eta, sh_eta, it_eta, sto_eta, op_eta, ch_eta, nw_eta, fl_eta, rq_eta, rs_eta, elDef, -List.getD_eq_getElem?_getD] at h); conv => whnf))
                          first | omega | rfl | exact inK_byte _ | (simp only [inK, Int.toNat_natCast, nd_eta, sh_eta, it_eta, sto_eta, op_eta, ch_eta, nw_eta, fl_eta, rq_eta, rs_eta, elDef] <;> first | omega | grind) | grind [inK]) ?_ <;> conv => whnf)
    | (refine Gd.mk (fun h => ?_) <;> (try simp [nd_eta, sh_eta, it_eta, sto_eta, op_eta, ch_eta, nw_eta, fl_eta, rq_eta, rs_eta, elDef, -List.getD_eq_getElem?_getD] at h) <;> conv => whnf)
    | (refine And.intro ?_ ?_ <;> conv => whnf)
    | exact True.intro
    | (intro; conv => whnf)
  · refine Obl.mk (by simp; omega) ?_
    conv => whnf
    refine leafS hK ?_
    rw [decM_lt (by omega)]
    obtain ⟨k, rfl⟩ := Int.eq_ofNat_of_zero_le ho.1
    have hk : k < 10 := by omega
    clear hK ho hb h
    rw [show ((k : Int) + 1).toNat = k + 1 by omega, Int.toNat_natCast]
    revert k
    decide
  · exfalso; omega
theorem s127 : (CtrOK Tryd.prog 127 (.pure F127) ∧ Callable Tryd.prog 127) := by
  refine pure_ok (E := E127) (mkE_nil tab_ok) mix (O := O127) (F := F127) Tryd.func127 rfl (by rfl) (by kernel_rfl) (fun args o v h => ?_) (fun args o v h => ?_) (fun args o v h hbd hp K hK => ?_)
  · unfold F127 at h; split at h <;> cases h; first | trivial | (simp [v127, Scalar, Scalar2, Scalar1, stC, ndC, itC, chC, nwC])
  · unfold F127 at h; split at h <;> cases h; exact Nat.le_of_ble_eq_true rfl
  · unfold F127 at h; split at h
    case h_2 => cases h
    cases h
    exact a127 _ (by exact hbd) (hp _ rfl) K hK
noncomputable def v121 (n : Int) : AV := .str (decM n.toNat)
noncomputable def o121 (n : Int) : Prop := 0 ≤ n ∧ n < 10
noncomputable def F121 : List AV → QR
  | [.int .i64 n, .int .i64 10] => some (some (o121 n), v121 n)
  | _ => none
noncomputable def E121 : Ctx := mkE tab [(127, .pure F127)]
noncomputable def O121 : Nat → List DI := ordL []
theorem a121 (n : Int) (hb : BdAs [.int .i64 n, .int .i64 10]) (ho : o121 n) (K : AV → List AV → Prop) (hK : K (v121 n) []) : abody E121 O121 .ps Tryd.f121 (Tryd.f121.body.getD .skip) [.int .i64 n, .int .i64 10] K := by
  simp only [BdAs, BdA, BdL, BdC, MX, ndC, shC, itC, stC, opC, chC, nwC, flC, rqC, rsC, enc, List.cons_append, List.nil_append, and_true, true_and] at hb
  unfold o121 at ho
  unfold v121 at hK
  conv => whnf
  repeat' first
    | (refine Cnd.mk (fun h => ?_) (fun h => ?_) <;> (try simp [nd_eta, sh_eta, it_eta, sto_eta, op_eta, ch_eta, nw_eta, fl_eta, rq_eta, rs_eta, elDef, -List.getD_eq_getElem?_getD] at h) <;> conv => whnf)
    | (refine Obl.mk (by first | omega | rfl | exact inK_byte _ | (simp only [inK, Int.toNat_natCast, nd_eta, sh_eta, it_eta, sto_eta, op_eta, ch_eta, nw_eta, fl_eta, rq_eta, rs_eta, elDef, o127] <;> first | omega | grind) | grind [inK, o127]) ?_ <;> conv => whnf)
    | (refine OblG.mk (by conv => whnf
                          repeat (first | (refine Bx.mk ?_) | (intro h; (try simp [nd_eta, sh_eta, it_eta, sto_eta, op_eta, ch_eta, nw_eta, fl_eta, rq_eta, rs_eta, elDef, -List.getD_eq_getElem?_getD] at h); conv => whnf))
                          first | omega | rfl | exact inK_byte _ | (simp only [inK, Int.toNat_natCast, nd_eta, sh_eta, it_eta, sto_eta, op_eta, ch_eta, nw_eta, fl_eta, rq_eta, rs_eta, elDef, o127] <;> first | omega | grind) | grind [inK, o127]) ?_ <;> conv => whnf)
    | (refine Gd.mk (fun h => ?_) <;> (try simp [nd_eta, sh_eta, it_eta, sto_eta, op_eta, ch_eta, nw_eta, fl_eta, rq_eta, rs_eta, elDef, -List.getD_eq_getElem?_getD] at h) <;> conv => whnf)
    | (refine And.intro ?_ ?_ <;> conv => whnf)
    | exact True.intro
    | (intro; conv => whnf)
  all_goals first | exact hK | (exfalso; omega)
theorem s121 : (CtrOK Tryd.prog 121 (.pure F121) ∧ Callable Tryd.prog 121) := by
  refine pure_ok (E := E121) (mkE_cons s127 (mkE_nil tab_ok)) mix (O := O121) (F := F121) Tryd.func121 rfl (by rfl) (by kernel_rfl) (fun args o v h => ?_) (fun args o v h => ?_) (fun args o v h hbd hp K hK => ?_)
  · unfold F121 at h; split at h <;> cases h; first | trivial | (simp [v121, Scalar, Scalar2, Scalar1, stC, ndC, itC, chC, nwC])
  · unfold F121 at h; split at h <;> cases h; exact Nat.le_of_ble_eq_true rfl
  · unfold F121 at h; split at h
    case h_2 => cases h
    cases h
    exact a121 _ (by exact hbd) (hp _ rfl) K hK
noncomputable def v111 (n : Int) : AV := .str (decM n.toNat)
noncomputable def o111 (n : Int) : Prop := 0 ≤ n ∧ n < 10
noncomputable def F111 : List AV → QR
  | [.int .i64 n] => some (some (o111 n), v111 n)
  | _ => none
noncomputable def E111 : Ctx := mkE tab [(121, .pure F121)]
noncomputable def O111 : Nat → List DI := ordL []
theorem a111 (n : Int) (hb : BdAs [.int .i64 n]) (ho : o111 n) (K : AV → List AV → Prop) (hK : K (v111 n) []) : abody E111 O111 .ps Tryd.f111 (Tryd.f111.body.getD .skip) [.int .i64 n] K := by
  simp only [BdAs, BdA, BdL, BdC, MX, ndC, shC, itC, stC, opC, chC, nwC, flC, rqC, rsC, enc, List.cons_append, List.nil_append, and_true, true_and] at hb
  unfold o111 at ho
  unfold v111 at hK
  conv => whnf
  repeat' first
    | (refine Cnd.mk (fun h => ?_) (fun h => ?_) <;> (try simp [nd_eta, sh_eta, it_eta, sto_eta, op_eta, ch_eta, nw_eta, fl_eta, rq_eta, rs_eta, elDef, -List.getD_eq_getElem?_getD] at h) <;> conv => whnf)
    | (refine Obl.mk (by first | omega | rfl | exact inK_byte _ | (simp only [inK, Int.toNat_natCast, nd_eta, sh_eta, it_eta, sto_eta, op_eta, ch_eta, nw_eta, fl_eta, rq_eta, rs_eta, elDef, o121] <;> first | omega | grind) | grind [inK, o121]) ?_ <;> conv => whnf)
    | (refine OblG.mk (by conv => whnf
                          repeat (first | (refine Bx.mk ?_) | (intro h; (try simp [nd_eta, sh_eta, it_eta, sto_eta, op_eta, ch_eta, nw_eta, fl_eta, rq_eta, rs_eta, elDef, -List.getD_eq_getElem?_getD] at h); conv => whnf))
                          first | omega | rfl | exact inK_byte _ | (simp only [inK, Int.toNat_natCast, nd_eta, sh_eta, it_eta, sto_eta, op_eta, ch_eta, nw_eta, fl_eta, rq_eta, rs_eta, elDef, o121] <;> first | omega | grind) | grind [inK, o121]) ?_ <;> conv => whnf)
    | (refine Gd.mk (fun h => ?_) <;> (try simp [nd_eta, sh_eta, it_eta, sto_eta, op_eta, ch_eta, nw_eta, fl_eta, rq_eta, rs_eta, elDef, -List.getD_eq_getElem?_getD] at h) <;> conv => whnf)
    | (refine And.intro ?_ ?_ <;> conv => whnf)
    | exact True.intro
    | (intro; conv => whnf)
  all_goals exact hK
theorem s111 : (CtrOK Tryd.prog 111 (.pure F111) ∧ Callable Tryd.prog 111) := by
  refine pure_ok (E := E111) (mkE_cons s121 (mkE_nil tab_ok)) mix (O := O111) (F := F111) Tryd.func111 rfl (by rfl) (by kernel_rfl) (fun args o v h => ?_) (fun args o v h => ?_) (fun args o v h hbd hp K hK => ?_)
  · unfold F111 at h; split at h <;> cases h; first | trivial | (simp [v111, Scalar, Scalar2, Scalar1, stC, ndC, itC, chC, nwC])
  · unfold F111 at h; split at h <;> cases h; exact Nat.le_of_ble_eq_true rfl
  · unfold F111 at h; split at h
    case h_2 => cases h
    cases h
    exact a111 _ (by exact hbd) (hp _ rfl) K hK
noncomputable def v97 (n : Int) : AV := .str (decM n.toNat)
noncomputable def o97 (n : Int) : Prop := 0 ≤ n ∧ n < 10
noncomputable def F97 : List AV → QR
  | [.int .i64 n] => some (some (o97 n), v97 n)
  | _ => none
noncomputable def E97 : Ctx := mkE tab [(111, .pure F111)]
noncomputable def O97 : Nat → List DI := ordL []
theorem a97 (n : Int) (hb : BdAs [.int .i64 n]) (ho : o97 n) (K : AV → List AV → Prop) (hK : K (v97 n) []) : abody E97 O97 .ps Tryd.f97 (Tryd.f97.body.getD .skip) [.int .i64 n] K := by
  simp only [BdAs, BdA, BdL, BdC, MX, ndC, shC, itC, stC, opC, chC, nwC, flC, rqC, rsC, enc, List.cons_append, List.nil_append, and_true, true_and] at hb
  unfold o97 at ho
  unfold v97 at hK
  conv => whnf
  repeat' first
    | (refine Cnd.mk (fun h => ?_) (fun h => ?_) <;> (try simp [nd_eta, sh_eta, it_eta, sto_eta, op_eta, ch_eta, nw_eta, fl_eta, rq_eta, rs_eta, elDef, -List.getD_eq_getElem?_getD] at h) <;> conv => whnf)
    | (refine Obl.mk (by first | omega | rfl | exact inK_byte _ | (simp only [inK, Int.toNat_natCast, nd_eta, sh_eta, it_eta, sto_eta, op_eta, ch_eta, nw_eta, fl_eta, rq_eta, rs_eta, elDef, o111] <;> first | omega | grind) | grind [inK, o111]) ?_ <;> conv => whnf)
    | (refine OblG.mk (by conv => whnf
                          repeat (first | (refine Bx.mk ?_) | (intro h; (try simp [nd_eta, sh_eta, it_eta, sto_eta, op_eta, ch_eta, nw_eta, fl_eta, rq_eta, rs_eta, elDef, -List.getD_eq_getElem?_getD] at h); conv => whnf))
                          first | omega | rfl | exact inK_byte _ | (simp only [inK, Int.toNat_natCast, nd_eta, sh_eta, it_eta, sto_eta, op_eta, ch_eta, nw_eta, fl_eta, rq_eta, rs_eta, elDef, o111] <;> first | omega | grind) | grind [inK, o111]) ?_ <;> conv => whnf)
    | (refine Gd.mk (fun h => ?_) <;> (try simp [nd_eta, sh_eta, it_eta, sto_eta, op_eta, ch_eta, nw_eta, fl_eta, rq_eta, rs_eta, elDef, -List.getD_eq_getElem?_getD] at h) <;> conv => whnf)
    | (refine And.intro ?_ ?_ <;> conv => whnf)
    | exact True.intro
    | (intro; conv => whnf)
  all_goals exact hK
theorem s97 : (CtrOK Tryd.prog 97 (.pure F97) ∧ Callable Tryd.prog 97) := by
  refine pure_ok (E := E97) (mkE_cons s111 (mkE_nil tab_ok)) mix (O := O97) (F := F97) Tryd.func97 rfl (by rfl) (by kernel_rfl) (fun args o v h => ?_) (fun args o v h => ?_) (fun args o v h hbd hp K hK => ?_)
  · unfold F97 at h; split at h <;> cases h; first | trivial | (simp [v97, Scalar, Scalar2, Scalar1, stC, ndC, itC, chC, nwC])
  · unfold F97 at h; split at h <;> cases h; exact Nat.le_of_ble_eq_true rfl
  · unfold F97 at h; split at h
    case h_2 => cases h
    cases h
    exact a97 _ (by exact hbd) (hp _ rfl) K hK
noncomputable def v73 (n : Nd) (b : Bs) : AV := .tup [.int .i64 (kidM n b).1, .bool (kidM n b).2]
noncomputable def o73 (n : Nd) (b : Bs) : Prop := okN n
noncomputable def F73 : List AV → QR
  | [.st [.int .i64 n_0, .int .i64 n_1, .str n_2, .ps .str n_3, .ps .node n_4], .str b] => some (some (o73 ⟨n_0, n_1, n_2, n_3, n_4⟩ b), v73 ⟨n_0, n_1, n_2, n_3, n_4⟩ b)
  | _ => none
noncomputable def E73 : Ctx := mkE tab [(83, .pure F83), (97, .pure F97)]
noncomputable def O73 : Nat → List DI := ordL []
theorem a73 (n : Nd) (b : Bs) (hb : BdAs [.st (ndC n), .str b]) (ho : o73 n b) (K : AV → List AV → Prop) (hK : K (v73 n b) []) : abody E73 O73 .ps Tryd.f73 (Tryd.f73.body.getD .skip) [.st (ndC n), .str b] K := by
  simp only [BdAs, BdA, BdL, BdC, MX, ndC, shC, itC, stC, opC, chC, nwC, flC, rqC, rsC, enc, List.cons_append, List.nil_append, and_true, true_and] at hb
  unfold o73 at ho
  unfold v73 at hK
  have h6 := okN_kids ho
  have h5 := fun h => okN_sorted ho h
  conv => whnf
  repeat' first
    | (refine Cnd.mk (fun h => ?_) (fun h => ?_) <;> (try simp [nd_eta, sh_eta, it_eta, sto_eta, op_eta, ch_eta, nw_eta, fl_eta, rq_eta, rs_eta, elDef, -List.getD_eq_getElem?_getD] at h) <;> conv => whnf)
    | (refine Obl.mk (by first | omega | rfl | exact inK_byte _ | (simp only [inK, Int.toNat_natCast, nd_eta, sh_eta, it_eta, sto_eta, op_eta, ch_eta, nw_eta, fl_eta, rq_eta, rs_eta, elDef, o83, o97] <;> first | omega | grind) | grind [inK, o83, o97]) ?_ <;> conv => whnf)
    | (refine OblG.mk (by conv => whnf
                          repeat (first | (refine Bx.mk ?_) | (intro h; (try simp [nd_eta, sh_eta, it_eta, sto_eta, op_eta, ch_eta, nw_eta, fl_eta, rq_eta, rs_eta, elDef, -List.getD_eq_getElem?_getD] at h); conv => whnf))
                          first | omega | rfl | exact inK_byte _ | (simp only [inK, Int.toNat_natCast, nd_eta, sh_eta, it_eta, sto_eta, op_eta, ch_eta, nw_eta, fl_eta, rq_eta, rs_eta, elDef, o83, o97] <;> first | omega | grind) | grind [inK, o83, o97]) ?_ <;> conv => whnf)
    | (refine Gd.mk (fun h => ?_) <;> (try simp [nd_eta, sh_eta, it_eta, sto_eta, op_eta, ch_eta, nw_eta, fl_eta, rq_eta, rs_eta, elDef, -List.getD_eq_getElem?_getD] at h) <;> conv => whnf)
    | (refine And.intro ?_ ?_ <;> conv => whnf)
    | exact True.intro
    | (intro; conv => whnf)
  · exact leafV hK (by simp only [kidM, if_pos h])
  · refine aloop_intro Nat (fun k => k ≤ n.kids.length ∧ ∀ j, j < k → decM j ≠ b) (fun k => n.kids.length - k) (fun k => [(22, .int .i64 k)]) (fun k => []) [] 0 [] [] ?_ ?_ (by exact sgOk_of (by rfl)) ?_
    · first | (simp; done) | (simp; assumption)
    · (conv => whnf); (repeat' (first | exact trivial | rfl | (refine nilEq ?_; first | rfl | (simp only [*]; done) | (simp [*]; done) | grind) | apply And.intro | ((first | refine intEq ?_ | refine boolEq ?_ | refine strEq ?_ | refine psEq ?_ | refine nilEq ?_ | refine arrEq ?_); (try simp only [Int.toNat_natCast, nd_eta, sh_eta, it_eta, sto_eta, op_eta, ch_eta, nw_eta, fl_eta, rq_eta, rs_eta, elDef]); first | done | omega | grind | (simp only [*]; done) | (simp [*]; done)))); (all_goals (conv => whnf)); (repeat' (first | exact trivial | rfl | (refine nilEq ?_; first | rfl | (simp only [*]; done) | (simp [*]; done) | grind) | apply And.intro | ((first | refine intEq ?_ | refine boolEq ?_ | refine strEq ?_ | refine psEq ?_ | refine nilEq ?_ | refine arrEq ?_); (try simp only [Int.toNat_natCast, nd_eta, sh_eta, it_eta, sto_eta, op_eta, ch_eta, nw_eta, fl_eta, rq_eta, rs_eta, elDef]); first | done | omega | grind | (simp only [*]; done) | (simp [*]; done)) | ((try simp only [Int.toNat_natCast, nd_eta, sh_eta, it_eta, sto_eta, op_eta, ch_eta, nw_eta, fl_eta, rq_eta, rs_eta, elDef]); first | done | omega | grind | (simp only [*]; done) | (simp [*]; done))))
    rintro i ⟨hi, hj⟩
    conv => whnf
    repeat' first
      | (refine Cnd.mk (fun h => ?_) (fun h => ?_) <;> (try simp [nd_eta, sh_eta, it_eta, sto_eta, op_eta, ch_eta, nw_eta, fl_eta, rq_eta, rs_eta, elDef, -List.getD_eq_getElem?_getD] at h) <;> conv => whnf)
      | (refine Obl.mk (by first | omega | rfl | exact inK_byte _ | (simp only [inK, Int.toNat_natCast, nd_eta, sh_eta, it_eta, sto_eta, op_eta, ch_eta, nw_eta, fl_eta, rq_eta, rs_eta, elDef, o83, o97] <;> first | omega | grind) | grind [inK, o83, o97]) ?_ <;> conv => whnf)
      | (refine OblG.mk (by conv => whnf
                            repeat (first | (refine Bx.mk ?_) | (intro h; (try simp [nd_eta, sh_eta, it_eta, sto_eta, op_eta, ch_eta, nw_eta, fl_eta, rq_eta, rs_eta, elDef, -List.getD_eq_getElem?_getD] at h); conv => whnf))
                            first | omega | rfl | exact inK_byte _ | (simp only [inK, Int.toNat_natCast, nd_eta, sh_eta, it_eta, sto_eta, op_eta, ch_eta, nw_eta, fl_eta, rq_eta, rs_eta, elDef, o83, o97] <;> first | omega | grind) | grind [inK, o83, o97]) ?_ <;> conv => whnf)
      | (refine Gd.mk (fun h => ?_) <;> (try simp [nd_eta, sh_eta, it_eta, sto_eta, op_eta, ch_eta, nw_eta, fl_eta, rq_eta, rs_eta, elDef, -List.getD_eq_getElem?_getD] at h) <;> conv => whnf)
      | (refine And.intro ?_ ?_ <;> conv => whnf)
      | exact True.intro
      | (intro; conv => whnf)
    · have hp : placeM n b = i := placeM_at (by omega) (hitM_iff.2 (.inr ⟨by assumption, by first | exact of_decide_eq_true h | exact h⟩)) fun j hl => hitM_no ⟨fun h4 => by omega, fun _ => hj j hl⟩
      exact leafV hK (by unfold kidM; rw [if_neg (by omega), if_neg (by omega), hp])
    · have hj' : ∀ j, j < i + 1 → decM j ≠ b := fun j hl => (Nat.lt_or_eq_of_le (Nat.le_of_lt_succ hl)).elim (hj j) (fun e => e ▸ (by first | exact of_decide_eq_false h | exact h))
      exact ⟨i + 1, [], [], ⟨by omega, by exact hj'⟩, by omega, by (conv => whnf); (repeat' (first | exact trivial | rfl | (refine nilEq ?_; first | rfl | (simp only [*]; done) | (simp [*]; done) | grind) | apply And.intro | ((first | refine intEq ?_ | refine boolEq ?_ | refine strEq ?_ | refine psEq ?_ | refine nilEq ?_ | refine arrEq ?_); (try simp only [Int.toNat_natCast, nd_eta, sh_eta, it_eta, sto_eta, op_eta, ch_eta, nw_eta, fl_eta, rq_eta, rs_eta, elDef]); first | done | omega | grind | (simp only [*]; done) | (simp [*]; done)))); (all_goals (conv => whnf)); (repeat' (first | exact trivial | rfl | (refine nilEq ?_; first | rfl | (simp only [*]; done) | (simp [*]; done) | grind) | apply And.intro | ((first | refine intEq ?_ | refine boolEq ?_ | refine strEq ?_ | refine psEq ?_ | refine nilEq ?_ | refine arrEq ?_); (try simp only [Int.toNat_natCast, nd_eta, sh_eta, it_eta, sto_eta, op_eta, ch_eta, nw_eta, fl_eta, rq_eta, rs_eta, elDef]); first | done | omega | grind | (simp only [*]; done) | (simp [*]; done)) | ((try simp only [Int.toNat_natCast, nd_eta, sh_eta, it_eta, sto_eta, op_eta, ch_eta, nw_eta, fl_eta, rq_eta, rs_eta, elDef]); first | done | omega | grind | (simp only [*]; done) | (simp [*]; done)))), (by exact sgOk_of (by rfl))⟩
    · have hp : placeM n b = -1 := placeM_none fun j hl => hitM_no ⟨fun h4 => by omega, fun _ => hj j (by omega)⟩
      exact leafV hK (by unfold kidM; rw [if_neg (by omega), if_pos (by omega)])
  · have hp : placeM n b = -1 := placeM_none fun j hl => hitM_no ⟨fun h4 => by omega, fun h3 => by omega⟩
    exact leafV hK (by unfold kidM; rw [if_neg (by omega), if_pos (by omega)])
theorem s73 : (CtrOK Tryd.prog 73 (.pure F73) ∧ Callable Tryd.prog 73) := by
  refine pure_ok (E := E73) (mkE_cons s83 (mkE_cons s97 (mkE_nil tab_ok))) mix (O := O73) (F := F73) Tryd.func73 rfl (by rfl) (by kernel_rfl) (fun args o v h => ?_) (fun args o v h => ?_) (fun args o v h hbd hp K hK => ?_)
  · unfold F73 at h; split at h <;> cases h; first | trivial | (simp [v73, Scalar, Scalar2, Scalar1, stC, ndC, itC, chC, nwC])
  · unfold F73 at h; split at h <;> cases h; exact Nat.le_of_ble_eq_true rfl
  · unfold F73 at h; split at h
    case h_2 => cases h
    cases h
    exact a73 ⟨_, _, _, _, _⟩ _ (by exact hbd) (hp _ rfl) K hK
noncomputable def v38 (l : List Bs) : AV := .bool (pathM l)
noncomputable def o38 (l : List Bs) : Prop := True
noncomputable def F38 : List AV → QR
  | [.ps .str l] => some (none, v38 l)
  | _ => none
noncomputable def E38 : Ctx := mkE tab [(72, .pure F72)]
noncomputable def O38 : Nat → List DI := ordL []
theorem a38 (l : List Bs) (hb : BdAs [.ps .str l]) (ho : o38 l) (K : AV → List AV → Prop) (hK : K (v38 l) []) : abody E38 O38 .ps Tryd.f38 (Tryd.f38.body.getD .skip) [.ps .str l] K := by
  simp only [BdAs, BdA, BdL, BdC, MX, ndC, shC, itC, stC, opC, chC, nwC, flC, rqC, rsC, enc, List.cons_append, List.nil_append, and_true, true_and] at hb
  unfold v38 at hK
  conv => whnf
  repeat' first
    | (refine Cnd.mk (fun h => ?_) (fun h => ?_) <;> (try simp [nd_eta, sh_eta, it_eta, sto_eta, op_eta, ch_eta, nw_eta, fl_eta, rq_eta, rs_eta, elDef, -List.getD_eq_getElem?_getD] at h) <;> conv => whnf)
    | (refine Obl.mk (by first | omega | rfl | exact inK_byte _ | (simp only [inK, Int.toNat_natCast, nd_eta, sh_eta, it_eta, sto_eta, op_eta, ch_eta, nw_eta, fl_eta, rq_eta, rs_eta, elDef] <;> first | omega | grind) | grind [inK]) ?_ <;> conv => whnf)
    | (refine OblG.mk (by conv => whnf
                          repeat (first | (refine Bx.mk ?_) | (intro h; (try simp [nd_eta, sh_eta, it_eta, sto_eta, op_eta, ch_eta, nw_eta, fl_eta, rq_eta, rs_eta, elDef, -List.getD_eq_getElem?_getD] at h); conv => whnf))
                          first | omega | rfl | exact inK_byte _ | (simp only [inK, Int.toNat_natCast, nd_eta, sh_eta, it_eta, sto_eta, op_eta, ch_eta, nw_eta, fl_eta, rq_eta, rs_eta, elDef] <;> first | omega | grind) | grind [inK]) ?_ <;> conv => whnf)
    | (refine Gd.mk (fun h => ?_) <;> (try simp [nd_eta, sh_eta, it_eta, sto_eta, op_eta, ch_eta, nw_eta, fl_eta, rq_eta, rs_eta, elDef, -List.getD_eq_getElem?_getD] at h) <;> conv => whnf)
    | (refine And.intro ?_ ?_ <;> conv => whnf)
    | exact True.intro
    | (intro; conv => whnf)
  · exact leafB hK (by simp [pathM]; omega)
  refine aloop_intro Nat (fun k => k ≤ l.length ∧ ∀ j, j < k → txtM (l.getD j []) = true) (fun k => l.length - k) (fun k => [(10, .int .i64 k)]) (fun k => []) [] 0 [] [] ?_ ?_ (by exact sgOk_of (by rfl)) ?_
  · first | (simp; done) | (simp; assumption)
  · (conv => whnf); (repeat' (first | exact trivial | rfl | (refine nilEq ?_; first | rfl | (simp only [*]; done) | (simp [*]; done) | grind) | apply And.intro | ((first | refine intEq ?_ | refine boolEq ?_ | refine strEq ?_ | refine psEq ?_ | refine nilEq ?_ | refine arrEq ?_); (try simp only [Int.toNat_natCast, nd_eta, sh_eta, it_eta, sto_eta, op_eta, ch_eta, nw_eta, fl_eta, rq_eta, rs_eta, elDef]); first | done | omega | grind | (simp only [*]; done) | (simp [*]; done)))); (all_goals (conv => whnf)); (repeat' (first | exact trivial | rfl | (refine nilEq ?_; first | rfl | (simp only [*]; done) | (simp [*]; done) | grind) | apply And.intro | ((first | refine intEq ?_ | refine boolEq ?_ | refine strEq ?_ | refine psEq ?_ | refine nilEq ?_ | refine arrEq ?_); (try simp only [Int.toNat_natCast, nd_eta, sh_eta, it_eta, sto_eta, op_eta, ch_eta, nw_eta, fl_eta, rq_eta, rs_eta, elDef]); first | done | omega | grind | (simp only [*]; done) | (simp [*]; done)) | ((try simp only [Int.toNat_natCast, nd_eta, sh_eta, it_eta, sto_eta, op_eta, ch_eta, nw_eta, fl_eta, rq_eta, rs_eta, elDef]); first | done | omega | grind | (simp only [*]; done) | (simp [*]; done))))
  rintro i ⟨hi, hj⟩
  conv => whnf
  repeat' first
    | (refine Cnd.mk (fun h => ?_) (fun h => ?_) <;> (try simp [nd_eta, sh_eta, it_eta, sto_eta, op_eta, ch_eta, nw_eta, fl_eta, rq_eta, rs_eta, elDef, -List.getD_eq_getElem?_getD] at h) <;> conv => whnf)
    | (refine Obl.mk (by first | omega | rfl | exact inK_byte _ | (simp only [inK, Int.toNat_natCast, nd_eta, sh_eta, it_eta, sto_eta, op_eta, ch_eta, nw_eta, fl_eta, rq_eta, rs_eta, elDef] <;> first | omega | grind) | grind [inK]) ?_ <;> conv => whnf)
    | (refine OblG.mk (by conv => whnf
                          repeat (first | (refine Bx.mk ?_) | (intro h; (try simp [nd_eta, sh_eta, it_eta, sto_eta, op_eta, ch_eta, nw_eta, fl_eta, rq_eta, rs_eta, elDef, -List.getD_eq_getElem?_getD] at h); conv => whnf))
                          first | omega | rfl | exact inK_byte _ | (simp only [inK, Int.toNat_natCast, nd_eta, sh_eta, it_eta, sto_eta, op_eta, ch_eta, nw_eta, fl_eta, rq_eta, rs_eta, elDef] <;> first | omega | grind) | grind [inK]) ?_ <;> conv => whnf)
    | (refine Gd.mk (fun h => ?_) <;> (try simp [nd_eta, sh_eta, it_eta, sto_eta, op_eta, ch_eta, nw_eta, fl_eta, rq_eta, rs_eta, elDef, -List.getD_eq_getElem?_getD] at h) <;> conv => whnf)
    | (refine And.intro ?_ ?_ <;> conv => whnf)
    | exact True.intro
    | (intro; conv => whnf)
  · have : l.all txtM = false := allB_no (j := i) (by omega) (by grind)
    exact leafB hK (by simp only [pathM, this, Bool.and_false])
  · exact ⟨i + 1, [], [], ⟨by omega, by grind⟩, by omega, by (conv => whnf); (repeat' (first | exact trivial | rfl | (refine nilEq ?_; first | rfl | (simp only [*]; done) | (simp [*]; done) | grind) | apply And.intro | ((first | refine intEq ?_ | refine boolEq ?_ | refine strEq ?_ | refine psEq ?_ | refine nilEq ?_ | refine arrEq ?_); (try simp only [Int.toNat_natCast, nd_eta, sh_eta, it_eta, sto_eta, op_eta, ch_eta, nw_eta, fl_eta, rq_eta, rs_eta, elDef]); first | done | omega | grind | (simp only [*]; done) | (simp [*]; done)))); (all_goals (conv => whnf)); (repeat' (first | exact trivial | rfl | (refine nilEq ?_; first | rfl | (simp only [*]; done) | (simp [*]; done) | grind) | apply And.intro | ((first | refine intEq ?_ | refine boolEq ?_ | refine strEq ?_ | refine psEq ?_ | refine nilEq ?_ | refine arrEq ?_); (try simp only [Int.toNat_natCast, nd_eta, sh_eta, it_eta, sto_eta, op_eta, ch_eta, nw_eta, fl_eta, rq_eta, rs_eta, elDef]); first | done | omega | grind | (simp only [*]; done) | (simp [*]; done)) | ((try simp only [Int.toNat_natCast, nd_eta, sh_eta, it_eta, sto_eta, op_eta, ch_eta, nw_eta, fl_eta, rq_eta, rs_eta, elDef]); first | done | omega | grind | (simp only [*]; done) | (simp [*]; done)))), (by exact sgOk_of (by rfl))⟩
  · have : l.all txtM = true := (allB_iff _ _).2 (by grind)
    exact leafB hK (by simp only [pathM, this, Bool.and_true]; exact decide_eq_true (by omega))
theorem s38 : (CtrOK Tryd.prog 38 (.pure F38) ∧ Callable Tryd.prog 38) := by
  refine pure_ok (E := E38) (mkE_cons s72 (mkE_nil tab_ok)) mix (O := O38) (F := F38) Tryd.func38 rfl (by rfl) (by kernel_rfl) (fun args o v h => ?_) (fun args o v h => ?_) (fun args o v h hbd hp K hK => ?_)
  · unfold F38 at h; split at h <;> cases h; first | trivial | (simp [v38, Scalar, Scalar2, Scalar1, stC, ndC, itC, chC, nwC])
  · unfold F38 at h; split at h <;> cases h; exact Nat.le_of_ble_eq_true rfl
  · unfold F38 at h; split at h
    case h_2 => cases h
    cases h
    exact a38 _ (by exact hbd) trivial K hK
noncomputable def v114 (a : Int) (b : Int) : AV := .int .i64 (ordI a b)
noncomputable def o114 (a : Int) (b : Int) : Prop := True
noncomputable def F114 : List AV → QR
  | [.int .i64 a, .int .i64 b] => some (none, v114 a b)
  | _ => none
noncomputable def E114 : Ctx := mkE tab [(124, .pure F124)]
noncomputable def O114 : Nat → List DI := ordL []
theorem a114 (a : Int) (b : Int) (hb : BdAs [.int .i64 a, .int .i64 b]) (ho : o114 a b) (K : AV → List AV → Prop) (hK : K (v114 a b) []) : abody E114 O114 .ps Tryd.f114 (Tryd.f114.body.getD .skip) [.int .i64 a, .int .i64 b] K := by
  simp only [BdAs, BdA, BdL, BdC, MX, ndC, shC, itC, stC, opC, chC, nwC, flC, rqC, rsC, enc, List.cons_append, List.nil_append, and_true, true_and] at hb
  unfold v114 at hK
  conv => whnf
  repeat' first
    | (refine Cnd.mk (fun h => ?_) (fun h => ?_) <;> (try simp [nd_eta, sh_eta, it_eta, sto_eta, op_eta, ch_eta, nw_eta, fl_eta, rq_eta, rs_eta, elDef, -List.getD_eq_getElem?_getD] at h) <;> conv => whnf)
    | (refine Obl.mk (by first | omega | rfl | exact inK_byte _ | (simp only [inK, Int.toNat_natCast, nd_eta, sh_eta, it_eta, sto_eta, op_eta, ch_eta, nw_eta, fl_eta, rq_eta, rs_eta, elDef] <;> first | omega | grind) | grind [inK]) ?_ <;> conv => whnf)
    | (refine OblG.mk (by conv => whnf
                          repeat (first | (refine Bx.mk ?_) | (intro h; (try simp [nd_eta, sh_eta, it_eta, sto_eta, op_eta, ch_eta, nw_eta, fl_eta, rq_eta, rs_eta, elDef, -List.getD_eq_getElem?_getD] at h); conv => whnf))
                          first | omega | rfl | exact inK_byte _ | (simp only [inK, Int.toNat_natCast, nd_eta, sh_eta, it_eta, sto_eta, op_eta, ch_eta, nw_eta, fl_eta, rq_eta, rs_eta, elDef] <;> first | omega | grind) | grind [inK]) ?_ <;> conv => whnf)
    | (refine Gd.mk (fun h => ?_) <;> (try simp [nd_eta, sh_eta, it_eta, sto_eta, op_eta, ch_eta, nw_eta, fl_eta, rq_eta, rs_eta, elDef, -List.getD_eq_getElem?_getD] at h) <;> conv => whnf)
    | (refine And.intro ?_ ?_ <;> conv => whnf)
    | exact True.intro
    | (intro; conv => whnf)
  all_goals exact leafI hK (by unfold ordI; grind)
theorem s114 : (CtrOK Tryd.prog 114 (.pure F114) ∧ Callable Tryd.prog 114) := by
  refine pure_ok (E := E114) (mkE_cons s124 (mkE_nil tab_ok)) mix (O := O114) (F := F114) Tryd.func114 rfl (by rfl) (by kernel_rfl) (fun args o v h => ?_) (fun args o v h => ?_) (fun args o v h hbd hp K hK => ?_)
  · unfold F114 at h; split at h <;> cases h; first | trivial | (simp [v114, Scalar, Scalar2, Scalar1, stC, ndC, itC, chC, nwC])
  · unfold F114 at h; split at h <;> cases h; exact Nat.le_of_ble_eq_true rfl
  · unfold F114 at h; split at h
    case h_2 => cases h
    cases h
    exact a114 _ _ (by exact hbd) trivial K hK
noncomputable def v115 (a : Bs) (b : Bs) : AV := .int .i64 (cmpI a b)
noncomputable def o115 (a : Bs) (b : Bs) : Prop := True
noncomputable def F115 : List AV → QR
  | [.str a, .str b] => some (none, v115 a b)
  | _ => none
noncomputable def E115 : Ctx := mkE tab [(124, .pure F124)]
noncomputable def O115 : Nat → List DI := ordL []
theorem a115 (a : Bs) (b : Bs) (hb : BdAs [.str a, .str b]) (ho : o115 a b) (K : AV → List AV → Prop) (hK : K (v115 a b) []) : abody E115 O115 .ps Tryd.f115 (Tryd.f115.body.getD .skip) [.str a, .str b] K := by
  simp only [BdAs, BdA, BdL, BdC, MX, ndC, shC, itC, stC, opC, chC, nwC, flC, rqC, rsC, enc, List.cons_append, List.nil_append, and_true, true_and] at hb
  unfold v115 at hK
  have h1 := fun h : ltS a b = true => ltS_asymm h
  conv => whnf
  repeat' first
    | (refine Cnd.mk (fun h => ?_) (fun h => ?_) <;> (try simp [nd_eta, sh_eta, it_eta, sto_eta, op_eta, ch_eta, nw_eta, fl_eta, rq_eta, rs_eta, elDef, -List.getD_eq_getElem?_getD] at h) <;> conv => whnf)
    | (refine Obl.mk (by first | omega | rfl | exact inK_byte _ | (simp only [inK, Int.toNat_natCast, nd_eta, sh_eta, it_eta, sto_eta, op_eta, ch_eta, nw_eta, fl_eta, rq_eta, rs_eta, elDef] <;> first | omega | grind) | grind [inK]) ?_ <;> conv => whnf)
    | (refine OblG.mk (by conv => whnf
                          repeat (first | (refine Bx.mk ?_) | (intro h; (try simp [nd_eta, sh_eta, it_eta, sto_eta, op_eta, ch_eta, nw_eta, fl_eta, rq_eta, rs_eta, elDef, -List.getD_eq_getElem?_getD] at h); conv => whnf))
                          first | omega | rfl | exact inK_byte _ | (simp only [inK, Int.toNat_natCast, nd_eta, sh_eta, it_eta, sto_eta, op_eta, ch_eta, nw_eta, fl_eta, rq_eta, rs_eta, elDef] <;> first | omega | grind) | grind [inK]) ?_ <;> conv => whnf)
    | (refine Gd.mk (fun h => ?_) <;> (try simp [nd_eta, sh_eta, it_eta, sto_eta, op_eta, ch_eta, nw_eta, fl_eta, rq_eta, rs_eta, elDef, -List.getD_eq_getElem?_getD] at h) <;> conv => whnf)
    | (refine And.intro ?_ ?_ <;> conv => whnf)
    | exact True.intro
    | (intro; conv => whnf)
  all_goals exact leafI hK (by unfold cmpI; grind)
theorem s115 : (CtrOK Tryd.prog 115 (.pure F115) ∧ Callable Tryd.prog 115) := by
  refine pure_ok (E := E115) (mkE_cons s124 (mkE_nil tab_ok)) mix (O := O115) (F := F115) Tryd.func115 rfl (by rfl) (by kernel_rfl) (fun args o v h => ?_) (fun args o v h => ?_) (fun args o v h hbd hp K hK => ?_)
  · unfold F115 at h; split at h <;> cases h; first | trivial | (simp [v115, Scalar, Scalar2, Scalar1, stC, ndC, itC, chC, nwC])
  · unfold F115 at h; split at h <;> cases h; exact Nat.le_of_ble_eq_true rfl
  · unfold F115 at h; split at h
    case h_2 => cases h
    cases h
    exact a115 _ _ (by exact hbd) trivial K hK
noncomputable def v98 (a : Nd) (b : Nd) : AV := .int .i64 (cmpN a b)
noncomputable def o98 (a : Nd) (b : Nd) : Prop := okN a ∧ okN b
noncomputable def m98 (a : Nd) (b : Nd) : Nat := SizeOf.sizeOf a
noncomputable def F98 : List AV → QR
  | [.st [.int .i64 a_0, .int .i64 a_1, .str a_2, .ps .str a_3, .ps .node a_4], .st [.int .i64 b_0, .int .i64 b_1, .str b_2, .ps .str b_3, .ps .node b_4]] => some (some (o98 ⟨a_0, a_1, a_2, a_3, a_4⟩ ⟨b_0, b_1, b_2, b_3, b_4⟩), v98 ⟨a_0, a_1, a_2, a_3, a_4⟩ ⟨b_0, b_1, b_2, b_3, b_4⟩)
  | _ => none
noncomputable def Fk98 (k : Nat) : List AV → QR
  | [.st [.int .i64 a_0, .int .i64 a_1, .str a_2, .ps .str a_3, .ps .node a_4], .st [.int .i64 b_0, .int .i64 b_1, .str b_2, .ps .str b_3, .ps .node b_4]] => some (some (m98 ⟨a_0, a_1, a_2, a_3, a_4⟩ ⟨b_0, b_1, b_2, b_3, b_4⟩ < k ∧ o98 ⟨a_0, a_1, a_2, a_3, a_4⟩ ⟨b_0, b_1, b_2, b_3, b_4⟩), v98 ⟨a_0, a_1, a_2, a_3, a_4⟩ ⟨b_0, b_1, b_2, b_3, b_4⟩)
  | _ => none
noncomputable def E98 (k : Nat) : Ctx := mkE tab [(98, .pure (Fk98 k)), (112, .pure F112), (113, .pure F113)]
noncomputable def O98 : Nat → List DI := ordL [(14, [.q 0, .q 1, .q 2, .q 3, .q 4, .q 5, .q 6, .q 7, .q 8, .q 9, .q 10, .q 11]), (17, [.q 0, .q 1, .q 2, .q 3, .q 4, .q 5, .q 6, .q 7, .q 8, .q 9, .q 10, .q 11])]
theorem a98 (k : Nat) (a : Nd) (b : Nd) (hm : m98 a b < k + 1) (hb : BdAs [.st (ndC a), .st (ndC b)]) (ho : o98 a b) (K : AV → List AV → Prop) (hK : K (v98 a b) []) : abody (E98 k) O98 .ps Tryd.f98 (Tryd.f98.body.getD .skip) [.st (ndC a), .st (ndC b)] K := by
  simp only [BdAs, BdA, BdL, BdC, MX, ndC, shC, itC, stC, opC, chC, nwC, flC, rqC, rsC, enc, List.cons_append, List.nil_append, and_true, true_and] at hb
  unfold o98 at ho
  unfold v98 at hK
  unfold m98 at hm
  rw [cmpN_eq] at hK
  obtain ⟨ha, hb2⟩ := ho
  have hna := (okN_names ha).2.1
  have hnb := (okN_names hb2).2.1
  have hkid : ∀ j, j < a.kids.length → j < b.kids.length → SizeOf.sizeOf (a.kids.getD j default) < k ∧ okN (a.kids.getD j default) ∧ okN (b.kids.getD j default) := fun j hj hj2 => ⟨by have := kid_size hj; omega, okN_kid ha hj, okN_kid hb2 hj2⟩
  conv => whnf
  repeat' first
    | (refine Cnd.mk (fun h => ?_) (fun h => ?_) <;> (try simp [nd_eta, sh_eta, it_eta, sto_eta, op_eta, ch_eta, nw_eta, fl_eta, rq_eta, rs_eta, elDef, -List.getD_eq_getElem?_getD] at h) <;> conv => whnf)
    | (refine Obl.mk (by first | omega | rfl | exact inK_byte _ | (simp only [inK, Int.toNat_natCast, nd_eta, sh_eta, it_eta, sto_eta, op_eta, ch_eta, nw_eta, fl_eta, rq_eta, rs_eta, elDef, m98, o98, m98] <;> first | omega | grind) | grind [inK, m98, o98, m98]) ?_ <;> conv => whnf)
    | (refine OblG.mk (by conv => whnf
                          repeat (first | (refine Bx.mk ?_) | (intro h; (try simp [nd_eta, sh_eta, it_eta, sto_eta, op_eta, ch_eta, nw_eta, fl_eta, rq_eta, rs_eta, elDef, -List.getD_eq_getElem?_getD] at h); conv => whnf))
                          first | omega | rfl | exact inK_byte _ | (simp only [inK, Int.toNat_natCast, nd_eta, sh_eta, it_eta, sto_eta, op_eta, ch_eta, nw_eta, fl_eta, rq_eta, rs_eta, elDef, m98, o98, m98] <;> first | omega | grind) | grind [inK, m98, o98, m98]) ?_ <;> conv => whnf)
    | (refine Gd.mk (fun h => ?_) <;> (try simp [nd_eta, sh_eta, it_eta, sto_eta, op_eta, ch_eta, nw_eta, fl_eta, rq_eta, rs_eta, elDef, -List.getD_eq_getElem?_getD] at h) <;> conv => whnf)
    | (refine And.intro ?_ ?_ <;> conv => whnf)
    | exact True.intro
    | (intro; conv => whnf)
  · exact leafI hK (by rw [if_neg (fun e => h (ordI_zero.2 e))])
  · exact leafI hK (by rw [if_pos (ordI_zero.1 (by assumption)), if_neg (fun e => h (ordI_zero.2 e))])
  · exact leafI hK (by rw [if_pos (ordI_zero.1 (by assumption)), if_pos (ordI_zero.1 (by assumption)), if_neg (fun e => h (cmpI_zero.2 e))])
  have e1 : a.kind = b.kind := ordI_zero.1 (by assumption)
  have e2 : a.num = b.num := ordI_zero.1 (by assumption)
  have e3 : a.text = b.text := cmpI_zero.1 (by assumption)
  rw [if_pos e1, if_pos e2, if_pos e3, ← cmpK_zero] at hK
  refine aloop_intro Nat (fun i => i ≤ a.kids.length ∧ i ≤ b.kids.length ∧ cmpK a b 0 = cmpK a b i) (fun i => a.kids.length - i) (fun i => [(8, .int .i64 i)]) (fun _ => []) [2, 3] 0 [] [] ⟨by omega, by omega, rfl⟩ ?_ (by exact sgOk_of (by rfl)) ?_
  · (conv => whnf); (repeat' (first | exact trivial | rfl | (refine nilEq ?_; first | rfl | (simp only [*]; done) | (simp [*]; done) | grind) | apply And.intro | ((first | refine intEq ?_ | refine boolEq ?_ | refine strEq ?_ | refine psEq ?_ | refine nilEq ?_ | refine arrEq ?_); (try simp only [Int.toNat_natCast, nd_eta, sh_eta, it_eta, sto_eta, op_eta, ch_eta, nw_eta, fl_eta, rq_eta, rs_eta, elDef]); first | done | omega | grind | (simp only [*]; done) | (simp [*]; done)))); (all_goals (conv => whnf)); (repeat' (first | exact trivial | rfl | (refine nilEq ?_; first | rfl | (simp only [*]; done) | (simp [*]; done) | grind) | apply And.intro | ((first | refine intEq ?_ | refine boolEq ?_ | refine strEq ?_ | refine psEq ?_ | refine nilEq ?_ | refine arrEq ?_); (try simp only [Int.toNat_natCast, nd_eta, sh_eta, it_eta, sto_eta, op_eta, ch_eta, nw_eta, fl_eta, rq_eta, rs_eta, elDef]); first | done | omega | grind | (simp only [*]; done) | (simp [*]; done)) | ((try simp only [Int.toNat_natCast, nd_eta, sh_eta, it_eta, sto_eta, op_eta, ch_eta, nw_eta, fl_eta, rq_eta, rs_eta, elDef]); first | done | omega | grind | (simp only [*]; done) | (simp [*]; done))))
  rintro i ⟨hi1, hi2, hj⟩
  have hst := fun h1 h2 => cmpK_step (a := a) (b := b) (i := i) h1 h2
  have hen := fun h => cmpK_end (a := a) (b := b) (i := i) hi1 hi2 h
  have hz := @cmpI_zero
  conv => whnf
  repeat' first
    | (refine Cnd.mk (fun h => ?_) (fun h => ?_) <;> (try simp [nd_eta, sh_eta, it_eta, sto_eta, op_eta, ch_eta, nw_eta, fl_eta, rq_eta, rs_eta, elDef, -List.getD_eq_getElem?_getD] at h) <;> conv => whnf)
    | (refine Obl.mk (by first | omega | rfl | exact inK_byte _ | (simp only [inK, Int.toNat_natCast, nd_eta, sh_eta, it_eta, sto_eta, op_eta, ch_eta, nw_eta, fl_eta, rq_eta, rs_eta, elDef, m98, o98, m98] <;> first | omega | grind) | grind [inK, m98, o98, m98]) ?_ <;> conv => whnf)
    | (refine OblG.mk (by conv => whnf
                          repeat (first | (refine Bx.mk ?_) | (intro h; (try simp [nd_eta, sh_eta, it_eta, sto_eta, op_eta, ch_eta, nw_eta, fl_eta, rq_eta, rs_eta, elDef, -List.getD_eq_getElem?_getD] at h); conv => whnf))
                          first | omega | rfl | exact inK_byte _ | (simp only [inK, Int.toNat_natCast, nd_eta, sh_eta, it_eta, sto_eta, op_eta, ch_eta, nw_eta, fl_eta, rq_eta, rs_eta, elDef, m98, o98, m98] <;> first | omega | grind) | grind [inK, m98, o98, m98]) ?_ <;> conv => whnf)
    | (refine Gd.mk (fun h => ?_) <;> (try simp [nd_eta, sh_eta, it_eta, sto_eta, op_eta, ch_eta, nw_eta, fl_eta, rq_eta, rs_eta, elDef, -List.getD_eq_getElem?_getD] at h) <;> conv => whnf)
    | (refine And.intro ?_ ?_ <;> conv => whnf)
    | exact True.intro
    | (intro; conv => whnf)
  all_goals first
    | exact leafI hK (by rw [hj, hen (by omega)])
    | exact leafI hK (by rw [hj, hst (by omega) (by omega)]; simp only [Int.toNat_natCast, elDef, nd_eta]; grind)
    | (have e : cmpK a b i = cmpK a b (i + 1) := by rw [hst (by omega) (by omega)]; grind
       exact ⟨i + 1, [], [], ⟨by omega, by omega, hj.trans e⟩, by omega, by (conv => whnf); (repeat' (first | exact trivial | rfl | (refine nilEq ?_; first | rfl | (simp only [*]; done) | (simp [*]; done) | grind) | apply And.intro | ((first | refine intEq ?_ | refine boolEq ?_ | refine strEq ?_ | refine psEq ?_ | refine nilEq ?_ | refine arrEq ?_); (try simp only [Int.toNat_natCast, nd_eta, sh_eta, it_eta, sto_eta, op_eta, ch_eta, nw_eta, fl_eta, rq_eta, rs_eta, elDef]); first | done | omega | grind | (simp only [*]; done) | (simp [*]; done)))); (all_goals (conv => whnf)); (repeat' (first | exact trivial | rfl | (refine nilEq ?_; first | rfl | (simp only [*]; done) | (simp [*]; done) | grind) | apply And.intro | ((first | refine intEq ?_ | refine boolEq ?_ | refine strEq ?_ | refine psEq ?_ | refine nilEq ?_ | refine arrEq ?_); (try simp only [Int.toNat_natCast, nd_eta, sh_eta, it_eta, sto_eta, op_eta, ch_eta, nw_eta, fl_eta, rq_eta, rs_eta, elDef]); first | done | omega | grind | (simp only [*]; done) | (simp [*]; done)) | ((try simp only [Int.toNat_natCast, nd_eta, sh_eta, it_eta, sto_eta, op_eta, ch_eta, nw_eta, fl_eta, rq_eta, rs_eta, elDef]); first | done | omega | grind | (simp only [*]; done) | (simp [*]; done)))), (by exact sgOk_of (by rfl))⟩)
theorem r98 : ∀ k, (CtrOK Tryd.prog 98 (.pure (Fk98 k)) ∧ Callable Tryd.prog 98) := by
  intro k
  induction k with
  | zero =>
    exact ⟨⟨fun args o v h => by unfold Fk98 at h; split at h <;> cases h; first | trivial | (simp [v98, Scalar, Scalar2, Scalar1, stC, ndC, itC, chC, nwC]), fun args K h => by
        unfold pureC Fk98 at h; split at h
        · rename_i h1; split at h1 <;> cases h1; exact absurd (h.1 _ rfl).1 (Nat.not_lt_zero _)
        · exact h.elim⟩, callable Tryd.func98 rfl (by rfl)⟩
  | succ k ih =>
    refine pure_ok (E := E98 k) (mkE_cons ih (mkE_cons s112 (mkE_cons s113 (mkE_nil tab_ok)))) mix (O := O98) (F := (Fk98 (k + 1))) Tryd.func98 rfl (by rfl) (by kernel_rfl) (fun args o v h => ?_) (fun args o v h => ?_) (fun args o v h hbd hp K hK => ?_)
    · unfold Fk98 at h; split at h <;> cases h; first | trivial | (simp [v98, Scalar, Scalar2, Scalar1, stC, ndC, itC, chC, nwC])
    · unfold Fk98 at h; split at h <;> cases h; exact Nat.le_of_ble_eq_true rfl
    · unfold Fk98 at h; split at h
      case h_2 => cases h
      cases h
      exact a98 k ⟨_, _, _, _, _⟩ ⟨_, _, _, _, _⟩ (hp _ rfl).1 (by exact hbd) (hp _ rfl).2 K hK
theorem s98 : (CtrOK Tryd.prog 98 (.pure F98) ∧ Callable Tryd.prog 98) := by
  refine ⟨⟨fun args o v h => ?_, fun args K h => ?_⟩, (r98 0).2⟩
  · unfold F98 at h; split at h <;> cases h; first | trivial | (simp [v98, Scalar, Scalar2, Scalar1, stC, ndC, itC, chC, nwC])
  · unfold pureC F98 at h; split at h
    · rename_i h1; split at h1 <;> cases h1
      exact (r98 (m98 ⟨_, _, _, _, _⟩ ⟨_, _, _, _, _⟩ + 1)).1.2 _ K ⟨fun p hp => by cases hp; exact ⟨Nat.lt_succ_self _, (h.1 _ rfl)⟩, h.2⟩
    · exact h.elim
noncomputable def v101 (a : Nd) (b : Nd) : AV := .int .i64 (cmpN a b)
noncomputable def o101 (a : Nd) (b : Nd) : Prop := okN a ∧ okN b
noncomputable def m101 (a : Nd) (b : Nd) : Nat := SizeOf.sizeOf a
noncomputable def F101 : List AV → QR
  | [.st [.int .i64 a_0, .int .i64 a_1, .str a_2, .ps .str a_3, .ps .node a_4], .st [.int .i64 b_0, .int .i64 b_1, .str b_2, .ps .str b_3, .ps .node b_4]] => some (some (o101 ⟨a_0, a_1, a_2, a_3, a_4⟩ ⟨b_0, b_1, b_2, b_3, b_4⟩), v101 ⟨a_0, a_1, a_2, a_3, a_4⟩ ⟨b_0, b_1, b_2, b_3, b_4⟩)
  | _ => none
noncomputable def Fk101 (k : Nat) : List AV → QR
  | [.st [.int .i64 a_0, .int .i64 a_1, .str a_2, .ps .str a_3, .ps .node a_4], .st [.int .i64 b_0, .int .i64 b_1, .str b_2, .ps .str b_3, .ps .node b_4]] => some (some (m101 ⟨a_0, a_1, a_2, a_3, a_4⟩ ⟨b_0, b_1, b_2, b_3, b_4⟩ < k ∧ o101 ⟨a_0, a_1, a_2, a_3, a_4⟩ ⟨b_0, b_1, b_2, b_3, b_4⟩), v101 ⟨a_0, a_1, a_2, a_3, a_4⟩ ⟨b_0, b_1, b_2, b_3, b_4⟩)
  | _ => none
noncomputable def E101 (k : Nat) : Ctx := mkE tab [(101, .pure (Fk101 k)), (114, .pure F114), (115, .pure F115)]
noncomputable def O101 : Nat → List DI := ordL [(10, [.q 0, .q 1, .q 2, .q 3, .q 4, .q 5, .q 6, .q 7, .q 8, .q 9, .q 10, .q 11, .q 12, .q 13, .q 14, .q 15]), (11, [.q 0, .q 1, .q 2, .q 3, .q 4, .q 5, .q 6, .q 7, .q 8, .q 9, .q 10, .q 11]), (12, [.q 0, .q 1, .q 2, .q 3, .q 4, .q 5, .q 6, .q 7, .q 8, .q 9, .q 10, .q 11])]
theorem a101 (k : Nat) (a : Nd) (b : Nd) (hm : m101 a b < k + 1) (hb : BdAs [.st (ndC a), .st (ndC b)]) (ho : o101 a b) (K : AV → List AV → Prop) (hK : K (v101 a b) []) : abody (E101 k) O101 .ps Tryd.f101 (Tryd.f101.body.getD .skip) [.st (ndC a), .st (ndC b)] K := by
  simp only [BdAs, BdA, BdL, BdC, MX, ndC, shC, itC, stC, opC, chC, nwC, flC, rqC, rsC, enc, List.cons_append, List.nil_append, and_true, true_and] at hb
  unfold o101 at ho
  unfold v101 at hK
  unfold m101 at hm
  rw [cmpN_eq] at hK
  obtain ⟨ha, hb2⟩ := ho
  have hna := (okN_names ha).2.1
  have hnb := (okN_names hb2).2.1
  have hkid : ∀ j, j < a.kids.length → j < b.kids.length → SizeOf.sizeOf (a.kids.getD j default) < k ∧ okN (a.kids.getD j default) ∧ okN (b.kids.getD j default) := fun j hj hj2 => ⟨by have := kid_size hj; omega, okN_kid ha hj, okN_kid hb2 hj2⟩
  conv => whnf
  repeat' first
    | (refine Cnd.mk (fun h => ?_) (fun h => ?_) <;> (try simp [nd_eta, sh_eta, it_eta, sto_eta, op_eta, ch_eta, nw_eta, fl_eta, rq_eta, rs_eta, elDef, -List.getD_eq_getElem?_getD] at h) <;> conv => whnf)
    | (refine Obl.mk (by first | omega | rfl | exact inK_byte _ | (simp only [inK, Int.toNat_natCast, nd_eta, sh_eta, it_eta, sto_eta, op_eta, ch_eta, nw_eta, fl_eta, rq_eta, rs_eta, elDef, m101, o101, m101] <;> first | omega | grind) | grind [inK, m101, o101, m101]) ?_ <;> conv => whnf)
    | (refine OblG.mk (by conv => whnf
                          repeat (first | (refine Bx.mk ?_) | (intro h; (try simp [nd_eta, sh_eta, it_eta, sto_eta, op_eta, ch_eta, nw_eta, fl_eta, rq_eta, rs_eta, elDef, -List.getD_eq_getElem?_getD] at h); conv => whnf))
                          first | omega | rfl | exact inK_byte _ | (simp only [inK, Int.toNat_natCast, nd_eta, sh_eta, it_eta, sto_eta, op_eta, ch_eta, nw_eta, fl_eta, rq_eta, rs_eta, elDef, m101, o101, m101] <;> first | omega | grind) | grind [inK, m101, o101, m101]) ?_ <;> conv => whnf)
    | (refine Gd.mk (fun h => ?_) <;> (try simp [nd_eta, sh_eta, it_eta, sto_eta, op_eta, ch_eta, nw_eta, fl_eta, rq_eta, rs_eta, elDef, -List.getD_eq_getElem?_getD] at h) <;> conv => whnf)
    | (refine And.intro ?_ ?_ <;> conv => whnf)
    | exact True.intro
    | (intro; conv => whnf)
  · exact leafI hK (by rw [if_neg (fun e => h (e))])
  · exact leafI hK (by rw [if_pos (by assumption), if_neg (fun e => h (e))])
  · exact leafI hK (by rw [if_pos (by assumption), if_pos (by assumption), if_neg (fun e => h (e))])
  have e1 : a.kind = b.kind := by assumption
  have e2 : a.num = b.num := by assumption
  have e3 : a.text = b.text := by assumption
  rw [if_pos e1, if_pos e2, if_pos e3, ← cmpK_zero] at hK
  refine aloop_intro Nat (fun i => i ≤ a.kids.length ∧ i ≤ b.kids.length ∧ cmpK a b 0 = cmpK a b i) (fun i => a.kids.length - i) (fun i => [(5, .int .i64 i)]) (fun _ => []) [2, 3] 0 [] [] ⟨by omega, by omega, rfl⟩ ?_ (by exact sgOk_of (by rfl)) ?_
  · (conv => whnf); (repeat' (first | exact trivial | rfl | (refine nilEq ?_; first | rfl | (simp only [*]; done) | (simp [*]; done) | grind) | apply And.intro | ((first | refine intEq ?_ | refine boolEq ?_ | refine strEq ?_ | refine psEq ?_ | refine nilEq ?_ | refine arrEq ?_); (try simp only [Int.toNat_natCast, nd_eta, sh_eta, it_eta, sto_eta, op_eta, ch_eta, nw_eta, fl_eta, rq_eta, rs_eta, elDef]); first | done | omega | grind | (simp only [*]; done) | (simp [*]; done)))); (all_goals (conv => whnf)); (repeat' (first | exact trivial | rfl | (refine nilEq ?_; first | rfl | (simp only [*]; done) | (simp [*]; done) | grind) | apply And.intro | ((first | refine intEq ?_ | refine boolEq ?_ | refine strEq ?_ | refine psEq ?_ | refine nilEq ?_ | refine arrEq ?_); (try simp only [Int.toNat_natCast, nd_eta, sh_eta, it_eta, sto_eta, op_eta, ch_eta, nw_eta, fl_eta, rq_eta, rs_eta, elDef]); first | done | omega | grind | (simp only [*]; done) | (simp [*]; done)) | ((try simp only [Int.toNat_natCast, nd_eta, sh_eta, it_eta, sto_eta, op_eta, ch_eta, nw_eta, fl_eta, rq_eta, rs_eta, elDef]); first | done | omega | grind | (simp only [*]; done) | (simp [*]; done))))
  rintro i ⟨hi1, hi2, hj⟩
  have hst := fun h1 h2 => cmpK_step (a := a) (b := b) (i := i) h1 h2
  have hen := fun h => cmpK_end (a := a) (b := b) (i := i) hi1 hi2 h
  have hz := @cmpI_zero
  conv => whnf
  repeat' first
    | (refine Cnd.mk (fun h => ?_) (fun h => ?_) <;> (try simp [nd_eta, sh_eta, it_eta, sto_eta, op_eta, ch_eta, nw_eta, fl_eta, rq_eta, rs_eta, elDef, -List.getD_eq_getElem?_getD] at h) <;> conv => whnf)
    | (refine Obl.mk (by first | omega | rfl | exact inK_byte _ | (simp only [inK, Int.toNat_natCast, nd_eta, sh_eta, it_eta, sto_eta, op_eta, ch_eta, nw_eta, fl_eta, rq_eta, rs_eta, elDef, m101, o101, m101] <;> first | omega | grind) | grind [inK, m101, o101, m101]) ?_ <;> conv => whnf)
    | (refine OblG.mk (by conv => whnf
                          repeat (first | (refine Bx.mk ?_) | (intro h; (try simp [nd_eta, sh_eta, it_eta, sto_eta, op_eta, ch_eta, nw_eta, fl_eta, rq_eta, rs_eta, elDef, -List.getD_eq_getElem?_getD] at h); conv => whnf))
                          first | omega | rfl | exact inK_byte _ | (simp only [inK, Int.toNat_natCast, nd_eta, sh_eta, it_eta, sto_eta, op_eta, ch_eta, nw_eta, fl_eta, rq_eta, rs_eta, elDef, m101, o101, m101] <;> first | omega | grind) | grind [inK, m101, o101, m101]) ?_ <;> conv => whnf)
    | (refine Gd.mk (fun h => ?_) <;> (try simp [nd_eta, sh_eta, it_eta, sto_eta, op_eta, ch_eta, nw_eta, fl_eta, rq_eta, rs_eta, elDef, -List.getD_eq_getElem?_getD] at h) <;> conv => whnf)
    | (refine And.intro ?_ ?_ <;> conv => whnf)
    | exact True.intro
    | (intro; conv => whnf)
  all_goals first
    | exact leafI hK (by rw [hj, hen (by omega)])
    | exact leafI hK (by rw [hj, hst (by omega) (by omega)]; simp only [Int.toNat_natCast, elDef, nd_eta]; grind)
    | (have e : cmpK a b i = cmpK a b (i + 1) := by rw [hst (by omega) (by omega)]; grind
       exact ⟨i + 1, [], [], ⟨by omega, by omega, hj.trans e⟩, by omega, by (conv => whnf); (repeat' (first | exact trivial | rfl | (refine nilEq ?_; first | rfl | (simp only [*]; done) | (simp [*]; done) | grind) | apply And.intro | ((first | refine intEq ?_ | refine boolEq ?_ | refine strEq ?_ | refine psEq ?_ | refine nilEq ?_ | refine arrEq ?_); (try simp only [Int.toNat_natCast, nd_eta, sh_eta, it_eta, sto_eta, op_eta, ch_eta, nw_eta, fl_eta, rq_eta, rs_eta, elDef]); first | done | omega | grind | (simp only [*]; done) | (simp [*]; done)))); (all_goals (conv => whnf)); (repeat' (first | exact trivial | rfl | (refine nilEq ?_; first | rfl | (simp only [*]; done) | (simp [*]; done) | grind) | apply And.intro | ((first | refine intEq ?_ | refine boolEq ?_ | refine strEq ?_ | refine psEq ?_ | refine nilEq ?_ | refine arrEq ?_); (try simp only [Int.toNat_natCast, nd_eta, sh_eta, it_eta, sto_eta, op_eta, ch_eta, nw_eta, fl_eta, rq_eta, rs_eta, elDef]); first | done | omega | grind | (simp only [*]; done) | (simp [*]; done)) | ((try simp only [Int.toNat_natCast, nd_eta, sh_eta, it_eta, sto_eta, op_eta, ch_eta, nw_eta, fl_eta, rq_eta, rs_eta, elDef]); first | done | omega | grind | (simp only [*]; done) | (simp [*]; done)))), (by exact sgOk_of (by rfl))⟩)
theorem r101 : ∀ k, (CtrOK Tryd.prog 101 (.pure (Fk101 k)) ∧ Callable Tryd.prog 101) := by
  intro k
  induction k with
  | zero =>
    exact ⟨⟨fun args o v h => by unfold Fk101 at h; split at h <;> cases h; first | trivial | (simp [v101, Scalar, Scalar2, Scalar1, stC, ndC, itC, chC, nwC]), fun args K h => by
        unfold pureC Fk101 at h; split at h
        · rename_i h1; split at h1 <;> cases h1; exact absurd (h.1 _ rfl).1 (Nat.not_lt_zero _)
        · exact h.elim⟩, callable Tryd.func101 rfl (by rfl)⟩
  | succ k ih =>
    refine pure_ok (E := E101 k) (mkE_cons ih (mkE_cons s114 (mkE_cons s115 (mkE_nil tab_ok)))) mix (O := O101) (F := (Fk101 (k + 1))) Tryd.func101 rfl (by rfl) (by kernel_rfl) (fun args o v h => ?_) (fun args o v h => ?_) (fun args o v h hbd hp K hK => ?_)
    · unfold Fk101 at h; split at h <;> cases h; first | trivial | (simp [v101, Scalar, Scalar2, Scalar1, stC, ndC, itC, chC, nwC])
    · unfold Fk101 at h; split at h <;> cases h; exact Nat.le_of_ble_eq_true rfl
    · unfold Fk101 at h; split at h
      case h_2 => cases h
      cases h
      exact a101 k ⟨_, _, _, _, _⟩ ⟨_, _, _, _, _⟩ (hp _ rfl).1 (by exact hbd) (hp _ rfl).2 K hK
theorem s101 : (CtrOK Tryd.prog 101 (.pure F101) ∧ Callable Tryd.prog 101) := by
  refine ⟨⟨fun args o v h => ?_, fun args K h => ?_⟩, (r101 0).2⟩
  · unfold F101 at h; split at h <;> cases h; first | trivial | (simp [v101, Scalar, Scalar2, Scalar1, stC, ndC, itC, chC, nwC])
  · unfold pureC F101 at h; split at h
    · rename_i h1; split at h1 <;> cases h1
      exact (r101 (m101 ⟨_, _, _, _, _⟩ ⟨_, _, _, _, _⟩ + 1)).1.2 _ K ⟨fun p hp => by cases hp; exact ⟨Nat.lt_succ_self _, (h.1 _ rfl)⟩, h.2⟩
    · exact h.elim
end Go.Rs

