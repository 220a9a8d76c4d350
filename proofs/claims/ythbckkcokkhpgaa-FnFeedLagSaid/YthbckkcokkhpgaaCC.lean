import Derived.Test.YthbckkcokkhpgaaCB
import Derived.Test.YthbckkcokkhpgaaM3
set_option linter.all false
namespace Go.Rs
open Go.Proofs
set_option maxRecDepth 100000
set_option linter.unusedVariables false
set_option linter.unusedSimpArgs false
noncomputable def v63 (n : Nd) (lvl : Int) : AV := .tup [.int .i64 (if shapeM (6 - lvl).toNat n then (countM n : Int) else 0), .int .i64 (if shapeM (6 - lvl).toNat n then (depthM n : Int) else 0), .bool (shapeM (6 - lvl).toNat n)]
noncomputable def o63 (n : Nd) (lvl : Int) : Prop := 1 ≤ lvl ∧ lvl ≤ 6
noncomputable def m63 (n : Nd) (lvl : Int) : Nat := SizeOf.sizeOf n
noncomputable def F63 : List AV → QR
  | [.st [.int .i64 n_0, .int .i64 n_1, .str n_2, .ps .str n_3, .ps .node n_4], .int .i64 lvl] => some (some (o63 ⟨n_0, n_1, n_2, n_3, n_4⟩ lvl), v63 ⟨n_0, n_1, n_2, n_3, n_4⟩ lvl)
  | _ => none
noncomputable def Fk63 (k : Nat) : List AV → QR
  | [.st [.int .i64 n_0, .int .i64 n_1, .str n_2, .ps .str n_3, .ps .node n_4], .int .i64 lvl] => some (some (m63 ⟨n_0, n_1, n_2, n_3, n_4⟩ lvl < k ∧ o63 ⟨n_0, n_1, n_2, n_3, n_4⟩ lvl), v63 ⟨n_0, n_1, n_2, n_3, n_4⟩ lvl)
  | _ => none
noncomputable def E63 (k : Nat) : Ctx := mkE tab [(63, .pure (Fk63 k)), (75, .pure F75)]
noncomputable def O63 : Nat → List DI := ordL []
theorem a63 (k : Nat) (n : Nd) (lvl : Int) (hm : m63 n lvl < k + 1) (hb : BdAs [.st (ndC n), .int .i64 lvl]) (ho : o63 n lvl) (K : AV → List AV → Prop) (hK : K (v63 n lvl) []) : abody (E63 k) O63 .ps Try.f63 (Try.f63.body.getD .skip) [.st (ndC n), .int .i64 lvl] K := by
  simp only [BdAs, BdA, BdL, BdC, MX, ndC, shC, itC, stC, opC, chC, nwC, flC, rqC, rsC, enc, List.cons_append, List.nil_append, and_true, true_and] at hb
  unfold o63 at ho
  unfold v63 at hK
  unfold m63 at hm
  have hkid : ∀ j, j < n.kids.length → SizeOf.sizeOf (n.kids.getD j default) < k := fun j hj => by have := kid_size hj; omega
  have h0 : lvl = 6 → shapeM (6 - lvl).toNat n = false := fun e => by subst e; rfl
  have h1 : lvl < 6 → shapeM (6 - lvl).toNat n = (partsM n && n.kids.all (shapeM ((6 - lvl).toNat - 1))) := fun h => shapeM_pos n (by omega)
  have h2 : (6 - (lvl + 1)).toNat = (6 - lvl).toNat - 1 := by omega
  conv => whnf
  repeat' first
    | (refine Cnd.mk (fun h => ?_) (fun h => ?_) <;> (try simp [nd_eta, sh_eta, it_eta, sto_eta, op_eta, ch_eta, nw_eta, fl_eta, rq_eta, rs_eta, elDef, -List.getD_eq_getElem?_getD] at h) <;> conv => whnf)
    | (refine Obl.mk (by first | omega | rfl | exact inK_byte _ | (simp only [inK, Int.toNat_natCast, nd_eta, sh_eta, it_eta, sto_eta, op_eta, ch_eta, nw_eta, fl_eta, rq_eta, rs_eta, elDef, m63, o63, m63] <;> first | omega | grind) | grind [inK, m63, o63, m63]) ?_ <;> conv => whnf)
    | (refine OblG.mk (by conv => whnf
                          repeat (first | (refine Bx.mk ?_) | (intro h; (try simp [nd_eta, sh_eta, it_eta, sto_eta, op_eta, ch_eta, nw_eta, fl_eta, rq_eta, rs_eta, elDef, -List.getD_eq_getElem?_getD] at h); conv => whnf))
                          first | omega | rfl | exact inK_byte _ | (simp only [inK, Int.toNat_natCast, nd_eta, sh_eta, it_eta, sto_eta, op_eta, ch_eta, nw_eta, fl_eta, rq_eta, rs_eta, elDef, m63, o63, m63] <;> first | omega | grind) | grind [inK, m63, o63, m63]) ?_ <;> conv => whnf)
    | (refine Gd.mk (fun h => ?_) <;> (try simp [nd_eta, sh_eta, it_eta, sto_eta, op_eta, ch_eta, nw_eta, fl_eta, rq_eta, rs_eta, elDef, -List.getD_eq_getElem?_getD] at h) <;> conv => whnf)
    | (refine And.intro ?_ ?_ <;> conv => whnf)
    | exact True.intro
    | (intro; conv => whnf)
  · have : shapeM (6 - lvl).toNat n = false := by grind
    exact leafV hK (by simp [this])
  have hp := partsM_kids h.2
  have hc : ∀ x, shapeM ((6 - lvl).toNat - 1) x = true → countM x ≤ 16807 := fun x hx => okN_count ⟨_, by omega, hx⟩
  have hd : ∀ x, shapeM ((6 - lvl).toNat - 1) x = true → depthM x ≤ 5 := fun x hx => Nat.le_trans (depth_le hx) (by omega)
  refine aloop_intro Nat (fun k => k ≤ n.kids.length ∧ ∀ j, j < k → shapeM ((6 - lvl).toNat - 1) (n.kids.getD j default) = true) (fun k => n.kids.length - k) (fun k => [(22, .int .i64 k), (4, .int .i64 (1 + sumN countM (n.kids.take k) : Nat)), (5, .int .i64 (1 + maxN depthM (n.kids.take k) : Nat))]) (fun k => []) [2] 0 [] [] ?_ ?_ (by exact sgOk_of (by rfl)) ?_
  · first | (simp; done) | (simp; assumption)
  · (conv => whnf); (repeat' (first | exact trivial | rfl | (refine nilEq ?_; first | rfl | (simp only [*]; done) | (simp [*]; done) | grind) | apply And.intro | ((first | refine intEq ?_ | refine boolEq ?_ | refine strEq ?_ | refine psEq ?_ | refine nilEq ?_ | refine arrEq ?_); (try simp only [Int.toNat_natCast, nd_eta, sh_eta, it_eta, sto_eta, op_eta, ch_eta, nw_eta, fl_eta, rq_eta, rs_eta, elDef]); first | done | omega | grind | (simp only [*]; done) | (simp [*]; done)))); (all_goals (conv => whnf)); (repeat' (first | exact trivial | rfl | (refine nilEq ?_; first | rfl | (simp only [*]; done) | (simp [*]; done) | grind) | apply And.intro | ((first | refine intEq ?_ | refine boolEq ?_ | refine strEq ?_ | refine psEq ?_ | refine nilEq ?_ | refine arrEq ?_); (try simp only [Int.toNat_natCast, nd_eta, sh_eta, it_eta, sto_eta, op_eta, ch_eta, nw_eta, fl_eta, rq_eta, rs_eta, elDef]); first | done | omega | grind | (simp only [*]; done) | (simp [*]; done)) | ((try simp only [Int.toNat_natCast, nd_eta, sh_eta, it_eta, sto_eta, op_eta, ch_eta, nw_eta, fl_eta, rq_eta, rs_eta, elDef]); first | done | omega | grind | (simp only [*]; done) | (simp [*]; done))))
  rintro i ⟨hi, hj⟩
  conv => whnf
  have hsum : sumN countM (n.kids.take i) ≤ i * 16807 := sumN_take_bound hi fun j h => hc _ (hj j h)
  have hmax : maxN depthM (n.kids.take i) ≤ 5 := maxN_take_bound hi fun j h => hd _ (hj j h)
  have hst := fun h => sumN_take (f := countM) (l := n.kids) (k := i) h
  have hmt := fun h => maxN_take (f := depthM) (l := n.kids) (k := i) h
  have hci := hc (n.kids.getD i default)
  have hdi := hd (n.kids.getD i default)
  repeat' first
    | (refine Cnd.mk (fun h => ?_) (fun h => ?_) <;> (try simp [nd_eta, sh_eta, it_eta, sto_eta, op_eta, ch_eta, nw_eta, fl_eta, rq_eta, rs_eta, elDef, -List.getD_eq_getElem?_getD] at h) <;> conv => whnf)
    | (refine Obl.mk (by first | omega | rfl | exact inK_byte _ | (simp only [inK, Int.toNat_natCast, nd_eta, sh_eta, it_eta, sto_eta, op_eta, ch_eta, nw_eta, fl_eta, rq_eta, rs_eta, elDef, m63, o63, m63] <;> first | omega | grind) | grind [inK, m63, o63, m63]) ?_ <;> conv => whnf)
    | (refine OblG.mk (by conv => whnf
                          repeat (first | (refine Bx.mk ?_) | (intro h; (try simp [nd_eta, sh_eta, it_eta, sto_eta, op_eta, ch_eta, nw_eta, fl_eta, rq_eta, rs_eta, elDef, -List.getD_eq_getElem?_getD] at h); conv => whnf))
                          first | omega | rfl | exact inK_byte _ | (simp only [inK, Int.toNat_natCast, nd_eta, sh_eta, it_eta, sto_eta, op_eta, ch_eta, nw_eta, fl_eta, rq_eta, rs_eta, elDef, m63, o63, m63] <;> first | omega | grind) | grind [inK, m63, o63, m63]) ?_ <;> conv => whnf)
    | (refine Gd.mk (fun h => ?_) <;> (try simp [nd_eta, sh_eta, it_eta, sto_eta, op_eta, ch_eta, nw_eta, fl_eta, rq_eta, rs_eta, elDef, -List.getD_eq_getElem?_getD] at h) <;> conv => whnf)
    | (refine And.intro ?_ ?_ <;> conv => whnf)
    | exact True.intro
    | (intro; conv => whnf)
  · have hn : n.kids.all (shapeM ((6 - lvl).toNat - 1)) = false := allN_no (j := i) (by omega) (by rw [← h2]; assumption)
    have : shapeM (6 - lvl).toNat n = false := by grind
    exact leafV hK (by simp [this])
  · have h9 : shapeM ((6 - lvl).toNat - 1) (n.kids.getD i default) = true := by rw [← h2]; assumption
    refine ⟨i + 1, [], [], ⟨by omega, by grind⟩, by omega, ?_, (by exact sgOk_of (by rfl))⟩
    (conv => whnf); (repeat' (first | exact trivial | rfl | (refine nilEq ?_; first | rfl | (simp only [*]; done) | (simp [*]; done) | grind) | apply And.intro | ((first | refine intEq ?_ | refine boolEq ?_ | refine strEq ?_ | refine psEq ?_ | refine nilEq ?_ | refine arrEq ?_); (try simp only [Int.toNat_natCast, nd_eta, sh_eta, it_eta, sto_eta, op_eta, ch_eta, nw_eta, fl_eta, rq_eta, rs_eta, elDef]); grind))); (all_goals (conv => whnf)); (repeat' (first | exact trivial | rfl | (refine nilEq ?_; first | rfl | (simp only [*]; done) | (simp [*]; done) | grind) | apply And.intro | ((first | refine intEq ?_ | refine boolEq ?_ | refine strEq ?_ | refine psEq ?_ | refine nilEq ?_ | refine arrEq ?_); (try simp only [Int.toNat_natCast, nd_eta, sh_eta, it_eta, sto_eta, op_eta, ch_eta, nw_eta, fl_eta, rq_eta, rs_eta, elDef]); grind) | ((try simp only [Int.toNat_natCast, nd_eta, sh_eta, it_eta, sto_eta, op_eta, ch_eta, nw_eta, fl_eta, rq_eta, rs_eta, elDef]); grind)))
  · have hn : n.kids.all (shapeM ((6 - lvl).toNat - 1)) = true := (allN_iff _ _).2 (by grind)
    have : shapeM (6 - lvl).toNat n = true := by grind
    have e : n.kids.take i = n.kids := List.take_of_length_le (by omega)
    exact leafV hK (by simp only [this, if_true, countM_eq, depthM_eq, e])
theorem r63 : ∀ k, (CtrOK Try.prog 63 (.pure (Fk63 k)) ∧ Callable Try.prog 63) := by
  intro k
  induction k with
  | zero =>
    exact ⟨⟨fun args o v h => by unfold Fk63 at h; split at h <;> cases h; first | trivial | (simp [v63, Scalar, Scalar1]), fun args K h => by
        unfold pureC Fk63 at h; split at h
        · rename_i h1; split at h1 <;> cases h1; exact absurd (h.1 _ rfl).1 (Nat.not_lt_zero _)
        · exact h.elim⟩, callable Try.func63 rfl (by rfl)⟩
  | succ k ih =>
    refine pure_ok (E := E63 k) (mkE_cons ih (mkE_cons s75 (mkE_nil tab_ok))) mix (O := O63) (F := (Fk63 (k + 1))) Try.func63 rfl (by rfl) (by kernel_rfl) (fun args o v h => ?_) (fun args o v h => ?_) (fun args o v h hbd hp K hK => ?_)
    · unfold Fk63 at h; split at h <;> cases h; first | trivial | (simp [v63, Scalar, Scalar1])
    · unfold Fk63 at h; split at h <;> cases h; exact Nat.le_of_ble_eq_true rfl
    · unfold Fk63 at h; split at h
      case h_2 => cases h
      cases h
      exact a63 k ⟨_, _, _, _, _⟩ _ (hp _ rfl).1 (by exact hbd) (hp _ rfl).2 K hK
theorem s63 : (CtrOK Try.prog 63 (.pure F63) ∧ Callable Try.prog 63) := by
  refine ⟨⟨fun args o v h => ?_, fun args K h => ?_⟩, (r63 0).2⟩
  · unfold F63 at h; split at h <;> cases h; first | trivial | (simp [v63, Scalar, Scalar1])
  · unfold pureC F63 at h; split at h
    · rename_i h1; split at h1 <;> cases h1
      exact (r63 (m63 ⟨_, _, _, _, _⟩ _ + 1)).1.2 _ K ⟨fun p hp => by cases hp; exact ⟨Nat.lt_succ_self _, (h.1 _ rfl)⟩, h.2⟩
    · exact h.elim
noncomputable def v45 (b : Bs) : AV := .bool (nameM b)
noncomputable def o45 (b : Bs) : Prop := True
noncomputable def F45 : List AV → QR
  | [.str b] => some (none, v45 b)
  | _ => none
noncomputable def E45 : Ctx := mkE tab []
noncomputable def O45 : Nat → List DI := ordL []
theorem a45 (b : Bs) (hb : BdAs [.str b]) (ho : o45 b) (K : AV → List AV → Prop) (hK : K (v45 b) []) : abody E45 O45 .ps Try.f45 (Try.f45.body.getD .skip) [.str b] K := by
  simp only [BdAs, BdA, BdL, BdC, MX, ndC, shC, itC, stC, opC, chC, nwC, flC, rqC, rsC, enc, List.cons_append, List.nil_append, and_true, true_and] at hb
  unfold v45 at hK
  conv => whnf
  repeat' first
    | (refine Cnd.mk (fun h => ?_) (fun h => ?_) <;> (try simp [nd_eta, sh_eta, it_eta, sto_eta, op_eta, ch_eta, nw_eta, fl_eta, rq_eta, rs_eta, elDef, -List.getD_eq_getElem?_getD] at h) <;> conv => whnf)
    | (refine Obl.mk (by first | omega | rfl | exact inK_byte _ | (simp only [inK, Int.toNat_natCast, nd_eta, sh_eta, it_eta, sto_eta, op_eta, ch_eta, nw_eta, fl_eta, rq_eta, rs_eta, elDef] <;> first | omega | grind) | grind [inK]) ?_ <;> conv => whnf)
    | (refine OblG.mk (by conv => whnf
                          repeat (first | (refine Bx.mk ?_) | (intro h; (try simp [nd_eta, sh_eta, it_eta, sto_eta, op_eta, ch_eta, nw_eta, fl_eta, rq_eta, rs_eta, elDef, -List.getD_eq_getElem?_getD] at h); conv => whnf))
                          first | omega | rfl | exact inK_byte _ | (simp only [inK, Int.toNat_natCast, nd_eta, sh_eta, it_eta, sto_eta, op_eta, ch_eta, nw_eta, fl_eta, rq_eta, rs_eta, elDef] <;> first | omega | grind) | grind [inK]) ?_ <;> conv => whnf)
    | (refine Gd.mk (fun h => ?_) <;> (try simp [nd_eta, sh_eta, it_eta, sto_eta, op_eta, ch_eta, nw_eta, fl_eta, rq_eta, rs_eta, elDef, -List.getD_eq_getElem?_getD] at h) <;> conv => whnf)
    | (refine And.intro ?_ ?_ <;> conv => whnf)
    | exact True.intro
    | (intro; conv => whnf)
  · exact leafB hK (by grind [nameM])
  refine aloop_intro Nat (fun k => k ≤ b.length ∧ ∀ j, j < k → nameCh (b.getD j 0) = true) (fun k => b.length - k) (fun k => [(3, .int .i64 k)]) (fun k => []) [] 0 [] [] ?_ ?_ (by exact sgOk_of (by rfl)) ?_
  · first | (simp; done) | (simp; assumption)
  · (conv => whnf); (repeat' (first | exact trivial | rfl | (refine nilEq ?_; first | rfl | (simp only [*]; done) | (simp [*]; done) | grind) | apply And.intro | ((first | refine intEq ?_ | refine boolEq ?_ | refine strEq ?_ | refine psEq ?_ | refine nilEq ?_ | refine arrEq ?_); (try simp only [Int.toNat_natCast, nd_eta, sh_eta, it_eta, sto_eta, op_eta, ch_eta, nw_eta, fl_eta, rq_eta, rs_eta, elDef]); first | done | omega | grind | (simp only [*]; done) | (simp [*]; done)))); (all_goals (conv => whnf)); (repeat' (first | exact trivial | rfl | (refine nilEq ?_; first | rfl | (simp only [*]; done) | (simp [*]; done) | grind) | apply And.intro | ((first | refine intEq ?_ | refine boolEq ?_ | refine strEq ?_ | refine psEq ?_ | refine nilEq ?_ | refine arrEq ?_); (try simp only [Int.toNat_natCast, nd_eta, sh_eta, it_eta, sto_eta, op_eta, ch_eta, nw_eta, fl_eta, rq_eta, rs_eta, elDef]); first | done | omega | grind | (simp only [*]; done) | (simp [*]; done)) | ((try simp only [Int.toNat_natCast, nd_eta, sh_eta, it_eta, sto_eta, op_eta, ch_eta, nw_eta, fl_eta, rq_eta, rs_eta, elDef]); first | done | omega | grind | (simp only [*]; done) | (simp [*]; done))))
  rintro i ⟨hi, hj⟩
  conv => whnf
  repeat' first
    | (refine Cnd.mk (fun h => ?_) (fun h => ?_) <;> (try simp [nd_eta, sh_eta, it_eta, sto_eta, op_eta, ch_eta, nw_eta, fl_eta, rq_eta, rs_eta, elDef, -List.getD_eq_getElem?_getD] at h) <;> conv => whnf)
    | (refine Obl.mk (by first | omega | rfl | exact inK_byte _ | (simp only [inK, Int.toNat_natCast, nd_eta, sh_eta, it_eta, sto_eta, op_eta, ch_eta, nw_eta, fl_eta, rq_eta, rs_eta, elDef] <;> first | omega | grind) | grind [inK]) ?_ <;> conv => whnf)
    | (refine OblG.mk (by conv => whnf
                          repeat (first | (refine Bx.mk ?_) | (intro h; (try simp [nd_eta, sh_eta, it_eta, sto_eta, op_eta, ch_eta, nw_eta, fl_eta, rq_eta, rs_eta, elDef, -List.getD_eq_getElem?_getD] at h); conv => whnf))
                          first | omega | rfl | exact inK_byte _ | (simp only [inK, Int.toNat_natCast, nd_eta, sh_eta, it_eta, sto_eta, op_eta, ch_eta, nw_eta, fl_eta, rq_eta, rs_eta, elDef] <;> first | omega | grind) | grind [inK]) ?_ <;> conv => whnf)
    | (refine Gd.mk (fun h => ?_) <;> (try simp [nd_eta, sh_eta, it_eta, sto_eta, op_eta, ch_eta, nw_eta, fl_eta, rq_eta, rs_eta, elDef, -List.getD_eq_getElem?_getD] at h) <;> conv => whnf)
    | (refine And.intro ?_ ?_ <;> conv => whnf)
    | exact True.intro
    | (intro; conv => whnf)
  · have : nameCh (b.getD i 0) = false := by grind [nameCh]
    exact leafB hK (by grind [nameM, all_no])
  · have : nameCh (b.getD i 0) = true := by grind [nameCh]
    exact ⟨i + 1, [], [], ⟨by omega, by grind⟩, by omega, by (conv => whnf); (repeat' (first | exact trivial | rfl | (refine nilEq ?_; first | rfl | (simp only [*]; done) | (simp [*]; done) | grind) | apply And.intro | ((first | refine intEq ?_ | refine boolEq ?_ | refine strEq ?_ | refine psEq ?_ | refine nilEq ?_ | refine arrEq ?_); (try simp only [Int.toNat_natCast, nd_eta, sh_eta, it_eta, sto_eta, op_eta, ch_eta, nw_eta, fl_eta, rq_eta, rs_eta, elDef]); first | done | omega | grind | (simp only [*]; done) | (simp [*]; done)))); (all_goals (conv => whnf)); (repeat' (first | exact trivial | rfl | (refine nilEq ?_; first | rfl | (simp only [*]; done) | (simp [*]; done) | grind) | apply And.intro | ((first | refine intEq ?_ | refine boolEq ?_ | refine strEq ?_ | refine psEq ?_ | refine nilEq ?_ | refine arrEq ?_); (try simp only [Int.toNat_natCast, nd_eta, sh_eta, it_eta, sto_eta, op_eta, ch_eta, nw_eta, fl_eta, rq_eta, rs_eta, elDef]); first | done | omega | grind | (simp only [*]; done) | (simp [*]; done)) | ((try simp only [Int.toNat_natCast, nd_eta, sh_eta, it_eta, sto_eta, op_eta, ch_eta, nw_eta, fl_eta, rq_eta, rs_eta, elDef]); first | done | omega | grind | (simp only [*]; done) | (simp [*]; done)))), (by exact sgOk_of (by rfl))⟩
  · have : b.all nameCh = true := (all_iff b _).2 (by grind)
    exact leafB hK (by grind [nameM])
theorem s45 : (CtrOK Try.prog 45 (.pure F45) ∧ Callable Try.prog 45) := by
  refine pure_ok (E := E45) (mkE_nil tab_ok) mix (O := O45) (F := F45) Try.func45 rfl (by rfl) (by kernel_rfl) (fun args o v h => ?_) (fun args o v h => ?_) (fun args o v h hbd hp K hK => ?_)
  · unfold F45 at h; split at h <;> cases h; first | trivial | (simp [v45, Scalar, Scalar1])
  · unfold F45 at h; split at h <;> cases h; exact Nat.le_of_ble_eq_true rfl
  · unfold F45 at h; split at h
    case h_2 => cases h
    cases h
    exact a45 _ (by exact hbd) trivial K hK
noncomputable def v59 (b : Bs) : AV := .bool (nameM b)
noncomputable def o59 (b : Bs) : Prop := True
noncomputable def F59 : List AV → QR
  | [.str b] => some (none, v59 b)
  | _ => none
noncomputable def E59 : Ctx := mkE tab [(32, .pure F32)]
noncomputable def O59 : Nat → List DI := ordL []
theorem a59 (b : Bs) (hb : BdAs [.str b]) (ho : o59 b) (K : AV → List AV → Prop) (hK : K (v59 b) []) : abody E59 O59 .ps Try.f59 (Try.f59.body.getD .skip) [.str b] K := by
  simp only [BdAs, BdA, BdL, BdC, MX, ndC, shC, itC, stC, opC, chC, nwC, flC, rqC, rsC, enc, List.cons_append, List.nil_append, and_true, true_and] at hb
  unfold v59 at hK
  conv => whnf
  refine aloop_intro Nat (fun k => k ≤ b.length ∧ ∀ j, j < k → nameCh (b.getD j 0) = true) (fun k => b.length - k) (fun k => [(3, .int .i64 k)]) (fun k => []) [] 0 [] [] ?_ ?_ (by exact sgOk_of (by rfl)) ?_
  · first | (simp; done) | (simp; assumption)
  · (conv => whnf); (repeat' (first | exact trivial | rfl | (refine nilEq ?_; first | rfl | (simp only [*]; done) | (simp [*]; done) | grind) | apply And.intro | ((first | refine intEq ?_ | refine boolEq ?_ | refine strEq ?_ | refine psEq ?_ | refine nilEq ?_ | refine arrEq ?_); (try simp only [Int.toNat_natCast, nd_eta, sh_eta, it_eta, sto_eta, op_eta, ch_eta, nw_eta, fl_eta, rq_eta, rs_eta, elDef]); first | done | omega | grind | (simp only [*]; done) | (simp [*]; done)))); (all_goals (conv => whnf)); (repeat' (first | exact trivial | rfl | (refine nilEq ?_; first | rfl | (simp only [*]; done) | (simp [*]; done) | grind) | apply And.intro | ((first | refine intEq ?_ | refine boolEq ?_ | refine strEq ?_ | refine psEq ?_ | refine nilEq ?_ | refine arrEq ?_); (try simp only [Int.toNat_natCast, nd_eta, sh_eta, it_eta, sto_eta, op_eta, ch_eta, nw_eta, fl_eta, rq_eta, rs_eta, elDef]); first | done | omega | grind | (simp only [*]; done) | (simp [*]; done)) | ((try simp only [Int.toNat_natCast, nd_eta, sh_eta, it_eta, sto_eta, op_eta, ch_eta, nw_eta, fl_eta, rq_eta, rs_eta, elDef]); first | done | omega | grind | (simp only [*]; done) | (simp [*]; done))))
  rintro i ⟨hi, hj⟩
  conv => whnf
  repeat' first
    | (refine Cnd.mk (fun h => ?_) (fun h => ?_) <;> (try simp [nd_eta, sh_eta, it_eta, sto_eta, op_eta, ch_eta, nw_eta, fl_eta, rq_eta, rs_eta, elDef, -List.getD_eq_getElem?_getD] at h) <;> conv => whnf)
    | (refine Obl.mk (by first | omega | rfl | exact inK_byte _ | (simp only [inK, Int.toNat_natCast, nd_eta, sh_eta, it_eta, sto_eta, op_eta, ch_eta, nw_eta, fl_eta, rq_eta, rs_eta, elDef] <;> first | omega | grind) | grind [inK]) ?_ <;> conv => whnf)
    | (refine OblG.mk (by conv => whnf
                          repeat (first | (refine Bx.mk ?_) | (intro h; (try simp [nd_eta, sh_eta, it_eta, sto_eta, op_eta, ch_eta, nw_eta, fl_eta, rq_eta, rs_eta, elDef, -List.getD_eq_getElem?_getD] at h); conv => whnf))
                          first | omega | rfl | exact inK_byte _ | (simp only [inK, Int.toNat_natCast, nd_eta, sh_eta, it_eta, sto_eta, op_eta, ch_eta, nw_eta, fl_eta, rq_eta, rs_eta, elDef] <;> first | omega | grind) | grind [inK]) ?_ <;> conv => whnf)
    | (refine Gd.mk (fun h => ?_) <;> (try simp [nd_eta, sh_eta, it_eta, sto_eta, op_eta, ch_eta, nw_eta, fl_eta, rq_eta, rs_eta, elDef, -List.getD_eq_getElem?_getD] at h) <;> conv => whnf)
    | (refine And.intro ?_ ?_ <;> conv => whnf)
    | exact True.intro
    | (intro; conv => whnf)
  · have : nameCh (b.getD i 0) = false := by grind [nameCh]
    exact leafB hK (by grind [nameM, all_no])
  · have : nameCh (b.getD i 0) = true := by grind [nameCh]
    exact ⟨i + 1, [], [], ⟨by omega, by grind⟩, by omega, by (conv => whnf); (repeat' (first | exact trivial | rfl | (refine nilEq ?_; first | rfl | (simp only [*]; done) | (simp [*]; done) | grind) | apply And.intro | ((first | refine intEq ?_ | refine boolEq ?_ | refine strEq ?_ | refine psEq ?_ | refine nilEq ?_ | refine arrEq ?_); (try simp only [Int.toNat_natCast, nd_eta, sh_eta, it_eta, sto_eta, op_eta, ch_eta, nw_eta, fl_eta, rq_eta, rs_eta, elDef]); first | done | omega | grind | (simp only [*]; done) | (simp [*]; done)))); (all_goals (conv => whnf)); (repeat' (first | exact trivial | rfl | (refine nilEq ?_; first | rfl | (simp only [*]; done) | (simp [*]; done) | grind) | apply And.intro | ((first | refine intEq ?_ | refine boolEq ?_ | refine strEq ?_ | refine psEq ?_ | refine nilEq ?_ | refine arrEq ?_); (try simp only [Int.toNat_natCast, nd_eta, sh_eta, it_eta, sto_eta, op_eta, ch_eta, nw_eta, fl_eta, rq_eta, rs_eta, elDef]); first | done | omega | grind | (simp only [*]; done) | (simp [*]; done)) | ((try simp only [Int.toNat_natCast, nd_eta, sh_eta, it_eta, sto_eta, op_eta, ch_eta, nw_eta, fl_eta, rq_eta, rs_eta, elDef]); first | done | omega | grind | (simp only [*]; done) | (simp [*]; done)))), (by exact sgOk_of (by rfl))⟩
  · have : b.all nameCh = true := (all_iff b _).2 (by grind)
    exact leafB hK (by grind [nameM])
theorem s59 : (CtrOK Try.prog 59 (.pure F59) ∧ Callable Try.prog 59) := by
  refine pure_ok (E := E59) (mkE_cons s32 (mkE_nil tab_ok)) mix (O := O59) (F := F59) Try.func59 rfl (by rfl) (by kernel_rfl) (fun args o v h => ?_) (fun args o v h => ?_) (fun args o v h hbd hp K hK => ?_)
  · unfold F59 at h; split at h <;> cases h; first | trivial | (simp [v59, Scalar, Scalar1])
  · unfold F59 at h; split at h <;> cases h; exact Nat.le_of_ble_eq_true rfl
  · unfold F59 at h; split at h
    case h_2 => cases h
    cases h
    exact a59 _ (by exact hbd) trivial K hK
noncomputable def v39 (s : Sto) : AV := .bool (storeM s)
noncomputable def o39 (s : Sto) : Prop := True
noncomputable def F39 : List AV → QR
  | [.st [.ps .item s_0, .int .i64 s_1]] => some (none, v39 ⟨s_0, s_1⟩)
  | _ => none
noncomputable def E39 : Ctx := mkE tab [(32, .pure F32), (59, .pure F59), (60, .pure F60)]
noncomputable def O39 : Nat → List DI := ordL [(5, [.q 0, .q 1, .q 2, .q 3, .q 4, .q 5, .q 6, .q 7, .q 8, .q 9, .q 10, .q 11, .q 12, .q 13, .q 14, .q 15, .q 16, .q 17, .q 18, .q 19, .q 20, .q 21, .q 22, .q 23, .q 24, .q 25, .q 26, .q 27, .q 28, .q 29, .q 30, .q 31, .q 32, .q 33])]
theorem a39 (s : Sto) (hb : BdAs [.st (stC s)]) (ho : o39 s) (K : AV → List AV → Prop) (hK : K (v39 s) []) : abody E39 O39 .ps Try.f39 (Try.f39.body.getD .skip) [.st (stC s)] K := by
  simp only [BdAs, BdA, BdL, BdC, MX, ndC, shC, itC, stC, opC, chC, nwC, flC, rqC, rsC, enc, List.cons_append, List.nil_append, and_true, true_and] at hb
  unfold v39 at hK
  conv => whnf
  refine aloop_intro Nat (fun k => k ≤ s.items.length ∧ ∀ j, j < k → itemOk s j = true) (fun k => s.items.length - k) (fun k => [(3, .int .i64 k)]) (fun k => []) [1] 0 [] [] ?_ ?_ (by exact sgOk_of (by rfl)) ?_
  · first | (simp; done) | (simp; assumption)
  · (conv => whnf); (repeat' (first | exact trivial | rfl | (refine nilEq ?_; first | rfl | (simp only [*]; done) | (simp [*]; done) | grind) | apply And.intro | ((first | refine intEq ?_ | refine boolEq ?_ | refine strEq ?_ | refine psEq ?_ | refine nilEq ?_ | refine arrEq ?_); (try simp only [Int.toNat_natCast, nd_eta, sh_eta, it_eta, sto_eta, op_eta, ch_eta, nw_eta, fl_eta, rq_eta, rs_eta, elDef]); first | done | omega | grind | (simp only [*]; done) | (simp [*]; done)))); (all_goals (conv => whnf)); (repeat' (first | exact trivial | rfl | (refine nilEq ?_; first | rfl | (simp only [*]; done) | (simp [*]; done) | grind) | apply And.intro | ((first | refine intEq ?_ | refine boolEq ?_ | refine strEq ?_ | refine psEq ?_ | refine nilEq ?_ | refine arrEq ?_); (try simp only [Int.toNat_natCast, nd_eta, sh_eta, it_eta, sto_eta, op_eta, ch_eta, nw_eta, fl_eta, rq_eta, rs_eta, elDef]); first | done | omega | grind | (simp only [*]; done) | (simp [*]; done)) | ((try simp only [Int.toNat_natCast, nd_eta, sh_eta, it_eta, sto_eta, op_eta, ch_eta, nw_eta, fl_eta, rq_eta, rs_eta, elDef]); first | done | omega | grind | (simp only [*]; done) | (simp [*]; done))))
  rintro i ⟨hi, hj⟩
  conv => whnf
  repeat' first
    | (refine Cnd.mk (fun h => ?_) (fun h => ?_) <;> (try simp [nd_eta, sh_eta, it_eta, sto_eta, op_eta, ch_eta, nw_eta, fl_eta, rq_eta, rs_eta, elDef, -List.getD_eq_getElem?_getD] at h) <;> conv => whnf)
    | (refine Obl.mk (by first | omega | rfl | exact inK_byte _ | (simp only [inK, Int.toNat_natCast, nd_eta, sh_eta, it_eta, sto_eta, op_eta, ch_eta, nw_eta, fl_eta, rq_eta, rs_eta, elDef] <;> first | omega | grind) | grind [inK]) ?_ <;> conv => whnf)
    | (refine OblG.mk (by conv => whnf
                          repeat (first | (refine Bx.mk ?_) | (intro h; (try simp [nd_eta, sh_eta, it_eta, sto_eta, op_eta, ch_eta, nw_eta, fl_eta, rq_eta, rs_eta, elDef, -List.getD_eq_getElem?_getD] at h); conv => whnf))
                          first | omega | rfl | exact inK_byte _ | (simp only [inK, Int.toNat_natCast, nd_eta, sh_eta, it_eta, sto_eta, op_eta, ch_eta, nw_eta, fl_eta, rq_eta, rs_eta, elDef] <;> first | omega | grind) | grind [inK]) ?_ <;> conv => whnf)
    | (refine Gd.mk (fun h => ?_) <;> (try simp [nd_eta, sh_eta, it_eta, sto_eta, op_eta, ch_eta, nw_eta, fl_eta, rq_eta, rs_eta, elDef, -List.getD_eq_getElem?_getD] at h) <;> conv => whnf)
    | (refine And.intro ?_ ?_ <;> conv => whnf)
    | exact True.intro
    | (intro; conv => whnf)
  · have : itemOk s i = false := by grind [itemOk]
    exact leafB hK (by grind [storeM, itemsM_no])
  · have : itemOk s i = true := by grind [itemOk]
    exact ⟨i + 1, [], [], ⟨by omega, by grind⟩, by omega, by (conv => whnf); (repeat' (first | exact trivial | rfl | (refine nilEq ?_; first | rfl | (simp only [*]; done) | (simp [*]; done) | grind) | apply And.intro | ((first | refine intEq ?_ | refine boolEq ?_ | refine strEq ?_ | refine psEq ?_ | refine nilEq ?_ | refine arrEq ?_); (try simp only [Int.toNat_natCast, nd_eta, sh_eta, it_eta, sto_eta, op_eta, ch_eta, nw_eta, fl_eta, rq_eta, rs_eta, elDef]); first | done | omega | grind | (simp only [*]; done) | (simp [*]; done)))); (all_goals (conv => whnf)); (repeat' (first | exact trivial | rfl | (refine nilEq ?_; first | rfl | (simp only [*]; done) | (simp [*]; done) | grind) | apply And.intro | ((first | refine intEq ?_ | refine boolEq ?_ | refine strEq ?_ | refine psEq ?_ | refine nilEq ?_ | refine arrEq ?_); (try simp only [Int.toNat_natCast, nd_eta, sh_eta, it_eta, sto_eta, op_eta, ch_eta, nw_eta, fl_eta, rq_eta, rs_eta, elDef]); first | done | omega | grind | (simp only [*]; done) | (simp [*]; done)) | ((try simp only [Int.toNat_natCast, nd_eta, sh_eta, it_eta, sto_eta, op_eta, ch_eta, nw_eta, fl_eta, rq_eta, rs_eta, elDef]); first | done | omega | grind | (simp only [*]; done) | (simp [*]; done)))), (by exact sgOk_of (by rfl))⟩
  · have : itemsM s = true := (itemsM_iff s).2 (by grind)
    exact leafB hK (by grind [storeM])
theorem s39 : (CtrOK Try.prog 39 (.pure F39) ∧ Callable Try.prog 39) := by
  refine pure_ok (E := E39) (mkE_cons s32 (mkE_cons s59 (mkE_cons s60 (mkE_nil tab_ok)))) mix (O := O39) (F := F39) Try.func39 rfl (by rfl) (by kernel_rfl) (fun args o v h => ?_) (fun args o v h => ?_) (fun args o v h hbd hp K hK => ?_)
  · unfold F39 at h; split at h <;> cases h; first | trivial | (simp [v39, Scalar, Scalar1])
  · unfold F39 at h; split at h <;> cases h; exact Nat.le_of_ble_eq_true rfl
  · unfold F39 at h; split at h
    case h_2 => cases h
    cases h
    exact a39 ⟨_, _⟩ (by exact hbd) trivial K hK
noncomputable def v46 (n : Nd) : AV := .bool (validM n)
noncomputable def o46 (n : Nd) : Prop := True
noncomputable def F46 : List AV → QR
  | [.st [.int .i64 n_0, .int .i64 n_1, .str n_2, .ps .str n_3, .ps .node n_4]] => some (none, v46 ⟨n_0, n_1, n_2, n_3, n_4⟩)
  | _ => none
noncomputable def E46 : Ctx := mkE tab [(63, .pure F63)]
noncomputable def O46 : Nat → List DI := ordL []
theorem a46 (n : Nd) (hb : BdAs [.st (ndC n)]) (ho : o46 n) (K : AV → List AV → Prop) (hK : K (v46 n) []) : abody E46 O46 .ps Try.f46 (Try.f46.body.getD .skip) [.st (ndC n)] K := by
  simp only [BdAs, BdA, BdL, BdC, MX, ndC, shC, itC, stC, opC, chC, nwC, flC, rqC, rsC, enc, List.cons_append, List.nil_append, and_true, true_and] at hb
  unfold v46 at hK
  conv => whnf
  repeat' first
    | (refine Cnd.mk (fun h => ?_) (fun h => ?_) <;> (try simp [nd_eta, sh_eta, it_eta, sto_eta, op_eta, ch_eta, nw_eta, fl_eta, rq_eta, rs_eta, elDef, -List.getD_eq_getElem?_getD] at h) <;> conv => whnf)
    | (refine Obl.mk (by first | omega | rfl | exact inK_byte _ | (simp only [inK, Int.toNat_natCast, nd_eta, sh_eta, it_eta, sto_eta, op_eta, ch_eta, nw_eta, fl_eta, rq_eta, rs_eta, elDef, o63, m63] <;> first | omega | grind) | grind [inK, o63, m63]) ?_ <;> conv => whnf)
    | (refine OblG.mk (by conv => whnf
                          repeat (first | (refine Bx.mk ?_) | (intro h; (try simp [nd_eta, sh_eta, it_eta, sto_eta, op_eta, ch_eta, nw_eta, fl_eta, rq_eta, rs_eta, elDef, -List.getD_eq_getElem?_getD] at h); conv => whnf))
                          first | omega | rfl | exact inK_byte _ | (simp only [inK, Int.toNat_natCast, nd_eta, sh_eta, it_eta, sto_eta, op_eta, ch_eta, nw_eta, fl_eta, rq_eta, rs_eta, elDef, o63, m63] <;> first | omega | grind) | grind [inK, o63, m63]) ?_ <;> conv => whnf)
    | (refine Gd.mk (fun h => ?_) <;> (try simp [nd_eta, sh_eta, it_eta, sto_eta, op_eta, ch_eta, nw_eta, fl_eta, rq_eta, rs_eta, elDef, -List.getD_eq_getElem?_getD] at h) <;> conv => whnf)
    | (refine And.intro ?_ ?_ <;> conv => whnf)
    | exact True.intro
    | (intro; conv => whnf)
  exact leafB hK (by simp only [validM, nd_eta]; grind)
theorem s46 : (CtrOK Try.prog 46 (.pure F46) ∧ Callable Try.prog 46) := by
  refine pure_ok (E := E46) (mkE_cons s63 (mkE_nil tab_ok)) mix (O := O46) (F := F46) Try.func46 rfl (by rfl) (by kernel_rfl) (fun args o v h => ?_) (fun args o v h => ?_) (fun args o v h hbd hp K hK => ?_)
  · unfold F46 at h; split at h <;> cases h; first | trivial | (simp [v46, Scalar, Scalar1])
  · unfold F46 at h; split at h <;> cases h; exact Nat.le_of_ble_eq_true rfl
  · unfold F46 at h; split at h
    case h_2 => cases h
    cases h
    exact a46 ⟨_, _, _, _, _⟩ (by exact hbd) trivial K hK
noncomputable def v29 (s : Sto) : AV := .bool (storeM s)
noncomputable def o29 (s : Sto) : Prop := True
noncomputable def F29 : List AV → QR
  | [.st [.ps .item s_0, .int .i64 s_1]] => some (none, v29 ⟨s_0, s_1⟩)
  | _ => none
noncomputable def E29 : Ctx := mkE tab [(45, .pure F45), (46, .pure F46)]
noncomputable def O29 : Nat → List DI := ordL [(6, [.q 0, .q 1, .q 2, .q 3, .q 4, .q 5, .q 6, .q 7, .q 8, .q 9, .q 10, .q 11, .q 12, .q 13, .q 14, .q 15, .q 16, .q 17, .q 18, .q 19])]
theorem a29 (s : Sto) (hb : BdAs [.st (stC s)]) (ho : o29 s) (K : AV → List AV → Prop) (hK : K (v29 s) []) : abody E29 O29 .ps Try.f29 (Try.f29.body.getD .skip) [.st (stC s)] K := by
  simp only [BdAs, BdA, BdL, BdC, MX, ndC, shC, itC, stC, opC, chC, nwC, flC, rqC, rsC, enc, List.cons_append, List.nil_append, and_true, true_and] at hb
  unfold v29 at hK
  conv => whnf
  repeat' first
    | (refine Cnd.mk (fun h => ?_) (fun h => ?_) <;> (try simp [nd_eta, sh_eta, it_eta, sto_eta, op_eta, ch_eta, nw_eta, fl_eta, rq_eta, rs_eta, elDef, -List.getD_eq_getElem?_getD] at h) <;> conv => whnf)
    | (refine Obl.mk (by first | omega | rfl | exact inK_byte _ | (simp only [inK, Int.toNat_natCast, nd_eta, sh_eta, it_eta, sto_eta, op_eta, ch_eta, nw_eta, fl_eta, rq_eta, rs_eta, elDef] <;> first | omega | grind) | grind [inK]) ?_ <;> conv => whnf)
    | (refine OblG.mk (by conv => whnf
                          repeat (first | (refine Bx.mk ?_) | (intro h; (try simp [nd_eta, sh_eta, it_eta, sto_eta, op_eta, ch_eta, nw_eta, fl_eta, rq_eta, rs_eta, elDef, -List.getD_eq_getElem?_getD] at h); conv => whnf))
                          first | omega | rfl | exact inK_byte _ | (simp only [inK, Int.toNat_natCast, nd_eta, sh_eta, it_eta, sto_eta, op_eta, ch_eta, nw_eta, fl_eta, rq_eta, rs_eta, elDef] <;> first | omega | grind) | grind [inK]) ?_ <;> conv => whnf)
    | (refine Gd.mk (fun h => ?_) <;> (try simp [nd_eta, sh_eta, it_eta, sto_eta, op_eta, ch_eta, nw_eta, fl_eta, rq_eta, rs_eta, elDef, -List.getD_eq_getElem?_getD] at h) <;> conv => whnf)
    | (refine And.intro ?_ ?_ <;> conv => whnf)
    | exact True.intro
    | (intro; conv => whnf)
  · exact leafB hK (by grind [storeM])
  refine aloop_intro Nat (fun k => k ≤ s.items.length ∧ ∀ j, j < k → itemOk s j = true) (fun k => s.items.length - k) (fun k => [(22, .int .i64 k)]) (fun k => []) [1] 0 [] [] ?_ ?_ (by exact sgOk_of (by rfl)) ?_
  · first | (simp; done) | (simp; assumption)
  · (conv => whnf); (repeat' (first | exact trivial | rfl | (refine nilEq ?_; first | rfl | (simp only [*]; done) | (simp [*]; done) | grind) | apply And.intro | ((first | refine intEq ?_ | refine boolEq ?_ | refine strEq ?_ | refine psEq ?_ | refine nilEq ?_ | refine arrEq ?_); (try simp only [Int.toNat_natCast, nd_eta, sh_eta, it_eta, sto_eta, op_eta, ch_eta, nw_eta, fl_eta, rq_eta, rs_eta, elDef]); first | done | omega | grind | (simp only [*]; done) | (simp [*]; done)))); (all_goals (conv => whnf)); (repeat' (first | exact trivial | rfl | (refine nilEq ?_; first | rfl | (simp only [*]; done) | (simp [*]; done) | grind) | apply And.intro | ((first | refine intEq ?_ | refine boolEq ?_ | refine strEq ?_ | refine psEq ?_ | refine nilEq ?_ | refine arrEq ?_); (try simp only [Int.toNat_natCast, nd_eta, sh_eta, it_eta, sto_eta, op_eta, ch_eta, nw_eta, fl_eta, rq_eta, rs_eta, elDef]); first | done | omega | grind | (simp only [*]; done) | (simp [*]; done)) | ((try simp only [Int.toNat_natCast, nd_eta, sh_eta, it_eta, sto_eta, op_eta, ch_eta, nw_eta, fl_eta, rq_eta, rs_eta, elDef]); first | done | omega | grind | (simp only [*]; done) | (simp [*]; done))))
  rintro i ⟨hi, hj⟩
  conv => whnf
  repeat' first
    | (refine Cnd.mk (fun h => ?_) (fun h => ?_) <;> (try simp [nd_eta, sh_eta, it_eta, sto_eta, op_eta, ch_eta, nw_eta, fl_eta, rq_eta, rs_eta, elDef, -List.getD_eq_getElem?_getD] at h) <;> conv => whnf)
    | (refine Obl.mk (by first | omega | rfl | exact inK_byte _ | (simp only [inK, Int.toNat_natCast, nd_eta, sh_eta, it_eta, sto_eta, op_eta, ch_eta, nw_eta, fl_eta, rq_eta, rs_eta, elDef] <;> first | omega | grind) | grind [inK]) ?_ <;> conv => whnf)
    | (refine OblG.mk (by conv => whnf
                          repeat (first | (refine Bx.mk ?_) | (intro h; (try simp [nd_eta, sh_eta, it_eta, sto_eta, op_eta, ch_eta, nw_eta, fl_eta, rq_eta, rs_eta, elDef, -List.getD_eq_getElem?_getD] at h); conv => whnf))
                          first | omega | rfl | exact inK_byte _ | (simp only [inK, Int.toNat_natCast, nd_eta, sh_eta, it_eta, sto_eta, op_eta, ch_eta, nw_eta, fl_eta, rq_eta, rs_eta, elDef] <;> first | omega | grind) | grind [inK]) ?_ <;> conv => whnf)
    | (refine Gd.mk (fun h => ?_) <;> (try simp [nd_eta, sh_eta, it_eta, sto_eta, op_eta, ch_eta, nw_eta, fl_eta, rq_eta, rs_eta, elDef, -List.getD_eq_getElem?_getD] at h) <;> conv => whnf)
    | (refine And.intro ?_ ?_ <;> conv => whnf)
    | exact True.intro
    | (intro; conv => whnf)
  · have : itemOk s i = false := by grind [itemOk]
    exact leafB hK (by grind [storeM, itemsM_no])
  · have : itemOk s i = false := by grind [itemOk]
    exact leafB hK (by grind [storeM, itemsM_no])
  · have : itemOk s i = true := by grind [itemOk]
    exact ⟨i + 1, [], [], ⟨by omega, by grind⟩, by omega, by (conv => whnf); (repeat' (first | exact trivial | rfl | (refine nilEq ?_; first | rfl | (simp only [*]; done) | (simp [*]; done) | grind) | apply And.intro | ((first | refine intEq ?_ | refine boolEq ?_ | refine strEq ?_ | refine psEq ?_ | refine nilEq ?_ | refine arrEq ?_); (try simp only [Int.toNat_natCast, nd_eta, sh_eta, it_eta, sto_eta, op_eta, ch_eta, nw_eta, fl_eta, rq_eta, rs_eta, elDef]); first | done | omega | grind | (simp only [*]; done) | (simp [*]; done)))); (all_goals (conv => whnf)); (repeat' (first | exact trivial | rfl | (refine nilEq ?_; first | rfl | (simp only [*]; done) | (simp [*]; done) | grind) | apply And.intro | ((first | refine intEq ?_ | refine boolEq ?_ | refine strEq ?_ | refine psEq ?_ | refine nilEq ?_ | refine arrEq ?_); (try simp only [Int.toNat_natCast, nd_eta, sh_eta, it_eta, sto_eta, op_eta, ch_eta, nw_eta, fl_eta, rq_eta, rs_eta, elDef]); first | done | omega | grind | (simp only [*]; done) | (simp [*]; done)) | ((try simp only [Int.toNat_natCast, nd_eta, sh_eta, it_eta, sto_eta, op_eta, ch_eta, nw_eta, fl_eta, rq_eta, rs_eta, elDef]); first | done | omega | grind | (simp only [*]; done) | (simp [*]; done)))), (by exact sgOk_of (by rfl))⟩
  · have : itemsM s = true := (itemsM_iff s).2 (by grind)
    exact leafB hK (by grind [storeM])
theorem s29 : (CtrOK Try.prog 29 (.pure F29) ∧ Callable Try.prog 29) := by
  refine pure_ok (E := E29) (mkE_cons s45 (mkE_cons s46 (mkE_nil tab_ok))) mix (O := O29) (F := F29) Try.func29 rfl (by rfl) (by kernel_rfl) (fun args o v h => ?_) (fun args o v h => ?_) (fun args o v h hbd hp K hK => ?_)
  · unfold F29 at h; split at h <;> cases h; first | trivial | (simp [v29, Scalar, Scalar1])
  · unfold F29 at h; split at h <;> cases h; exact Nat.le_of_ble_eq_true rfl
  · unfold F29 at h; split at h
    case h_2 => cases h
    cases h
    exact a29 ⟨_, _⟩ (by exact hbd) trivial K hK
noncomputable def v51 (c : Chg) : AV := .bool (changeM c)
noncomputable def o51 (c : Chg) : Prop := True
noncomputable def F51 : List AV → QR
  | [.st [.str c_0, .bool c_1, .int .i64 c_2_0, .int .i64 c_2_1, .str c_2_2, .ps .str c_2_3, .ps .node c_2_4]] => some (none, v51 ⟨c_0, c_1, ⟨c_2_0, c_2_1, c_2_2, c_2_3, c_2_4⟩⟩)
  | _ => none
noncomputable def E51 : Ctx := mkE tab [(59, .pure F59), (60, .pure F60)]
noncomputable def O51 : Nat → List DI := ordL []
theorem a51 (c : Chg) (hb : BdAs [.st (chC c)]) (ho : o51 c) (K : AV → List AV → Prop) (hK : K (v51 c) []) : abody E51 O51 .ps Try.f51 (Try.f51.body.getD .skip) [.st (chC c)] K := by
  simp only [BdAs, BdA, BdL, BdC, MX, ndC, shC, itC, stC, opC, chC, nwC, flC, rqC, rsC, enc, List.cons_append, List.nil_append, and_true, true_and] at hb
  unfold v51 at hK
  conv => whnf
  repeat' first
    | (refine Cnd.mk (fun h => ?_) (fun h => ?_) <;> (try simp [nd_eta, sh_eta, it_eta, sto_eta, op_eta, ch_eta, nw_eta, fl_eta, rq_eta, rs_eta, elDef, -List.getD_eq_getElem?_getD] at h) <;> conv => whnf)
    | (refine Obl.mk (by first | omega | rfl | exact inK_byte _ | (simp only [inK, Int.toNat_natCast, nd_eta, sh_eta, it_eta, sto_eta, op_eta, ch_eta, nw_eta, fl_eta, rq_eta, rs_eta, elDef] <;> first | omega | grind) | grind [inK]) ?_ <;> conv => whnf)
    | (refine OblG.mk (by conv => whnf
                          repeat (first | (refine Bx.mk ?_) | (intro h; (try simp [nd_eta, sh_eta, it_eta, sto_eta, op_eta, ch_eta, nw_eta, fl_eta, rq_eta, rs_eta, elDef, -List.getD_eq_getElem?_getD] at h); conv => whnf))
                          first | omega | rfl | exact inK_byte _ | (simp only [inK, Int.toNat_natCast, nd_eta, sh_eta, it_eta, sto_eta, op_eta, ch_eta, nw_eta, fl_eta, rq_eta, rs_eta, elDef] <;> first | omega | grind) | grind [inK]) ?_ <;> conv => whnf)
    | (refine Gd.mk (fun h => ?_) <;> (try simp [nd_eta, sh_eta, it_eta, sto_eta, op_eta, ch_eta, nw_eta, fl_eta, rq_eta, rs_eta, elDef, -List.getD_eq_getElem?_getD] at h) <;> conv => whnf)
    | (refine And.intro ?_ ?_ <;> conv => whnf)
    | exact True.intro
    | (intro; conv => whnf)
  all_goals exact leafB hK (by simp only [changeM, nd_eta])
theorem s51 : (CtrOK Try.prog 51 (.pure F51) ∧ Callable Try.prog 51) := by
  refine pure_ok (E := E51) (mkE_cons s59 (mkE_cons s60 (mkE_nil tab_ok))) mix (O := O51) (F := F51) Try.func51 rfl (by rfl) (by kernel_rfl) (fun args o v h => ?_) (fun args o v h => ?_) (fun args o v h hbd hp K hK => ?_)
  · unfold F51 at h; split at h <;> cases h; first | trivial | (simp [v51, Scalar, Scalar1])
  · unfold F51 at h; split at h <;> cases h; exact Nat.le_of_ble_eq_true rfl
  · unfold F51 at h; split at h
    case h_2 => cases h
    cases h
    exact a51 ⟨_, _, ⟨_, _, _, _, _⟩⟩ (by exact hbd) trivial K hK
noncomputable def v35 (c : Chg) : AV := .bool (changeM c)
noncomputable def o35 (c : Chg) : Prop := True
noncomputable def F35 : List AV → QR
  | [.st [.str c_0, .bool c_1, .int .i64 c_2_0, .int .i64 c_2_1, .str c_2_2, .ps .str c_2_3, .ps .node c_2_4]] => some (none, v35 ⟨c_0, c_1, ⟨c_2_0, c_2_1, c_2_2, c_2_3, c_2_4⟩⟩)
  | _ => none
noncomputable def E35 : Ctx := mkE tab [(45, .pure F45), (46, .pure F46)]
noncomputable def O35 : Nat → List DI := ordL []
theorem a35 (c : Chg) (hb : BdAs [.st (chC c)]) (ho : o35 c) (K : AV → List AV → Prop) (hK : K (v35 c) []) : abody E35 O35 .ps Try.f35 (Try.f35.body.getD .skip) [.st (chC c)] K := by
  simp only [BdAs, BdA, BdL, BdC, MX, ndC, shC, itC, stC, opC, chC, nwC, flC, rqC, rsC, enc, List.cons_append, List.nil_append, and_true, true_and] at hb
  unfold v35 at hK
  conv => whnf
  repeat' first
    | (refine Cnd.mk (fun h => ?_) (fun h => ?_) <;> (try simp [nd_eta, sh_eta, it_eta, sto_eta, op_eta, ch_eta, nw_eta, fl_eta, rq_eta, rs_eta, elDef, -List.getD_eq_getElem?_getD] at h) <;> conv => whnf)
    | (refine Obl.mk (by first | omega | rfl | exact inK_byte _ | (simp only [inK, Int.toNat_natCast, nd_eta, sh_eta, it_eta, sto_eta, op_eta, ch_eta, nw_eta, fl_eta, rq_eta, rs_eta, elDef] <;> first | omega | grind) | grind [inK]) ?_ <;> conv => whnf)
    | (refine OblG.mk (by conv => whnf
                          repeat (first | (refine Bx.mk ?_) | (intro h; (try simp [nd_eta, sh_eta, it_eta, sto_eta, op_eta, ch_eta, nw_eta, fl_eta, rq_eta, rs_eta, elDef, -List.getD_eq_getElem?_getD] at h); conv => whnf))
                          first | omega | rfl | exact inK_byte _ | (simp only [inK, Int.toNat_natCast, nd_eta, sh_eta, it_eta, sto_eta, op_eta, ch_eta, nw_eta, fl_eta, rq_eta, rs_eta, elDef] <;> first | omega | grind) | grind [inK]) ?_ <;> conv => whnf)
    | (refine Gd.mk (fun h => ?_) <;> (try simp [nd_eta, sh_eta, it_eta, sto_eta, op_eta, ch_eta, nw_eta, fl_eta, rq_eta, rs_eta, elDef, -List.getD_eq_getElem?_getD] at h) <;> conv => whnf)
    | (refine And.intro ?_ ?_ <;> conv => whnf)
    | exact True.intro
    | (intro; conv => whnf)
  all_goals exact leafB hK (by simp only [changeM, nd_eta])
theorem s35 : (CtrOK Try.prog 35 (.pure F35) ∧ Callable Try.prog 35) := by
  refine pure_ok (E := E35) (mkE_cons s45 (mkE_cons s46 (mkE_nil tab_ok))) mix (O := O35) (F := F35) Try.func35 rfl (by rfl) (by kernel_rfl) (fun args o v h => ?_) (fun args o v h => ?_) (fun args o v h hbd hp K hK => ?_)
  · unfold F35 at h; split at h <;> cases h; first | trivial | (simp [v35, Scalar, Scalar1])
  · unfold F35 at h; split at h <;> cases h; exact Nat.le_of_ble_eq_true rfl
  · unfold F35 at h; split at h
    case h_2 => cases h
    cases h
    exact a35 ⟨_, _, ⟨_, _, _, _, _⟩⟩ (by exact hbd) trivial K hK
end Go.Rs

