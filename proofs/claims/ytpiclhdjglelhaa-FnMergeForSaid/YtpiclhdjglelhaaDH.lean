import Derived.Test.YtpiclhdjglelhaaDG
import Derived.Test.YtpiclhdjglelhaaME
set_option linter.all false
namespace Go.Rs
open Go.Proofs
set_option maxRecDepth 100000
set_option linter.unusedVariables false
set_option linter.unusedSimpArgs false
noncomputable def v19 (n : Nd) : AV := .bool (plainM n)
noncomputable def o19 (n : Nd) : Prop := True
noncomputable def m19 (n : Nd) : Nat := SizeOf.sizeOf n
noncomputable def F19 : List AV → QR
  | [.st [.int .i64 n_0, .int .i64 n_1, .str n_2, .ps .str n_3, .ps .node n_4]] => some (none, v19 ⟨n_0, n_1, n_2, n_3, n_4⟩)
  | _ => none
noncomputable def Fk19 (k : Nat) : List AV → QR
  | [.st [.int .i64 n_0, .int .i64 n_1, .str n_2, .ps .str n_3, .ps .node n_4]] => some (some (m19 ⟨n_0, n_1, n_2, n_3, n_4⟩ < k ∧ o19 ⟨n_0, n_1, n_2, n_3, n_4⟩), v19 ⟨n_0, n_1, n_2, n_3, n_4⟩)
  | _ => none
noncomputable def E19 (k : Nat) : Ctx := mkE tab [(19, .pure (Fk19 k))]
noncomputable def O19 : Nat → List DI := ordL []
theorem a19 (k : Nat) (n : Nd) (hm : m19 n < k + 1) (hb : BdAs [.st (ndC n)]) (ho : o19 n) (K : AV → List AV → Prop) (hK : K (v19 n) []) : abody (E19 k) O19 .ps Try.f19 (Try.f19.body.getD .skip) [.st (ndC n)] K := by
  simp only [BdAs, BdA, BdL, BdC, MX, ndC, shC, itC, stC, opC, chC, nwC, flC, rqC, rsC, enc, List.cons_append, List.nil_append, and_true, true_and] at hb
  unfold v19 at hK
  unfold m19 at hm
  have hkid := fun j (h : j < n.kids.length) => kid_size h
  conv => whnf
  refine aloop_intro Nat (fun k => k ≤ n.kids.length ∧ ∀ j, j < k → n.kind = 4 → plainK (n.kids.getD j default) = true) (fun k => n.kids.length - k) (fun k => [(3, .int .i64 k)]) (fun k => []) [1] 0 [] [] ?_ ?_ (by exact sgOk_of (by rfl)) ?_
  · first | (simp; done) | (simp; assumption)
  · (conv => whnf); (repeat' (first | exact trivial | rfl | (refine nilEq ?_; first | rfl | (simp only [*]; done) | (simp [*]; done) | grind) | apply And.intro | ((first | refine intEq ?_ | refine boolEq ?_ | refine strEq ?_ | refine psEq ?_ | refine nilEq ?_ | refine arrEq ?_); (try simp only [Int.toNat_natCast, nd_eta, sh_eta, it_eta, sto_eta, op_eta, ch_eta, nw_eta, fl_eta, rq_eta, rs_eta, elDef]); first | done | omega | grind | (simp only [*]; done) | (simp [*]; done)))); (all_goals (conv => whnf)); (repeat' (first | exact trivial | rfl | (refine nilEq ?_; first | rfl | (simp only [*]; done) | (simp [*]; done) | grind) | apply And.intro | ((first | refine intEq ?_ | refine boolEq ?_ | refine strEq ?_ | refine psEq ?_ | refine nilEq ?_ | refine arrEq ?_); (try simp only [Int.toNat_natCast, nd_eta, sh_eta, it_eta, sto_eta, op_eta, ch_eta, nw_eta, fl_eta, rq_eta, rs_eta, elDef]); first | done | omega | grind | (simp only [*]; done) | (simp [*]; done)) | ((try simp only [Int.toNat_natCast, nd_eta, sh_eta, it_eta, sto_eta, op_eta, ch_eta, nw_eta, fl_eta, rq_eta, rs_eta, elDef]); first | done | omega | grind | (simp only [*]; done) | (simp [*]; done))))
  rintro i ⟨hi, hj⟩
  conv => whnf
  have hki := hkid i
  repeat' first
    | (refine Cnd.mk (fun h => ?_) (fun h => ?_) <;> (try simp [nd_eta, sh_eta, it_eta, sto_eta, op_eta, ch_eta, nw_eta, fl_eta, rq_eta, rs_eta, elDef, -List.getD_eq_getElem?_getD] at h) <;> conv => whnf)
    | (refine Obl.mk (by first | omega | rfl | exact inK_byte _ | (simp only [inK, Int.toNat_natCast, nd_eta, sh_eta, it_eta, sto_eta, op_eta, ch_eta, nw_eta, fl_eta, rq_eta, rs_eta, elDef, m19, o19, m19] <;> first | omega | grind) | grind [inK, m19, o19, m19]) ?_ <;> conv => whnf)
    | (refine OblG.mk (by conv => whnf
                          repeat (first | (refine Bx.mk ?_) | (intro h; (try simp [nd_eta, sh_eta, it_eta, sto_eta, op_eta, ch_eta, nw_eta, fl_eta, rq_eta, rs_eta, elDef, -List.getD_eq_getElem?_getD] at h); conv => whnf))
                          first | omega | rfl | exact inK_byte _ | (simp only [inK, Int.toNat_natCast, nd_eta, sh_eta, it_eta, sto_eta, op_eta, ch_eta, nw_eta, fl_eta, rq_eta, rs_eta, elDef, m19, o19, m19] <;> first | omega | grind) | grind [inK, m19, o19, m19]) ?_ <;> conv => whnf)
    | (refine Gd.mk (fun h => ?_) <;> (try simp [nd_eta, sh_eta, it_eta, sto_eta, op_eta, ch_eta, nw_eta, fl_eta, rq_eta, rs_eta, elDef, -List.getD_eq_getElem?_getD] at h) <;> conv => whnf)
    | (refine And.intro ?_ ?_ <;> conv => whnf)
    | exact True.intro
    | (intro; conv => whnf)
  · rename_i hi9
    have hk4 : n.kind = 4 := h.elim (fun h => h.1) fun h => h.1
    exact leafB hK (plain_no hk4 hi9 (plainK_no (h.imp (fun h => of_decide_eq_true h.2) fun h => h.2)))
  · rename_i hi9
    exact ⟨i + 1, [], [], ⟨by omega, fun j hj9 hk4 => (Nat.lt_or_eq_of_le (Nat.le_of_lt_succ hj9)).elim (fun h2 => hj j h2 hk4) fun e => by rw [e]; exact plainK_iff.2 ⟨of_decide_eq_false (h.1 hk4), h.2 hk4⟩⟩, by omega, by (conv => whnf); (repeat' (first | exact trivial | rfl | (refine nilEq ?_; first | rfl | (simp only [*]; done) | (simp [*]; done) | grind) | apply And.intro | ((first | refine intEq ?_ | refine boolEq ?_ | refine strEq ?_ | refine psEq ?_ | refine nilEq ?_ | refine arrEq ?_); (try simp only [Int.toNat_natCast, nd_eta, sh_eta, it_eta, sto_eta, op_eta, ch_eta, nw_eta, fl_eta, rq_eta, rs_eta, elDef]); first | done | omega | grind | (simp only [*]; done) | (simp [*]; done)))); (all_goals (conv => whnf)); (repeat' (first | exact trivial | rfl | (refine nilEq ?_; first | rfl | (simp only [*]; done) | (simp [*]; done) | grind) | apply And.intro | ((first | refine intEq ?_ | refine boolEq ?_ | refine strEq ?_ | refine psEq ?_ | refine nilEq ?_ | refine arrEq ?_); (try simp only [Int.toNat_natCast, nd_eta, sh_eta, it_eta, sto_eta, op_eta, ch_eta, nw_eta, fl_eta, rq_eta, rs_eta, elDef]); first | done | omega | grind | (simp only [*]; done) | (simp [*]; done)) | ((try simp only [Int.toNat_natCast, nd_eta, sh_eta, it_eta, sto_eta, op_eta, ch_eta, nw_eta, fl_eta, rq_eta, rs_eta, elDef]); first | done | omega | grind | (simp only [*]; done) | (simp [*]; done)))), (by exact sgOk_of (by rfl))⟩
  · refine leafB hK ?_
    by_cases hk4 : n.kind = 4
    · exact (plain_get hk4).2 fun j hj9 => hj j (by omega) hk4
    · exact plain_leaf hk4
theorem r19 : ∀ k, (CtrOK Try.prog 19 (.pure (Fk19 k)) ∧ Callable Try.prog 19) := by
  intro k
  induction k with
  | zero =>
    exact ⟨⟨fun args o v h => by unfold Fk19 at h; split at h <;> cases h; first | trivial | (simp [v19, Scalar, Scalar2, Scalar1, stC, ndC, itC, chC, nwC]), fun args K h => by
        unfold pureC Fk19 at h; split at h
        · rename_i h1; split at h1 <;> cases h1; exact absurd (h.1 _ rfl).1 (Nat.not_lt_zero _)
        · exact h.elim⟩, callable Try.func19 rfl (by rfl)⟩
  | succ k ih =>
    refine pure_ok (E := E19 k) (mkE_cons ih (mkE_nil tab_ok)) mix (O := O19) (F := (Fk19 (k + 1))) Try.func19 rfl (by rfl) (by kernel_rfl) (fun args o v h => ?_) (fun args o v h => ?_) (fun args o v h hbd hp K hK => ?_)
    · unfold Fk19 at h; split at h <;> cases h; first | trivial | (simp [v19, Scalar, Scalar2, Scalar1, stC, ndC, itC, chC, nwC])
    · unfold Fk19 at h; split at h <;> cases h; exact Nat.le_of_ble_eq_true rfl
    · unfold Fk19 at h; split at h
      case h_2 => cases h
      cases h
      exact a19 k ⟨_, _, _, _, _⟩ (hp _ rfl).1 (by exact hbd) (hp _ rfl).2 K hK
theorem s19 : (CtrOK Try.prog 19 (.pure F19) ∧ Callable Try.prog 19) := by
  refine ⟨⟨fun args o v h => ?_, fun args K h => ?_⟩, (r19 0).2⟩
  · unfold F19 at h; split at h <;> cases h; first | trivial | (simp [v19, Scalar, Scalar2, Scalar1, stC, ndC, itC, chC, nwC])
  · unfold pureC F19 at h; split at h
    · rename_i h1; split at h1 <;> cases h1
      exact (r19 (m19 ⟨_, _, _, _, _⟩ + 1)).1.2 _ K ⟨fun p hp => by cases hp; exact ⟨Nat.lt_succ_self _, trivial⟩, h.2⟩
    · exact h.elim
noncomputable def v35 (n : Nd) : AV := .bool (plainM n)
noncomputable def o35 (n : Nd) : Prop := True
noncomputable def m35 (n : Nd) : Nat := SizeOf.sizeOf n
noncomputable def F35 : List AV → QR
  | [.st [.int .i64 n_0, .int .i64 n_1, .str n_2, .ps .str n_3, .ps .node n_4]] => some (none, v35 ⟨n_0, n_1, n_2, n_3, n_4⟩)
  | _ => none
noncomputable def Fk35 (k : Nat) : List AV → QR
  | [.st [.int .i64 n_0, .int .i64 n_1, .str n_2, .ps .str n_3, .ps .node n_4]] => some (some (m35 ⟨n_0, n_1, n_2, n_3, n_4⟩ < k ∧ o35 ⟨n_0, n_1, n_2, n_3, n_4⟩), v35 ⟨n_0, n_1, n_2, n_3, n_4⟩)
  | _ => none
noncomputable def E35 (k : Nat) : Ctx := mkE tab [(35, .pure (Fk35 k))]
noncomputable def O35 : Nat → List DI := ordL []
theorem a35 (k : Nat) (n : Nd) (hm : m35 n < k + 1) (hb : BdAs [.st (ndC n)]) (ho : o35 n) (K : AV → List AV → Prop) (hK : K (v35 n) []) : abody (E35 k) O35 .ps Try.f35 (Try.f35.body.getD .skip) [.st (ndC n)] K := by
  simp only [BdAs, BdA, BdL, BdC, MX, ndC, shC, itC, stC, opC, chC, nwC, flC, rqC, rsC, enc, List.cons_append, List.nil_append, and_true, true_and] at hb
  unfold v35 at hK
  unfold m35 at hm
  have hkid := fun j (h : j < n.kids.length) => kid_size h
  conv => whnf
  repeat' first
    | (refine Cnd.mk (fun h => ?_) (fun h => ?_) <;> (try simp [nd_eta, sh_eta, it_eta, sto_eta, op_eta, ch_eta, nw_eta, fl_eta, rq_eta, rs_eta, elDef, -List.getD_eq_getElem?_getD] at h) <;> conv => whnf)
    | (refine Obl.mk (by first | omega | rfl | exact inK_byte _ | (simp only [inK, Int.toNat_natCast, nd_eta, sh_eta, it_eta, sto_eta, op_eta, ch_eta, nw_eta, fl_eta, rq_eta, rs_eta, elDef, m35, o35, m35] <;> first | omega | grind) | grind [inK, m35, o35, m35]) ?_ <;> conv => whnf)
    | (refine OblG.mk (by conv => whnf
                          repeat (first | (refine Bx.mk ?_) | (intro h; (try simp [nd_eta, sh_eta, it_eta, sto_eta, op_eta, ch_eta, nw_eta, fl_eta, rq_eta, rs_eta, elDef, -List.getD_eq_getElem?_getD] at h); conv => whnf))
                          first | omega | rfl | exact inK_byte _ | (simp only [inK, Int.toNat_natCast, nd_eta, sh_eta, it_eta, sto_eta, op_eta, ch_eta, nw_eta, fl_eta, rq_eta, rs_eta, elDef, m35, o35, m35] <;> first | omega | grind) | grind [inK, m35, o35, m35]) ?_ <;> conv => whnf)
    | (refine Gd.mk (fun h => ?_) <;> (try simp [nd_eta, sh_eta, it_eta, sto_eta, op_eta, ch_eta, nw_eta, fl_eta, rq_eta, rs_eta, elDef, -List.getD_eq_getElem?_getD] at h) <;> conv => whnf)
    | (refine And.intro ?_ ?_ <;> conv => whnf)
    | exact True.intro
    | (intro; conv => whnf)
  · exact leafB hK (plain_leaf h)
  refine aloop_intro Nat (fun k => k ≤ n.kids.length ∧ ∀ j, j < k → plainK (n.kids.getD j default) = true) (fun k => n.kids.length - k) (fun k => [(11, .int .i64 k)]) (fun k => []) [1] 0 [] [] ?_ ?_ (by exact sgOk_of (by rfl)) ?_
  · first | (simp; done) | (simp; assumption)
  · (conv => whnf); (repeat' (first | exact trivial | rfl | (refine nilEq ?_; first | rfl | (simp only [*]; done) | (simp [*]; done) | grind) | apply And.intro | ((first | refine intEq ?_ | refine boolEq ?_ | refine strEq ?_ | refine psEq ?_ | refine nilEq ?_ | refine arrEq ?_); (try simp only [Int.toNat_natCast, nd_eta, sh_eta, it_eta, sto_eta, op_eta, ch_eta, nw_eta, fl_eta, rq_eta, rs_eta, elDef]); first | done | omega | grind | (simp only [*]; done) | (simp [*]; done)))); (all_goals (conv => whnf)); (repeat' (first | exact trivial | rfl | (refine nilEq ?_; first | rfl | (simp only [*]; done) | (simp [*]; done) | grind) | apply And.intro | ((first | refine intEq ?_ | refine boolEq ?_ | refine strEq ?_ | refine psEq ?_ | refine nilEq ?_ | refine arrEq ?_); (try simp only [Int.toNat_natCast, nd_eta, sh_eta, it_eta, sto_eta, op_eta, ch_eta, nw_eta, fl_eta, rq_eta, rs_eta, elDef]); first | done | omega | grind | (simp only [*]; done) | (simp [*]; done)) | ((try simp only [Int.toNat_natCast, nd_eta, sh_eta, it_eta, sto_eta, op_eta, ch_eta, nw_eta, fl_eta, rq_eta, rs_eta, elDef]); first | done | omega | grind | (simp only [*]; done) | (simp [*]; done))))
  rintro i ⟨hi, hj⟩
  conv => whnf
  have hki := hkid i
  repeat' first
    | (refine Cnd.mk (fun h => ?_) (fun h => ?_) <;> (try simp [nd_eta, sh_eta, it_eta, sto_eta, op_eta, ch_eta, nw_eta, fl_eta, rq_eta, rs_eta, elDef, -List.getD_eq_getElem?_getD] at h) <;> conv => whnf)
    | (refine Obl.mk (by first | omega | rfl | exact inK_byte _ | (simp only [inK, Int.toNat_natCast, nd_eta, sh_eta, it_eta, sto_eta, op_eta, ch_eta, nw_eta, fl_eta, rq_eta, rs_eta, elDef, m35, o35, m35] <;> first | omega | grind) | grind [inK, m35, o35, m35]) ?_ <;> conv => whnf)
    | (refine OblG.mk (by conv => whnf
                          repeat (first | (refine Bx.mk ?_) | (intro h; (try simp [nd_eta, sh_eta, it_eta, sto_eta, op_eta, ch_eta, nw_eta, fl_eta, rq_eta, rs_eta, elDef, -List.getD_eq_getElem?_getD] at h); conv => whnf))
                          first | omega | rfl | exact inK_byte _ | (simp only [inK, Int.toNat_natCast, nd_eta, sh_eta, it_eta, sto_eta, op_eta, ch_eta, nw_eta, fl_eta, rq_eta, rs_eta, elDef, m35, o35, m35] <;> first | omega | grind) | grind [inK, m35, o35, m35]) ?_ <;> conv => whnf)
    | (refine Gd.mk (fun h => ?_) <;> (try simp [nd_eta, sh_eta, it_eta, sto_eta, op_eta, ch_eta, nw_eta, fl_eta, rq_eta, rs_eta, elDef, -List.getD_eq_getElem?_getD] at h) <;> conv => whnf)
    | (refine And.intro ?_ ?_ <;> conv => whnf)
    | exact True.intro
    | (intro; conv => whnf)
  · rename_i hi9
    exact leafB hK (plain_no (by assumption) hi9 (plainK_no (h.imp of_decide_eq_true id)))
  · rename_i hi9
    exact ⟨i + 1, [], [], ⟨by omega, fun j hj9 => (Nat.lt_or_eq_of_le (Nat.le_of_lt_succ hj9)).elim (fun h2 => hj j h2) fun e => by rw [e]; exact plainK_iff.2 ⟨of_decide_eq_false h.1, h.2⟩⟩, by omega, by (conv => whnf); (repeat' (first | exact trivial | rfl | (refine nilEq ?_; first | rfl | (simp only [*]; done) | (simp [*]; done) | grind) | apply And.intro | ((first | refine intEq ?_ | refine boolEq ?_ | refine strEq ?_ | refine psEq ?_ | refine nilEq ?_ | refine arrEq ?_); (try simp only [Int.toNat_natCast, nd_eta, sh_eta, it_eta, sto_eta, op_eta, ch_eta, nw_eta, fl_eta, rq_eta, rs_eta, elDef]); first | done | omega | grind | (simp only [*]; done) | (simp [*]; done)))); (all_goals (conv => whnf)); (repeat' (first | exact trivial | rfl | (refine nilEq ?_; first | rfl | (simp only [*]; done) | (simp [*]; done) | grind) | apply And.intro | ((first | refine intEq ?_ | refine boolEq ?_ | refine strEq ?_ | refine psEq ?_ | refine nilEq ?_ | refine arrEq ?_); (try simp only [Int.toNat_natCast, nd_eta, sh_eta, it_eta, sto_eta, op_eta, ch_eta, nw_eta, fl_eta, rq_eta, rs_eta, elDef]); first | done | omega | grind | (simp only [*]; done) | (simp [*]; done)) | ((try simp only [Int.toNat_natCast, nd_eta, sh_eta, it_eta, sto_eta, op_eta, ch_eta, nw_eta, fl_eta, rq_eta, rs_eta, elDef]); first | done | omega | grind | (simp only [*]; done) | (simp [*]; done)))), (by exact sgOk_of (by rfl))⟩
  · exact leafB hK ((plain_get (by assumption)).2 fun j hj9 => hj j (by omega))
theorem r35 : ∀ k, (CtrOK Try.prog 35 (.pure (Fk35 k)) ∧ Callable Try.prog 35) := by
  intro k
  induction k with
  | zero =>
    exact ⟨⟨fun args o v h => by unfold Fk35 at h; split at h <;> cases h; first | trivial | (simp [v35, Scalar, Scalar2, Scalar1, stC, ndC, itC, chC, nwC]), fun args K h => by
        unfold pureC Fk35 at h; split at h
        · rename_i h1; split at h1 <;> cases h1; exact absurd (h.1 _ rfl).1 (Nat.not_lt_zero _)
        · exact h.elim⟩, callable Try.func35 rfl (by rfl)⟩
  | succ k ih =>
    refine pure_ok (E := E35 k) (mkE_cons ih (mkE_nil tab_ok)) mix (O := O35) (F := (Fk35 (k + 1))) Try.func35 rfl (by rfl) (by kernel_rfl) (fun args o v h => ?_) (fun args o v h => ?_) (fun args o v h hbd hp K hK => ?_)
    · unfold Fk35 at h; split at h <;> cases h; first | trivial | (simp [v35, Scalar, Scalar2, Scalar1, stC, ndC, itC, chC, nwC])
    · unfold Fk35 at h; split at h <;> cases h; exact Nat.le_of_ble_eq_true rfl
    · unfold Fk35 at h; split at h
      case h_2 => cases h
      cases h
      exact a35 k ⟨_, _, _, _, _⟩ (hp _ rfl).1 (by exact hbd) (hp _ rfl).2 K hK
theorem s35 : (CtrOK Try.prog 35 (.pure F35) ∧ Callable Try.prog 35) := by
  refine ⟨⟨fun args o v h => ?_, fun args K h => ?_⟩, (r35 0).2⟩
  · unfold F35 at h; split at h <;> cases h; first | trivial | (simp [v35, Scalar, Scalar2, Scalar1, stC, ndC, itC, chC, nwC])
  · unfold pureC F35 at h; split at h
    · rename_i h1; split at h1 <;> cases h1
      exact (r35 (m35 ⟨_, _, _, _, _⟩ + 1)).1.2 _ K ⟨fun p hp => by cases hp; exact ⟨Nat.lt_succ_self _, trivial⟩, h.2⟩
    · exact h.elim
noncomputable def v16 (n : Nd) : AV := .bool (validM n && plainM n)
noncomputable def o16 (n : Nd) : Prop := True
noncomputable def F16 : List AV → QR
  | [.st [.int .i64 n_0, .int .i64 n_1, .str n_2, .ps .str n_3, .ps .node n_4]] => some (none, v16 ⟨n_0, n_1, n_2, n_3, n_4⟩)
  | _ => none
noncomputable def E16 : Ctx := mkE tab [(15, .pure F15), (35, .pure F35)]
noncomputable def O16 : Nat → List DI := ordL []
theorem a16 (n : Nd) (hb : BdAs [.st (ndC n)]) (ho : o16 n) (K : AV → List AV → Prop) (hK : K (v16 n) []) : abody E16 O16 .ps Try.f16 (Try.f16.body.getD .skip) [.st (ndC n)] K := by
  simp only [BdAs, BdA, BdL, BdC, MX, ndC, shC, itC, stC, opC, chC, nwC, flC, rqC, rsC, enc, List.cons_append, List.nil_append, and_true, true_and] at hb
  unfold v16 at hK
  conv => whnf
  repeat' first
    | (refine Cnd.mk (fun h => ?_) (fun h => ?_) <;> (try simp [nd_eta, sh_eta, it_eta, sto_eta, op_eta, ch_eta, nw_eta, fl_eta, rq_eta, rs_eta, elDef, -List.getD_eq_getElem?_getD] at h) <;> conv => whnf)
    | (refine Obl.mk (by first | omega | rfl | exact inK_byte _ | (simp only [inK, Int.toNat_natCast, nd_eta, sh_eta, it_eta, sto_eta, op_eta, ch_eta, nw_eta, fl_eta, rq_eta, rs_eta, elDef, o35, m35] <;> first | omega | grind) | grind [inK, o35, m35]) ?_ <;> conv => whnf)
    | (refine OblG.mk (by conv => whnf
                          repeat (first | (refine Bx.mk ?_) | (intro h; (try simp [nd_eta, sh_eta, it_eta, sto_eta, op_eta, ch_eta, nw_eta, fl_eta, rq_eta, rs_eta, elDef, -List.getD_eq_getElem?_getD] at h); conv => whnf))
                          first | omega | rfl | exact inK_byte _ | (simp only [inK, Int.toNat_natCast, nd_eta, sh_eta, it_eta, sto_eta, op_eta, ch_eta, nw_eta, fl_eta, rq_eta, rs_eta, elDef, o35, m35] <;> first | omega | grind) | grind [inK, o35, m35]) ?_ <;> conv => whnf)
    | (refine Gd.mk (fun h => ?_) <;> (try simp [nd_eta, sh_eta, it_eta, sto_eta, op_eta, ch_eta, nw_eta, fl_eta, rq_eta, rs_eta, elDef, -List.getD_eq_getElem?_getD] at h) <;> conv => whnf)
    | (refine And.intro ?_ ?_ <;> conv => whnf)
    | exact True.intro
    | (intro; conv => whnf)
  exact leafB hK (by simp only [nd_eta])
theorem s16 : (CtrOK Try.prog 16 (.pure F16) ∧ Callable Try.prog 16) := by
  refine pure_ok (E := E16) (mkE_cons s15 (mkE_cons s35 (mkE_nil tab_ok))) mix (O := O16) (F := F16) Try.func16 rfl (by rfl) (by kernel_rfl) (fun args o v h => ?_) (fun args o v h => ?_) (fun args o v h hbd hp K hK => ?_)
  · unfold F16 at h; split at h <;> cases h; first | trivial | (simp [v16, Scalar, Scalar2, Scalar1, stC, ndC, itC, chC, nwC])
  · unfold F16 at h; split at h <;> cases h; exact Nat.le_of_ble_eq_true rfl
  · unfold F16 at h; split at h
    case h_2 => cases h
    cases h
    exact a16 ⟨_, _, _, _, _⟩ (by exact hbd) trivial K hK
def loN (f : Bool) (l : List It) : List (Nat × LC) := match f with
  | true => [(5, .box [.int .i64 4, .int .i64 0, .str [], .nils .str, .nils .node])]
  | false => [(5, .box [.int .i64 4, .int .i64 0, .str [], .ls 902, .ls 903]), (902, .arr .str (l.map (·.name))), (903, .arr .node (l.map (·.node)))]
noncomputable def c18 (a : Nd) (b : Nd) (K : AV → List AV → Prop) : Prop :=
    Obl (okN a ∧ okN b) (K (.st (ndC (patM a b))) [])
noncomputable def m18 (a : Nd) (b : Nd) : Nat := SizeOf.sizeOf a
noncomputable def C18 : List AV → (AV → List AV → Prop) → Prop
  | [.st [.int .i64 a_0, .int .i64 a_1, .str a_2, .ps .str a_3, .ps .node a_4], .st [.int .i64 b_0, .int .i64 b_1, .str b_2, .ps .str b_3, .ps .node b_4]], K => c18 ⟨a_0, a_1, a_2, a_3, a_4⟩ ⟨b_0, b_1, b_2, b_3, b_4⟩ K
  | _, _ => False
noncomputable def Ck18 (k : Nat) : List AV → (AV → List AV → Prop) → Prop
  | [.st [.int .i64 a_0, .int .i64 a_1, .str a_2, .ps .str a_3, .ps .node a_4], .st [.int .i64 b_0, .int .i64 b_1, .str b_2, .ps .str b_3, .ps .node b_4]], K => Obl (m18 ⟨a_0, a_1, a_2, a_3, a_4⟩ ⟨b_0, b_1, b_2, b_3, b_4⟩ < k) (c18 ⟨a_0, a_1, a_2, a_3, a_4⟩ ⟨b_0, b_1, b_2, b_3, b_4⟩ K)
  | _, _ => False
noncomputable def E18 (k : Nat) : Ctx := mkE tab [(18, .gen .ps (Ck18 k)), (36, .gen .ow C36), (37, .pure F37), (38, .gen .ps C38), (39, .pure F39)]
noncomputable def O18 : Nat → List DI := ordL [(10, [.q 0, .q 1, .q 2, .q 3, .q 4, .q 5, .q 6, .q 7, .q 8, .q 9, .q 10, .q 11, .q 12]), (11, [.q 0, .q 1, .q 2, .q 3, .q 4, .q 5, .q 6, .q 7, .q 8, .q 9, .q 10, .l 11 [], .l 12 []])]
theorem a18 (k : Nat) (a : Nd) (b : Nd) (hm : m18 a b < k + 1) (hb : BdAs [.st (ndC a), .st (ndC b)]) (K : AV → List AV → Prop) (h : c18 a b K) : abody (E18 k) O18 .ps Try.f18 (Try.f18.body.getD .skip) [.st (ndC a), .st (ndC b)] K := by
  simp only [BdAs, BdA, BdL, BdC, MX, ndC, shC, itC, stC, opC, chC, nwC, flC, rqC, rsC, enc, List.cons_append, List.nil_append, and_true, true_and] at hb
  unfold c18 at h
  unfold m18 at hm
  obtain ⟨⟨ha, hb⟩, hK⟩ := h
  have hsb := hb.sm
  have hme := patM_eq a b
  conv => whnf
  repeat' first
    | (refine Cnd.mk (fun h => ?_) (fun h => ?_) <;> (try simp [nd_eta, sh_eta, it_eta, sto_eta, op_eta, ch_eta, nw_eta, fl_eta, rq_eta, rs_eta, elDef, -List.getD_eq_getElem?_getD] at h) <;> conv => whnf)
    | (refine Obl.mk (by first | omega | rfl | exact inK_byte _ | (simp only [inK, Int.toNat_natCast, nd_eta, sh_eta, it_eta, sto_eta, op_eta, ch_eta, nw_eta, fl_eta, rq_eta, rs_eta, elDef, m18, m18, m36, o37, o39] <;> first | omega | grind) | grind [inK, m18, m18, m36, o37, o39]) ?_ <;> conv => whnf)
    | (refine OblG.mk (by conv => whnf
                          repeat (first | (refine Bx.mk ?_) | (intro h; (try simp [nd_eta, sh_eta, it_eta, sto_eta, op_eta, ch_eta, nw_eta, fl_eta, rq_eta, rs_eta, elDef, -List.getD_eq_getElem?_getD] at h); conv => whnf))
                          first | omega | rfl | exact inK_byte _ | (simp only [inK, Int.toNat_natCast, nd_eta, sh_eta, it_eta, sto_eta, op_eta, ch_eta, nw_eta, fl_eta, rq_eta, rs_eta, elDef, m18, m18, m36, o37, o39] <;> first | omega | grind) | grind [inK, m18, m18, m36, o37, o39]) ?_ <;> conv => whnf)
    | (refine Gd.mk (fun h => ?_) <;> (try simp [nd_eta, sh_eta, it_eta, sto_eta, op_eta, ch_eta, nw_eta, fl_eta, rq_eta, rs_eta, elDef, -List.getD_eq_getElem?_getD] at h) <;> conv => whnf)
    | (refine And.intro ?_ ?_ <;> conv => whnf)
    | exact True.intro
    | (intro; conv => whnf)
  · rw [hme, if_neg (by omega)] at hK
    exact leafV hK rfl
  have hla := (okN_names ha).2.1 h.1
  have hlb := (okN_names hb).2.1 h.2
  have hk1 := h.1
  have hk2 := h.2
  have h6 := (okN_names ha).1
  have h7 := (okN_names hb).1
  replace hme := patM_map ha hk1 hk2
  clear h
  refine aloop_intro (Nat × Bool) (fun q => q.1 ≤ a.names.length ∧ (q.2 = true → accA a b q.1 = [])) (fun q => a.names.length - q.1) (fun q => [(28, .int .i64 q.1)]) (fun q => loM q.2 (accA a b q.1)) [2, 3, 4] (0, true) [] [] ⟨Nat.zero_le _, fun _ => accA_zero a b⟩ ?_ (by exact sgOk_of (by rfl)) ?_
  · (conv => whnf); (repeat' (first | exact trivial | rfl | (refine nilEq ?_; first | rfl | (simp only [*]; done) | (simp [*]; done) | grind) | apply And.intro | ((first | refine intEq ?_ | refine boolEq ?_ | refine strEq ?_ | refine psEq ?_ | refine nilEq ?_ | refine arrEq ?_); (try simp only [Int.toNat_natCast, nd_eta, sh_eta, it_eta, sto_eta, op_eta, ch_eta, nw_eta, fl_eta, rq_eta, rs_eta, elDef]); first | done | omega | grind | (simp only [*]; done) | (simp [*]; done)))); (all_goals (conv => whnf)); (repeat' (first | exact trivial | rfl | (refine nilEq ?_; first | rfl | (simp only [*]; done) | (simp [*]; done) | grind) | apply And.intro | ((first | refine intEq ?_ | refine boolEq ?_ | refine strEq ?_ | refine psEq ?_ | refine nilEq ?_ | refine arrEq ?_); (try simp only [Int.toNat_natCast, nd_eta, sh_eta, it_eta, sto_eta, op_eta, ch_eta, nw_eta, fl_eta, rq_eta, rs_eta, elDef]); first | done | omega | grind | (simp only [*]; done) | (simp [*]; done)) | ((try simp only [Int.toNat_natCast, nd_eta, sh_eta, it_eta, sto_eta, op_eta, ch_eta, nw_eta, fl_eta, rq_eta, rs_eta, elDef]); first | done | omega | grind | (simp only [*]; done) | (simp [*]; done))))
  rintro ⟨i, _ | _⟩ ⟨hi, hj⟩
  · dsimp only at hi hj
    have hf := accA_facts (a := a) (b := b) (i := i) hi (by omega)
    have hkm := kid_map (b := a.names.getD i []) hb hk2
    have hflt := fun h => found_lt (ns := b.names) (b := a.names.getD i []) h
    have hsb2 := okN_sorted hb hk2
    have hkoA := fun (h : i < a.kids.length) => okN_kid ha h
    have hkoB := fun (h : lbI (nmI b.names) (a.names.getD i []) < b.kids.length) => okN_kid hb h
    have hks := fun (h : i < a.kids.length) => kid_size h
    have hsu := fun (h : i < a.names.length) => accA_succ (b := b) h (show i < a.kids.length by omega)
    have ez := zip_back hf.2.1
    have hso := sorted_nm.2 hf.1
    have hl1 : ((accA a b i).map (·.name)).length = ((accA a b i).map (·.node)).length := by simp
    have hl2 : ((accA a b i).map (·.name)).length ≤ 100000 := by simp; omega
    conv => whnf
    repeat' first
      | (refine Cnd.mk (fun h => ?_) (fun h => ?_) <;> (try simp [nd_eta, sh_eta, it_eta, sto_eta, op_eta, ch_eta, nw_eta, fl_eta, rq_eta, rs_eta, elDef, -List.getD_eq_getElem?_getD] at h) <;> conv => whnf)
      | (refine Obl.mk (by first | omega | rfl | exact inK_byte _ | (simp only [inK, Int.toNat_natCast, nd_eta, sh_eta, it_eta, sto_eta, op_eta, ch_eta, nw_eta, fl_eta, rq_eta, rs_eta, elDef, m18, m18, m36, o37, o39] <;> first | omega | grind) | grind [inK, m18, m18, m36, o37, o39]) ?_ <;> conv => whnf)
      | (refine OblG.mk (by conv => whnf
                            repeat (first | (refine Bx.mk ?_) | (intro h; (try simp [nd_eta, sh_eta, it_eta, sto_eta, op_eta, ch_eta, nw_eta, fl_eta, rq_eta, rs_eta, elDef, -List.getD_eq_getElem?_getD] at h); conv => whnf))
                            first | omega | rfl | exact inK_byte _ | (simp only [inK, Int.toNat_natCast, nd_eta, sh_eta, it_eta, sto_eta, op_eta, ch_eta, nw_eta, fl_eta, rq_eta, rs_eta, elDef, m18, m18, m36, o37, o39] <;> first | omega | grind) | grind [inK, m18, m18, m36, o37, o39]) ?_ <;> conv => whnf)
      | (refine Gd.mk (fun h => ?_) <;> (try simp [nd_eta, sh_eta, it_eta, sto_eta, op_eta, ch_eta, nw_eta, fl_eta, rq_eta, rs_eta, elDef, -List.getD_eq_getElem?_getD] at h) <;> conv => whnf)
      | (refine And.intro ?_ ?_ <;> conv => whnf)
      | exact True.intro
      | (intro; conv => whnf)
    · rename_i h1
      have h2 : placeM b (a.names.getD i []) < 0 := by have := hkm.1; rw [h] at this; simpa using this
      have e9 : accA a b (i + 1) = putL (accA a b i) ⟨a.names.getD i [], 0, ⟨0, 0, [], [], []⟩⟩ := by rw [hsu h1]; unfold stepP; rw [if_pos h2]; rfl
      exact ⟨(i + 1, false), [(900, 46000), (901, 46001)], [], ⟨by omega, fun h => by cases h⟩, by show a.names.length - (i + 1) < a.names.length - i; omega, by (conv => whnf); (repeat' (first | exact trivial | rfl | (refine nilEq ?_; first | rfl | (simp only [*]; done) | (simp [*]; done) | grind) | apply And.intro | ((first | refine intEq ?_ | refine boolEq ?_ | refine strEq ?_ | refine psEq ?_ | refine nilEq ?_ | refine arrEq ?_); (try simp only [Int.toNat_natCast, nd_eta, sh_eta, it_eta, sto_eta, op_eta, ch_eta, nw_eta, fl_eta, rq_eta, rs_eta, elDef]); first | done | omega | (simp only [e9, ez])))); (all_goals (conv => whnf)); (repeat' (first | exact trivial | rfl | (refine nilEq ?_; first | rfl | (simp only [*]; done) | (simp [*]; done) | grind) | apply And.intro | ((first | refine intEq ?_ | refine boolEq ?_ | refine strEq ?_ | refine psEq ?_ | refine nilEq ?_ | refine arrEq ?_); (try simp only [Int.toNat_natCast, nd_eta, sh_eta, it_eta, sto_eta, op_eta, ch_eta, nw_eta, fl_eta, rq_eta, rs_eta, elDef]); first | done | omega | (simp only [e9, ez])) | ((try simp only [Int.toNat_natCast, nd_eta, sh_eta, it_eta, sto_eta, op_eta, ch_eta, nw_eta, fl_eta, rq_eta, rs_eta, elDef]); first | done | omega | (simp only [e9, ez])))), (by exact sgOk_of (by rfl))⟩
    · rename_i h1 h2
      have h3 := hkm.2 h2
      have e9 : accA a b (i + 1) = putL (accA a b i) ⟨a.names.getD i [], 0, patM (a.kids.getD i default) (b.kids.getD (lbI (nmI b.names) (a.names.getD i [])) default)⟩ := by rw [hsu h1]; unfold stepP; rw [if_neg (by omega), h3, Int.toNat_natCast, if_neg h]
      exact ⟨(i + 1, false), [(900, 72000), (901, 72001)], [], ⟨by omega, fun h => by cases h⟩, by show a.names.length - (i + 1) < a.names.length - i; omega, by (conv => whnf); (repeat' (first | exact trivial | rfl | (refine nilEq ?_; first | rfl | (simp only [*]; done) | (simp [*]; done) | grind) | apply And.intro | ((first | refine intEq ?_ | refine boolEq ?_ | refine strEq ?_ | refine psEq ?_ | refine nilEq ?_ | refine arrEq ?_); (try simp only [Int.toNat_natCast, nd_eta, sh_eta, it_eta, sto_eta, op_eta, ch_eta, nw_eta, fl_eta, rq_eta, rs_eta, elDef]); first | done | omega | (simp only [e9, ez])))); (all_goals (conv => whnf)); (repeat' (first | exact trivial | rfl | (refine nilEq ?_; first | rfl | (simp only [*]; done) | (simp [*]; done) | grind) | apply And.intro | ((first | refine intEq ?_ | refine boolEq ?_ | refine strEq ?_ | refine psEq ?_ | refine nilEq ?_ | refine arrEq ?_); (try simp only [Int.toNat_natCast, nd_eta, sh_eta, it_eta, sto_eta, op_eta, ch_eta, nw_eta, fl_eta, rq_eta, rs_eta, elDef]); first | done | omega | (simp only [e9, ez])) | ((try simp only [Int.toNat_natCast, nd_eta, sh_eta, it_eta, sto_eta, op_eta, ch_eta, nw_eta, fl_eta, rq_eta, rs_eta, elDef]); first | done | omega | (simp only [e9, ez])))), (by exact sgOk_of (by rfl))⟩
    · rename_i h1 h2
      have h3 := hkm.2 h2
      have e9 : accA a b (i + 1) = (accA a b i) := by rw [hsu h1]; unfold stepP; rw [if_neg (by omega), h3, Int.toNat_natCast, if_pos h]
      exact ⟨(i + 1, false), [], [], ⟨by omega, fun h => by cases h⟩, by show a.names.length - (i + 1) < a.names.length - i; omega, by (conv => whnf); (repeat' (first | exact trivial | rfl | (refine nilEq ?_; first | rfl | (simp only [*]; done) | (simp [*]; done) | grind) | apply And.intro | ((first | refine intEq ?_ | refine boolEq ?_ | refine strEq ?_ | refine psEq ?_ | refine nilEq ?_ | refine arrEq ?_); (try simp only [Int.toNat_natCast, nd_eta, sh_eta, it_eta, sto_eta, op_eta, ch_eta, nw_eta, fl_eta, rq_eta, rs_eta, elDef]); first | done | omega | (simp only [e9])))); (all_goals (conv => whnf)); (repeat' (first | exact trivial | rfl | (refine nilEq ?_; first | rfl | (simp only [*]; done) | (simp [*]; done) | grind) | apply And.intro | ((first | refine intEq ?_ | refine boolEq ?_ | refine strEq ?_ | refine psEq ?_ | refine nilEq ?_ | refine arrEq ?_); (try simp only [Int.toNat_natCast, nd_eta, sh_eta, it_eta, sto_eta, op_eta, ch_eta, nw_eta, fl_eta, rq_eta, rs_eta, elDef]); first | done | omega | (simp only [e9])) | ((try simp only [Int.toNat_natCast, nd_eta, sh_eta, it_eta, sto_eta, op_eta, ch_eta, nw_eta, fl_eta, rq_eta, rs_eta, elDef]); first | done | omega | (simp only [e9])))), (by exact sgOk_of (by rfl))⟩
    have hall : accA a b a.names.length = accA a b i := by rw [show a.names.length = i by omega]
    refine aloop_intro (Nat × Bool) (fun q => q.1 ≤ b.names.length ∧ (q.2 = true → accB a b q.1 = [])) (fun q => b.names.length - q.1) (fun q => [(76, .int .i64 q.1)]) (fun q => loN q.2 (accB a b q.1)) [2, 3, 4] (0, false) [(902, 900), (903, 901)] [] ⟨Nat.zero_le _, fun h => by cases h⟩ ?_ (by exact sgOk_of (by rfl)) ?_
    · (conv => whnf); (repeat' (first | exact trivial | rfl | (refine nilEq ?_; first | rfl | (simp only [*]; done) | (simp [*]; done) | grind) | apply And.intro | ((first | refine intEq ?_ | refine boolEq ?_ | refine strEq ?_ | refine psEq ?_ | refine nilEq ?_ | refine arrEq ?_); (try simp only [Int.toNat_natCast, nd_eta, sh_eta, it_eta, sto_eta, op_eta, ch_eta, nw_eta, fl_eta, rq_eta, rs_eta, elDef]); first | done | omega | (simp only [accB_zero, hall])))); (all_goals (conv => whnf)); (repeat' (first | exact trivial | rfl | (refine nilEq ?_; first | rfl | (simp only [*]; done) | (simp [*]; done) | grind) | apply And.intro | ((first | refine intEq ?_ | refine boolEq ?_ | refine strEq ?_ | refine psEq ?_ | refine nilEq ?_ | refine arrEq ?_); (try simp only [Int.toNat_natCast, nd_eta, sh_eta, it_eta, sto_eta, op_eta, ch_eta, nw_eta, fl_eta, rq_eta, rs_eta, elDef]); first | done | omega | (simp only [accB_zero, hall])) | ((try simp only [Int.toNat_natCast, nd_eta, sh_eta, it_eta, sto_eta, op_eta, ch_eta, nw_eta, fl_eta, rq_eta, rs_eta, elDef]); first | done | omega | (simp only [accB_zero, hall]))))
    rintro ⟨j, _ | _⟩ ⟨hj, hj9⟩
    · dsimp only at hj hj9
      have hf := accB_facts (b := b) hla j
      have hkm := kid_map (b := b.names.getD j []) ha hk1
      have hsa2 := okN_sorted ha hk1
      have hkoB := fun (h : j < b.kids.length) => (okN_kid hb h).sm
      have hsu := accB_succ a b j
      have ez := zip_back hf.2.1
      have hso := sorted_nm.2 hf.1
      have hl1 : ((accB a b j).map (·.name)).length = ((accB a b j).map (·.node)).length := by simp
      have hl2 : ((accB a b j).map (·.name)).length ≤ 100000 := by simp; omega
      conv => whnf
      repeat' first
        | (refine Cnd.mk (fun h => ?_) (fun h => ?_) <;> (try simp [nd_eta, sh_eta, it_eta, sto_eta, op_eta, ch_eta, nw_eta, fl_eta, rq_eta, rs_eta, elDef, -List.getD_eq_getElem?_getD] at h) <;> conv => whnf)
        | (refine Obl.mk (by first | omega | rfl | exact inK_byte _ | (simp only [inK, Int.toNat_natCast, nd_eta, sh_eta, it_eta, sto_eta, op_eta, ch_eta, nw_eta, fl_eta, rq_eta, rs_eta, elDef, m18, m18, m36, o37, o39] <;> first | omega | grind) | grind [inK, m18, m18, m36, o37, o39]) ?_ <;> conv => whnf)
        | (refine OblG.mk (by conv => whnf
                              repeat (first | (refine Bx.mk ?_) | (intro h; (try simp [nd_eta, sh_eta, it_eta, sto_eta, op_eta, ch_eta, nw_eta, fl_eta, rq_eta, rs_eta, elDef, -List.getD_eq_getElem?_getD] at h); conv => whnf))
                              first | omega | rfl | exact inK_byte _ | (simp only [inK, Int.toNat_natCast, nd_eta, sh_eta, it_eta, sto_eta, op_eta, ch_eta, nw_eta, fl_eta, rq_eta, rs_eta, elDef, m18, m18, m36, o37, o39] <;> first | omega | grind) | grind [inK, m18, m18, m36, o37, o39]) ?_ <;> conv => whnf)
        | (refine Gd.mk (fun h => ?_) <;> (try simp [nd_eta, sh_eta, it_eta, sto_eta, op_eta, ch_eta, nw_eta, fl_eta, rq_eta, rs_eta, elDef, -List.getD_eq_getElem?_getD] at h) <;> conv => whnf)
        | (refine And.intro ?_ ?_ <;> conv => whnf)
        | exact True.intro
        | (intro; conv => whnf)
      · rename_i h1
        have h2 : placeM a (b.names.getD j []) < 0 := by have := hkm.1; rw [h] at this; simpa using this
        have e9 : accB a b (j + 1) = putL (accB a b j) ⟨b.names.getD j [], 0, b.kids.getD j default⟩ := by rw [hsu, if_pos h2]
        exact ⟨(j + 1, false), [(902, 98000), (903, 98001)], [], ⟨by omega, fun h => by cases h⟩, by show b.names.length - (j + 1) < b.names.length - j; omega, by (conv => whnf); (repeat' (first | exact trivial | rfl | (refine nilEq ?_; first | rfl | (simp only [*]; done) | (simp [*]; done) | grind) | apply And.intro | ((first | refine intEq ?_ | refine boolEq ?_ | refine strEq ?_ | refine psEq ?_ | refine nilEq ?_ | refine arrEq ?_); (try simp only [Int.toNat_natCast, nd_eta, sh_eta, it_eta, sto_eta, op_eta, ch_eta, nw_eta, fl_eta, rq_eta, rs_eta, elDef]); first | done | omega | (simp only [e9, ez])))); (all_goals (conv => whnf)); (repeat' (first | exact trivial | rfl | (refine nilEq ?_; first | rfl | (simp only [*]; done) | (simp [*]; done) | grind) | apply And.intro | ((first | refine intEq ?_ | refine boolEq ?_ | refine strEq ?_ | refine psEq ?_ | refine nilEq ?_ | refine arrEq ?_); (try simp only [Int.toNat_natCast, nd_eta, sh_eta, it_eta, sto_eta, op_eta, ch_eta, nw_eta, fl_eta, rq_eta, rs_eta, elDef]); first | done | omega | (simp only [e9, ez])) | ((try simp only [Int.toNat_natCast, nd_eta, sh_eta, it_eta, sto_eta, op_eta, ch_eta, nw_eta, fl_eta, rq_eta, rs_eta, elDef]); first | done | omega | (simp only [e9, ez])))), (by exact sgOk_of (by rfl))⟩
      · rename_i h1
        have h2 := hkm.2 h
        have e9 : accB a b (j + 1) = (accB a b j) := by rw [hsu, if_neg (by omega)]
        exact ⟨(j + 1, false), [], [], ⟨by omega, fun h => by cases h⟩, by show b.names.length - (j + 1) < b.names.length - j; omega, by (conv => whnf); (repeat' (first | exact trivial | rfl | (refine nilEq ?_; first | rfl | (simp only [*]; done) | (simp [*]; done) | grind) | apply And.intro | ((first | refine intEq ?_ | refine boolEq ?_ | refine strEq ?_ | refine psEq ?_ | refine nilEq ?_ | refine arrEq ?_); (try simp only [Int.toNat_natCast, nd_eta, sh_eta, it_eta, sto_eta, op_eta, ch_eta, nw_eta, fl_eta, rq_eta, rs_eta, elDef]); first | done | omega | (simp only [e9])))); (all_goals (conv => whnf)); (repeat' (first | exact trivial | rfl | (refine nilEq ?_; first | rfl | (simp only [*]; done) | (simp [*]; done) | grind) | apply And.intro | ((first | refine intEq ?_ | refine boolEq ?_ | refine strEq ?_ | refine psEq ?_ | refine nilEq ?_ | refine arrEq ?_); (try simp only [Int.toNat_natCast, nd_eta, sh_eta, it_eta, sto_eta, op_eta, ch_eta, nw_eta, fl_eta, rq_eta, rs_eta, elDef]); first | done | omega | (simp only [e9])) | ((try simp only [Int.toNat_natCast, nd_eta, sh_eta, it_eta, sto_eta, op_eta, ch_eta, nw_eta, fl_eta, rq_eta, rs_eta, elDef]); first | done | omega | (simp only [e9])))), (by exact sgOk_of (by rfl))⟩
      · rename_i h1
        have e9 : patM a b = ndOf (accB a b j) := by rw [hme, show b.names.length = j by omega]
        exact leafV hK (by rw [e9]; rfl)
    · dsimp only at hj hj9
      replace hj9 := hj9 rfl
      have hf := accB_facts (b := b) hla j
      have hkm := kid_map (b := b.names.getD j []) ha hk1
      have hsa2 := okN_sorted ha hk1
      have hkoB := fun (h : j < b.kids.length) => (okN_kid hb h).sm
      have hsu := accB_succ a b j
      have ez : zipI [] [] = [] := rfl
      have hsn0 : sortedI (nmI []) := by intro a b _ h; simp [nmI] at h
      rw [hj9] at hsu
      conv => whnf
      repeat' first
        | (refine Cnd.mk (fun h => ?_) (fun h => ?_) <;> (try simp [nd_eta, sh_eta, it_eta, sto_eta, op_eta, ch_eta, nw_eta, fl_eta, rq_eta, rs_eta, elDef, -List.getD_eq_getElem?_getD] at h) <;> conv => whnf)
        | (refine Obl.mk (by first | omega | rfl | exact inK_byte _ | (simp only [inK, Int.toNat_natCast, nd_eta, sh_eta, it_eta, sto_eta, op_eta, ch_eta, nw_eta, fl_eta, rq_eta, rs_eta, elDef, m18, m18, m36, o37, o39] <;> first | omega | grind) | grind [inK, m18, m18, m36, o37, o39]) ?_ <;> conv => whnf)
        | (refine OblG.mk (by conv => whnf
                              repeat (first | (refine Bx.mk ?_) | (intro h; (try simp [nd_eta, sh_eta, it_eta, sto_eta, op_eta, ch_eta, nw_eta, fl_eta, rq_eta, rs_eta, elDef, -List.getD_eq_getElem?_getD] at h); conv => whnf))
                              first | omega | rfl | exact inK_byte _ | (simp only [inK, Int.toNat_natCast, nd_eta, sh_eta, it_eta, sto_eta, op_eta, ch_eta, nw_eta, fl_eta, rq_eta, rs_eta, elDef, m18, m18, m36, o37, o39] <;> first | omega | grind) | grind [inK, m18, m18, m36, o37, o39]) ?_ <;> conv => whnf)
        | (refine Gd.mk (fun h => ?_) <;> (try simp [nd_eta, sh_eta, it_eta, sto_eta, op_eta, ch_eta, nw_eta, fl_eta, rq_eta, rs_eta, elDef, -List.getD_eq_getElem?_getD] at h) <;> conv => whnf)
        | (refine And.intro ?_ ?_ <;> conv => whnf)
        | exact True.intro
        | (intro; conv => whnf)
      · rename_i h1
        have h2 : placeM a (b.names.getD j []) < 0 := by have := hkm.1; rw [h] at this; simpa using this
        have e9 : accB a b (j + 1) = putL [] ⟨b.names.getD j [], 0, b.kids.getD j default⟩ := by rw [hsu, if_pos h2]
        exact ⟨(j + 1, false), [(902, 98000), (903, 98001)], [], ⟨by omega, fun h => by cases h⟩, by show b.names.length - (j + 1) < b.names.length - j; omega, by (conv => whnf); (repeat' (first | exact trivial | rfl | (refine nilEq ?_; first | rfl | (simp only [*]; done) | (simp [*]; done) | grind) | apply And.intro | ((first | refine intEq ?_ | refine boolEq ?_ | refine strEq ?_ | refine psEq ?_ | refine nilEq ?_ | refine arrEq ?_); (try simp only [Int.toNat_natCast, nd_eta, sh_eta, it_eta, sto_eta, op_eta, ch_eta, nw_eta, fl_eta, rq_eta, rs_eta, elDef]); first | done | omega | (simp only [e9, ez])))); (all_goals (conv => whnf)); (repeat' (first | exact trivial | rfl | (refine nilEq ?_; first | rfl | (simp only [*]; done) | (simp [*]; done) | grind) | apply And.intro | ((first | refine intEq ?_ | refine boolEq ?_ | refine strEq ?_ | refine psEq ?_ | refine nilEq ?_ | refine arrEq ?_); (try simp only [Int.toNat_natCast, nd_eta, sh_eta, it_eta, sto_eta, op_eta, ch_eta, nw_eta, fl_eta, rq_eta, rs_eta, elDef]); first | done | omega | (simp only [e9, ez])) | ((try simp only [Int.toNat_natCast, nd_eta, sh_eta, it_eta, sto_eta, op_eta, ch_eta, nw_eta, fl_eta, rq_eta, rs_eta, elDef]); first | done | omega | (simp only [e9, ez])))), (by exact sgOk_of (by rfl))⟩
      · rename_i h1
        have h2 := hkm.2 h
        have e9 : accB a b (j + 1) = [] := by rw [hsu, if_neg (by omega)]
        exact ⟨(j + 1, true), [], [], ⟨by omega, fun _ => e9⟩, by show b.names.length - (j + 1) < b.names.length - j; omega, by (conv => whnf); (repeat' (first | exact trivial | rfl | (refine nilEq ?_; first | rfl | (simp only [*]; done) | (simp [*]; done) | grind) | apply And.intro | ((first | refine intEq ?_ | refine boolEq ?_ | refine strEq ?_ | refine psEq ?_ | refine nilEq ?_ | refine arrEq ?_); (try simp only [Int.toNat_natCast, nd_eta, sh_eta, it_eta, sto_eta, op_eta, ch_eta, nw_eta, fl_eta, rq_eta, rs_eta, elDef]); first | done | omega | (simp only [e9])))); (all_goals (conv => whnf)); (repeat' (first | exact trivial | rfl | (refine nilEq ?_; first | rfl | (simp only [*]; done) | (simp [*]; done) | grind) | apply And.intro | ((first | refine intEq ?_ | refine boolEq ?_ | refine strEq ?_ | refine psEq ?_ | refine nilEq ?_ | refine arrEq ?_); (try simp only [Int.toNat_natCast, nd_eta, sh_eta, it_eta, sto_eta, op_eta, ch_eta, nw_eta, fl_eta, rq_eta, rs_eta, elDef]); first | done | omega | (simp only [e9])) | ((try simp only [Int.toNat_natCast, nd_eta, sh_eta, it_eta, sto_eta, op_eta, ch_eta, nw_eta, fl_eta, rq_eta, rs_eta, elDef]); first | done | omega | (simp only [e9])))), (by exact sgOk_of (by rfl))⟩
      · rename_i h1
        have e9 : patM a b = ndOf [] := by rw [hme, show b.names.length = j by omega, hj9]
        exact leafV hK (by rw [e9]; rfl)
  · dsimp only at hi hj
    have h00 := hj rfl
    have hf := accA_facts (a := a) (b := b) (i := i) hi (by omega)
    have hkm := kid_map (b := a.names.getD i []) hb hk2
    have hflt := fun h => found_lt (ns := b.names) (b := a.names.getD i []) h
    have hsb2 := okN_sorted hb hk2
    have hkoA := fun (h : i < a.kids.length) => okN_kid ha h
    have hkoB := fun (h : lbI (nmI b.names) (a.names.getD i []) < b.kids.length) => okN_kid hb h
    have hks := fun (h : i < a.kids.length) => kid_size h
    have hsu := fun (h : i < a.names.length) => accA_succ (b := b) h (show i < a.kids.length by omega)
    have ez : zipI [] [] = [] := rfl
    have hsn0 : sortedI (nmI []) := by intro a b _ h; simp [nmI] at h
    rw [h00] at hsu
    conv => whnf
    repeat' first
      | (refine Cnd.mk (fun h => ?_) (fun h => ?_) <;> (try simp [nd_eta, sh_eta, it_eta, sto_eta, op_eta, ch_eta, nw_eta, fl_eta, rq_eta, rs_eta, elDef, -List.getD_eq_getElem?_getD] at h) <;> conv => whnf)
      | (refine Obl.mk (by first | omega | rfl | exact inK_byte _ | (simp only [inK, Int.toNat_natCast, nd_eta, sh_eta, it_eta, sto_eta, op_eta, ch_eta, nw_eta, fl_eta, rq_eta, rs_eta, elDef, m18, m18, m36, o37, o39] <;> first | omega | grind) | grind [inK, m18, m18, m36, o37, o39]) ?_ <;> conv => whnf)
      | (refine OblG.mk (by conv => whnf
                            repeat (first | (refine Bx.mk ?_) | (intro h; (try simp [nd_eta, sh_eta, it_eta, sto_eta, op_eta, ch_eta, nw_eta, fl_eta, rq_eta, rs_eta, elDef, -List.getD_eq_getElem?_getD] at h); conv => whnf))
                            first | omega | rfl | exact inK_byte _ | (simp only [inK, Int.toNat_natCast, nd_eta, sh_eta, it_eta, sto_eta, op_eta, ch_eta, nw_eta, fl_eta, rq_eta, rs_eta, elDef, m18, m18, m36, o37, o39] <;> first | omega | grind) | grind [inK, m18, m18, m36, o37, o39]) ?_ <;> conv => whnf)
      | (refine Gd.mk (fun h => ?_) <;> (try simp [nd_eta, sh_eta, it_eta, sto_eta, op_eta, ch_eta, nw_eta, fl_eta, rq_eta, rs_eta, elDef, -List.getD_eq_getElem?_getD] at h) <;> conv => whnf)
      | (refine And.intro ?_ ?_ <;> conv => whnf)
      | exact True.intro
      | (intro; conv => whnf)
    · rename_i h1
      have h2 : placeM b (a.names.getD i []) < 0 := by have := hkm.1; rw [h] at this; simpa using this
      have e9 : accA a b (i + 1) = putL [] ⟨a.names.getD i [], 0, ⟨0, 0, [], [], []⟩⟩ := by rw [hsu h1]; unfold stepP; rw [if_pos h2]; rfl
      exact ⟨(i + 1, false), [(900, 46000), (901, 46001)], [], ⟨by omega, fun h => by cases h⟩, by show a.names.length - (i + 1) < a.names.length - i; omega, by (conv => whnf); (repeat' (first | exact trivial | rfl | (refine nilEq ?_; first | rfl | (simp only [*]; done) | (simp [*]; done) | grind) | apply And.intro | ((first | refine intEq ?_ | refine boolEq ?_ | refine strEq ?_ | refine psEq ?_ | refine nilEq ?_ | refine arrEq ?_); (try simp only [Int.toNat_natCast, nd_eta, sh_eta, it_eta, sto_eta, op_eta, ch_eta, nw_eta, fl_eta, rq_eta, rs_eta, elDef]); first | done | omega | (simp only [e9, ez])))); (all_goals (conv => whnf)); (repeat' (first | exact trivial | rfl | (refine nilEq ?_; first | rfl | (simp only [*]; done) | (simp [*]; done) | grind) | apply And.intro | ((first | refine intEq ?_ | refine boolEq ?_ | refine strEq ?_ | refine psEq ?_ | refine nilEq ?_ | refine arrEq ?_); (try simp only [Int.toNat_natCast, nd_eta, sh_eta, it_eta, sto_eta, op_eta, ch_eta, nw_eta, fl_eta, rq_eta, rs_eta, elDef]); first | done | omega | (simp only [e9, ez])) | ((try simp only [Int.toNat_natCast, nd_eta, sh_eta, it_eta, sto_eta, op_eta, ch_eta, nw_eta, fl_eta, rq_eta, rs_eta, elDef]); first | done | omega | (simp only [e9, ez])))), (by exact sgOk_of (by rfl))⟩
    · rename_i h1 h2
      have h3 := hkm.2 h2
      have e9 : accA a b (i + 1) = putL [] ⟨a.names.getD i [], 0, patM (a.kids.getD i default) (b.kids.getD (lbI (nmI b.names) (a.names.getD i [])) default)⟩ := by rw [hsu h1]; unfold stepP; rw [if_neg (by omega), h3, Int.toNat_natCast, if_neg h]
      exact ⟨(i + 1, false), [(900, 72000), (901, 72001)], [], ⟨by omega, fun h => by cases h⟩, by show a.names.length - (i + 1) < a.names.length - i; omega, by (conv => whnf); (repeat' (first | exact trivial | rfl | (refine nilEq ?_; first | rfl | (simp only [*]; done) | (simp [*]; done) | grind) | apply And.intro | ((first | refine intEq ?_ | refine boolEq ?_ | refine strEq ?_ | refine psEq ?_ | refine nilEq ?_ | refine arrEq ?_); (try simp only [Int.toNat_natCast, nd_eta, sh_eta, it_eta, sto_eta, op_eta, ch_eta, nw_eta, fl_eta, rq_eta, rs_eta, elDef]); first | done | omega | (simp only [e9, ez])))); (all_goals (conv => whnf)); (repeat' (first | exact trivial | rfl | (refine nilEq ?_; first | rfl | (simp only [*]; done) | (simp [*]; done) | grind) | apply And.intro | ((first | refine intEq ?_ | refine boolEq ?_ | refine strEq ?_ | refine psEq ?_ | refine nilEq ?_ | refine arrEq ?_); (try simp only [Int.toNat_natCast, nd_eta, sh_eta, it_eta, sto_eta, op_eta, ch_eta, nw_eta, fl_eta, rq_eta, rs_eta, elDef]); first | done | omega | (simp only [e9, ez])) | ((try simp only [Int.toNat_natCast, nd_eta, sh_eta, it_eta, sto_eta, op_eta, ch_eta, nw_eta, fl_eta, rq_eta, rs_eta, elDef]); first | done | omega | (simp only [e9, ez])))), (by exact sgOk_of (by rfl))⟩
    · rename_i h1 h2
      have h3 := hkm.2 h2
      have e9 : accA a b (i + 1) = [] := by rw [hsu h1]; unfold stepP; rw [if_neg (by omega), h3, Int.toNat_natCast, if_pos h]
      exact ⟨(i + 1, true), [], [], ⟨by omega, fun _ => e9⟩, by show a.names.length - (i + 1) < a.names.length - i; omega, by (conv => whnf); (repeat' (first | exact trivial | rfl | (refine nilEq ?_; first | rfl | (simp only [*]; done) | (simp [*]; done) | grind) | apply And.intro | ((first | refine intEq ?_ | refine boolEq ?_ | refine strEq ?_ | refine psEq ?_ | refine nilEq ?_ | refine arrEq ?_); (try simp only [Int.toNat_natCast, nd_eta, sh_eta, it_eta, sto_eta, op_eta, ch_eta, nw_eta, fl_eta, rq_eta, rs_eta, elDef]); first | done | omega | (simp only [e9])))); (all_goals (conv => whnf)); (repeat' (first | exact trivial | rfl | (refine nilEq ?_; first | rfl | (simp only [*]; done) | (simp [*]; done) | grind) | apply And.intro | ((first | refine intEq ?_ | refine boolEq ?_ | refine strEq ?_ | refine psEq ?_ | refine nilEq ?_ | refine arrEq ?_); (try simp only [Int.toNat_natCast, nd_eta, sh_eta, it_eta, sto_eta, op_eta, ch_eta, nw_eta, fl_eta, rq_eta, rs_eta, elDef]); first | done | omega | (simp only [e9])) | ((try simp only [Int.toNat_natCast, nd_eta, sh_eta, it_eta, sto_eta, op_eta, ch_eta, nw_eta, fl_eta, rq_eta, rs_eta, elDef]); first | done | omega | (simp only [e9])))), (by exact sgOk_of (by rfl))⟩
    have hall : accA a b a.names.length = [] := by rw [show a.names.length = i by omega, h00]
    refine aloop_intro (Nat × Bool) (fun q => q.1 ≤ b.names.length ∧ (q.2 = true → accB a b q.1 = [])) (fun q => b.names.length - q.1) (fun q => [(76, .int .i64 q.1)]) (fun q => loN q.2 (accB a b q.1)) [2, 3, 4] (0, true) [] [] ⟨Nat.zero_le _, fun _ => by rw [accB_zero, hall]⟩ ?_ (by exact sgOk_of (by rfl)) ?_
    · (conv => whnf); (repeat' (first | exact trivial | rfl | (refine nilEq ?_; first | rfl | (simp only [*]; done) | (simp [*]; done) | grind) | apply And.intro | ((first | refine intEq ?_ | refine boolEq ?_ | refine strEq ?_ | refine psEq ?_ | refine nilEq ?_ | refine arrEq ?_); (try simp only [Int.toNat_natCast, nd_eta, sh_eta, it_eta, sto_eta, op_eta, ch_eta, nw_eta, fl_eta, rq_eta, rs_eta, elDef]); first | done | omega | (simp only [accB_zero, hall])))); (all_goals (conv => whnf)); (repeat' (first | exact trivial | rfl | (refine nilEq ?_; first | rfl | (simp only [*]; done) | (simp [*]; done) | grind) | apply And.intro | ((first | refine intEq ?_ | refine boolEq ?_ | refine strEq ?_ | refine psEq ?_ | refine nilEq ?_ | refine arrEq ?_); (try simp only [Int.toNat_natCast, nd_eta, sh_eta, it_eta, sto_eta, op_eta, ch_eta, nw_eta, fl_eta, rq_eta, rs_eta, elDef]); first | done | omega | (simp only [accB_zero, hall])) | ((try simp only [Int.toNat_natCast, nd_eta, sh_eta, it_eta, sto_eta, op_eta, ch_eta, nw_eta, fl_eta, rq_eta, rs_eta, elDef]); first | done | omega | (simp only [accB_zero, hall]))))
    rintro ⟨j, _ | _⟩ ⟨hj, hj9⟩
    · dsimp only at hj hj9
      have hf := accB_facts (b := b) hla j
      have hkm := kid_map (b := b.names.getD j []) ha hk1
      have hsa2 := okN_sorted ha hk1
      have hkoB := fun (h : j < b.kids.length) => (okN_kid hb h).sm
      have hsu := accB_succ a b j
      have ez := zip_back hf.2.1
      have hso := sorted_nm.2 hf.1
      have hl1 : ((accB a b j).map (·.name)).length = ((accB a b j).map (·.node)).length := by simp
      have hl2 : ((accB a b j).map (·.name)).length ≤ 100000 := by simp; omega
      conv => whnf
      repeat' first
        | (refine Cnd.mk (fun h => ?_) (fun h => ?_) <;> (try simp [nd_eta, sh_eta, it_eta, sto_eta, op_eta, ch_eta, nw_eta, fl_eta, rq_eta, rs_eta, elDef, -List.getD_eq_getElem?_getD] at h) <;> conv => whnf)
        | (refine Obl.mk (by first | omega | rfl | exact inK_byte _ | (simp only [inK, Int.toNat_natCast, nd_eta, sh_eta, it_eta, sto_eta, op_eta, ch_eta, nw_eta, fl_eta, rq_eta, rs_eta, elDef, m18, m18, m36, o37, o39] <;> first | omega | grind) | grind [inK, m18, m18, m36, o37, o39]) ?_ <;> conv => whnf)
        | (refine OblG.mk (by conv => whnf
                              repeat (first | (refine Bx.mk ?_) | (intro h; (try simp [nd_eta, sh_eta, it_eta, sto_eta, op_eta, ch_eta, nw_eta, fl_eta, rq_eta, rs_eta, elDef, -List.getD_eq_getElem?_getD] at h); conv => whnf))
                              first | omega | rfl | exact inK_byte _ | (simp only [inK, Int.toNat_natCast, nd_eta, sh_eta, it_eta, sto_eta, op_eta, ch_eta, nw_eta, fl_eta, rq_eta, rs_eta, elDef, m18, m18, m36, o37, o39] <;> first | omega | grind) | grind [inK, m18, m18, m36, o37, o39]) ?_ <;> conv => whnf)
        | (refine Gd.mk (fun h => ?_) <;> (try simp [nd_eta, sh_eta, it_eta, sto_eta, op_eta, ch_eta, nw_eta, fl_eta, rq_eta, rs_eta, elDef, -List.getD_eq_getElem?_getD] at h) <;> conv => whnf)
        | (refine And.intro ?_ ?_ <;> conv => whnf)
        | exact True.intro
        | (intro; conv => whnf)
      · rename_i h1
        have h2 : placeM a (b.names.getD j []) < 0 := by have := hkm.1; rw [h] at this; simpa using this
        have e9 : accB a b (j + 1) = putL (accB a b j) ⟨b.names.getD j [], 0, b.kids.getD j default⟩ := by rw [hsu, if_pos h2]
        exact ⟨(j + 1, false), [(902, 98000), (903, 98001)], [], ⟨by omega, fun h => by cases h⟩, by show b.names.length - (j + 1) < b.names.length - j; omega, by (conv => whnf); (repeat' (first | exact trivial | rfl | (refine nilEq ?_; first | rfl | (simp only [*]; done) | (simp [*]; done) | grind) | apply And.intro | ((first | refine intEq ?_ | refine boolEq ?_ | refine strEq ?_ | refine psEq ?_ | refine nilEq ?_ | refine arrEq ?_); (try simp only [Int.toNat_natCast, nd_eta, sh_eta, it_eta, sto_eta, op_eta, ch_eta, nw_eta, fl_eta, rq_eta, rs_eta, elDef]); first | done | omega | (simp only [e9, ez])))); (all_goals (conv => whnf)); (repeat' (first | exact trivial | rfl | (refine nilEq ?_; first | rfl | (simp only [*]; done) | (simp [*]; done) | grind) | apply And.intro | ((first | refine intEq ?_ | refine boolEq ?_ | refine strEq ?_ | refine psEq ?_ | refine nilEq ?_ | refine arrEq ?_); (try simp only [Int.toNat_natCast, nd_eta, sh_eta, it_eta, sto_eta, op_eta, ch_eta, nw_eta, fl_eta, rq_eta, rs_eta, elDef]); first | done | omega | (simp only [e9, ez])) | ((try simp only [Int.toNat_natCast, nd_eta, sh_eta, it_eta, sto_eta, op_eta, ch_eta, nw_eta, fl_eta, rq_eta, rs_eta, elDef]); first | done | omega | (simp only [e9, ez])))), (by exact sgOk_of (by rfl))⟩
      · rename_i h1
        have h2 := hkm.2 h
        have e9 : accB a b (j + 1) = (accB a b j) := by rw [hsu, if_neg (by omega)]
        exact ⟨(j + 1, false), [], [], ⟨by omega, fun h => by cases h⟩, by show b.names.length - (j + 1) < b.names.length - j; omega, by (conv => whnf); (repeat' (first | exact trivial | rfl | (refine nilEq ?_; first | rfl | (simp only [*]; done) | (simp [*]; done) | grind) | apply And.intro | ((first | refine intEq ?_ | refine boolEq ?_ | refine strEq ?_ | refine psEq ?_ | refine nilEq ?_ | refine arrEq ?_); (try simp only [Int.toNat_natCast, nd_eta, sh_eta, it_eta, sto_eta, op_eta, ch_eta, nw_eta, fl_eta, rq_eta, rs_eta, elDef]); first | done | omega | (simp only [e9])))); (all_goals (conv => whnf)); (repeat' (first | exact trivial | rfl | (refine nilEq ?_; first | rfl | (simp only [*]; done) | (simp [*]; done) | grind) | apply And.intro | ((first | refine intEq ?_ | refine boolEq ?_ | refine strEq ?_ | refine psEq ?_ | refine nilEq ?_ | refine arrEq ?_); (try simp only [Int.toNat_natCast, nd_eta, sh_eta, it_eta, sto_eta, op_eta, ch_eta, nw_eta, fl_eta, rq_eta, rs_eta, elDef]); first | done | omega | (simp only [e9])) | ((try simp only [Int.toNat_natCast, nd_eta, sh_eta, it_eta, sto_eta, op_eta, ch_eta, nw_eta, fl_eta, rq_eta, rs_eta, elDef]); first | done | omega | (simp only [e9])))), (by exact sgOk_of (by rfl))⟩
      · rename_i h1
        have e9 : patM a b = ndOf (accB a b j) := by rw [hme, show b.names.length = j by omega]
        exact leafV hK (by rw [e9]; rfl)
    · dsimp only at hj hj9
      replace hj9 := hj9 rfl
      have hf := accB_facts (b := b) hla j
      have hkm := kid_map (b := b.names.getD j []) ha hk1
      have hsa2 := okN_sorted ha hk1
      have hkoB := fun (h : j < b.kids.length) => (okN_kid hb h).sm
      have hsu := accB_succ a b j
      have ez : zipI [] [] = [] := rfl
      have hsn0 : sortedI (nmI []) := by intro a b _ h; simp [nmI] at h
      rw [hj9] at hsu
      conv => whnf
      repeat' first
        | (refine Cnd.mk (fun h => ?_) (fun h => ?_) <;> (try simp [nd_eta, sh_eta, it_eta, sto_eta, op_eta, ch_eta, nw_eta, fl_eta, rq_eta, rs_eta, elDef, -List.getD_eq_getElem?_getD] at h) <;> conv => whnf)
        | (refine Obl.mk (by first | omega | rfl | exact inK_byte _ | (simp only [inK, Int.toNat_natCast, nd_eta, sh_eta, it_eta, sto_eta, op_eta, ch_eta, nw_eta, fl_eta, rq_eta, rs_eta, elDef, m18, m18, m36, o37, o39] <;> first | omega | grind) | grind [inK, m18, m18, m36, o37, o39]) ?_ <;> conv => whnf)
        | (refine OblG.mk (by conv => whnf
                              repeat (first | (refine Bx.mk ?_) | (intro h; (try simp [nd_eta, sh_eta, it_eta, sto_eta, op_eta, ch_eta, nw_eta, fl_eta, rq_eta, rs_eta, elDef, -List.getD_eq_getElem?_getD] at h); conv => whnf))
                              first | omega | rfl | exact inK_byte _ | (simp only [inK, Int.toNat_natCast, nd_eta, sh_eta, it_eta, sto_eta, op_eta, ch_eta, nw_eta, fl_eta, rq_eta, rs_eta, elDef, m18, m18, m36, o37, o39] <;> first | omega | grind) | grind [inK, m18, m18, m36, o37, o39]) ?_ <;> conv => whnf)
        | (refine Gd.mk (fun h => ?_) <;> (try simp [nd_eta, sh_eta, it_eta, sto_eta, op_eta, ch_eta, nw_eta, fl_eta, rq_eta, rs_eta, elDef, -List.getD_eq_getElem?_getD] at h) <;> conv => whnf)
        | (refine And.intro ?_ ?_ <;> conv => whnf)
        | exact True.intro
        | (intro; conv => whnf)
      · rename_i h1
        have h2 : placeM a (b.names.getD j []) < 0 := by have := hkm.1; rw [h] at this; simpa using this
        have e9 : accB a b (j + 1) = putL [] ⟨b.names.getD j [], 0, b.kids.getD j default⟩ := by rw [hsu, if_pos h2]
        exact ⟨(j + 1, false), [(902, 98000), (903, 98001)], [], ⟨by omega, fun h => by cases h⟩, by show b.names.length - (j + 1) < b.names.length - j; omega, by (conv => whnf); (repeat' (first | exact trivial | rfl | (refine nilEq ?_; first | rfl | (simp only [*]; done) | (simp [*]; done) | grind) | apply And.intro | ((first | refine intEq ?_ | refine boolEq ?_ | refine strEq ?_ | refine psEq ?_ | refine nilEq ?_ | refine arrEq ?_); (try simp only [Int.toNat_natCast, nd_eta, sh_eta, it_eta, sto_eta, op_eta, ch_eta, nw_eta, fl_eta, rq_eta, rs_eta, elDef]); first | done | omega | (simp only [e9, ez])))); (all_goals (conv => whnf)); (repeat' (first | exact trivial | rfl | (refine nilEq ?_; first | rfl | (simp only [*]; done) | (simp [*]; done) | grind) | apply And.intro | ((first | refine intEq ?_ | refine boolEq ?_ | refine strEq ?_ | refine psEq ?_ | refine nilEq ?_ | refine arrEq ?_); (try simp only [Int.toNat_natCast, nd_eta, sh_eta, it_eta, sto_eta, op_eta, ch_eta, nw_eta, fl_eta, rq_eta, rs_eta, elDef]); first | done | omega | (simp only [e9, ez])) | ((try simp only [Int.toNat_natCast, nd_eta, sh_eta, it_eta, sto_eta, op_eta, ch_eta, nw_eta, fl_eta, rq_eta, rs_eta, elDef]); first | done | omega | (simp only [e9, ez])))), (by exact sgOk_of (by rfl))⟩
      · rename_i h1
        have h2 := hkm.2 h
        have e9 : accB a b (j + 1) = [] := by rw [hsu, if_neg (by omega)]
        exact ⟨(j + 1, true), [], [], ⟨by omega, fun _ => e9⟩, by show b.names.length - (j + 1) < b.names.length - j; omega, by (conv => whnf); (repeat' (first | exact trivial | rfl | (refine nilEq ?_; first | rfl | (simp only [*]; done) | (simp [*]; done) | grind) | apply And.intro | ((first | refine intEq ?_ | refine boolEq ?_ | refine strEq ?_ | refine psEq ?_ | refine nilEq ?_ | refine arrEq ?_); (try simp only [Int.toNat_natCast, nd_eta, sh_eta, it_eta, sto_eta, op_eta, ch_eta, nw_eta, fl_eta, rq_eta, rs_eta, elDef]); first | done | omega | (simp only [e9])))); (all_goals (conv => whnf)); (repeat' (first | exact trivial | rfl | (refine nilEq ?_; first | rfl | (simp only [*]; done) | (simp [*]; done) | grind) | apply And.intro | ((first | refine intEq ?_ | refine boolEq ?_ | refine strEq ?_ | refine psEq ?_ | refine nilEq ?_ | refine arrEq ?_); (try simp only [Int.toNat_natCast, nd_eta, sh_eta, it_eta, sto_eta, op_eta, ch_eta, nw_eta, fl_eta, rq_eta, rs_eta, elDef]); first | done | omega | (simp only [e9])) | ((try simp only [Int.toNat_natCast, nd_eta, sh_eta, it_eta, sto_eta, op_eta, ch_eta, nw_eta, fl_eta, rq_eta, rs_eta, elDef]); first | done | omega | (simp only [e9])))), (by exact sgOk_of (by rfl))⟩
      · rename_i h1
        have e9 : patM a b = ndOf [] := by rw [hme, show b.names.length = j by omega, hj9]
        exact leafV hK (by rw [e9]; rfl)
theorem r18 : ∀ k, (CtrOK Try.prog 18 (.gen .ps (Ck18 k)) ∧ Callable Try.prog 18) := by
  intro k
  induction k with
  | zero =>
    exact ⟨fun args K h => by
        unfold Ck18 at h; split at h
        · exact absurd h.o (Nat.not_lt_zero _)
        · exact h.elim, callable Try.func18 rfl (by rfl)⟩
  | succ k ih =>
    refine gen_ok (E := E18 k) (mkE_cons ih (mkE_cons s36 (mkE_cons s37 (mkE_cons s38 (mkE_cons s39 (mkE_nil tab_ok)))))) mix (O := O18) (C := (Ck18 (k + 1))) (own := .ps) Try.func18 rfl (by rfl) (by kernel_rfl) (fun args K h hbd => ?_)
    unfold Ck18 at h; split at h
    case h_2 => exact h.elim
    exact ⟨Nat.le_of_ble_eq_true rfl, a18 k ⟨_, _, _, _, _⟩ ⟨_, _, _, _, _⟩ h.o (by exact hbd) _ h.k⟩
theorem s18 : (CtrOK Try.prog 18 (.gen .ps C18) ∧ Callable Try.prog 18) := by
  refine ⟨fun args K h => ?_, (r18 0).2⟩
  unfold C18 at h; split at h
  · exact (r18 (m18 ⟨_, _, _, _, _⟩ ⟨_, _, _, _, _⟩ + 1)).1 _ K ⟨Nat.lt_succ_self _, h⟩
  · exact h.elim
noncomputable def c6 (a : Nd) (b : Nd) (K : AV → List AV → Prop) : Prop :=
    K (optN (mergeForM a b)) []
noncomputable def C6 : List AV → (AV → List AV → Prop) → Prop
  | [.st [.int .i64 a_0, .int .i64 a_1, .str a_2, .ps .str a_3, .ps .node a_4], .st [.int .i64 b_0, .int .i64 b_1, .str b_2, .ps .str b_3, .ps .node b_4]], K => c6 ⟨a_0, a_1, a_2, a_3, a_4⟩ ⟨b_0, b_1, b_2, b_3, b_4⟩ K
  | _, _ => False
noncomputable def E6 : Ctx := mkE tab [(15, .pure F15), (16, .pure F16), (17, .gen .ps C17), (18, .gen .ps C18)]
noncomputable def O6 : Nat → List DI := ordL []
theorem a6 (a : Nd) (b : Nd) (hb : BdAs [.st (ndC a), .st (ndC b)]) (K : AV → List AV → Prop) (h : c6 a b K) : abody E6 O6 .ps Try.f6 (Try.f6.body.getD .skip) [.st (ndC a), .st (ndC b)] K := by
  simp only [BdAs, BdA, BdL, BdC, MX, ndC, shC, itC, stC, opC, chC, nwC, flC, rqC, rsC, enc, List.cons_append, List.nil_append, and_true, true_and] at hb
  unfold c6 at h
  have hK9 := h
  have h1 := fun h => validM_ok (n := a) h
  have h2 := fun h => validM_ok (n := b) h
  conv => whnf
  repeat' first
    | (refine Cnd.mk (fun h => ?_) (fun h => ?_) <;> (try simp [nd_eta, sh_eta, it_eta, sto_eta, op_eta, ch_eta, nw_eta, fl_eta, rq_eta, rs_eta, elDef, -List.getD_eq_getElem?_getD] at h) <;> conv => whnf)
    | (refine Obl.mk (by first | omega | rfl | exact inK_byte _ | (simp only [inK, Int.toNat_natCast, nd_eta, sh_eta, it_eta, sto_eta, op_eta, ch_eta, nw_eta, fl_eta, rq_eta, rs_eta, elDef, m18] <;> first | omega | grind) | grind [inK, m18]) ?_ <;> conv => whnf)
    | (refine OblG.mk (by conv => whnf
                          repeat (first | (refine Bx.mk ?_) | (intro h; (try simp [nd_eta, sh_eta, it_eta, sto_eta, op_eta, ch_eta, nw_eta, fl_eta, rq_eta, rs_eta, elDef, -List.getD_eq_getElem?_getD] at h); conv => whnf))
                          first | omega | rfl | exact inK_byte _ | (simp only [inK, Int.toNat_natCast, nd_eta, sh_eta, it_eta, sto_eta, op_eta, ch_eta, nw_eta, fl_eta, rq_eta, rs_eta, elDef, m18] <;> first | omega | grind) | grind [inK, m18]) ?_ <;> conv => whnf)
    | (refine Gd.mk (fun h => ?_) <;> (try simp [nd_eta, sh_eta, it_eta, sto_eta, op_eta, ch_eta, nw_eta, fl_eta, rq_eta, rs_eta, elDef, -List.getD_eq_getElem?_getD] at h) <;> conv => whnf)
    | (refine And.intro ?_ ?_ <;> conv => whnf)
    | exact True.intro
    | (intro; conv => whnf)
  · have e : mergeForM a b = none := by unfold mergeForM; rw [if_neg (by grind)]
    exact leafV hK9 (by rw [e]; rfl)
  · have e : mergeForM a b = if true && validM (patM a b) then some (patM a b) else none := by
      unfold mergeForM
      rw [if_pos (by grind), Bool.true_and]
    refine leafV hK9 ?_
    rw [e]
    simp only [optN, nd_eta]; try rfl
theorem s6 : (CtrOK Try.prog 6 (.gen .ps C6) ∧ Callable Try.prog 6) := by
  refine gen_ok (E := E6) (mkE_cons s15 (mkE_cons s16 (mkE_cons s17 (mkE_cons s18 (mkE_nil tab_ok))))) mix (O := O6) (C := C6) (own := .ps) Try.func6 rfl (by rfl) (by kernel_rfl) (fun args K h hbd => ?_)
  unfold C6 at h; split at h
  case h_2 => exact h.elim
  exact ⟨Nat.le_of_ble_eq_true rfl, a6 ⟨_, _, _, _, _⟩ ⟨_, _, _, _, _⟩ (by exact hbd) _ h⟩
set_option maxHeartbeats 400000
noncomputable def c21 (a : Nd) (b : Nd) (K : AV → List AV → Prop) : Prop :=
    Obl (okN a ∧ okN b) (K (.st (ndC (patM a b))) [])
noncomputable def m21 (a : Nd) (b : Nd) : Nat := SizeOf.sizeOf a
noncomputable def C21 : List AV → (AV → List AV → Prop) → Prop
  | [.st [.int .i64 a_0, .int .i64 a_1, .str a_2, .ps .str a_3, .ps .node a_4], .st [.int .i64 b_0, .int .i64 b_1, .str b_2, .ps .str b_3, .ps .node b_4]], K => c21 ⟨a_0, a_1, a_2, a_3, a_4⟩ ⟨b_0, b_1, b_2, b_3, b_4⟩ K
  | _, _ => False
noncomputable def Ck21 (k : Nat) : List AV → (AV → List AV → Prop) → Prop
  | [.st [.int .i64 a_0, .int .i64 a_1, .str a_2, .ps .str a_3, .ps .node a_4], .st [.int .i64 b_0, .int .i64 b_1, .str b_2, .ps .str b_3, .ps .node b_4]], K => Obl (m21 ⟨a_0, a_1, a_2, a_3, a_4⟩ ⟨b_0, b_1, b_2, b_3, b_4⟩ < k) (c21 ⟨a_0, a_1, a_2, a_3, a_4⟩ ⟨b_0, b_1, b_2, b_3, b_4⟩ K)
  | _, _ => False
noncomputable def E21 (k : Nat) : Ctx := mkE tab [(21, .gen .ps (Ck21 k)), (29, .gen .ps C29), (30, .pure F30), (33, .gen .ps C33k), (40, .pure F40)]
noncomputable def O21 : Nat → List DI := ordL [(7, [.q 0, .q 1, .q 2, .q 3, .q 4, .q 5, .q 6, .q 7]), (9, [.q 0, .q 1, .q 2, .q 3, .q 4, .q 5, .q 6, .l 7 [], .q 8, .q 9, .q 10, .l 11 []]), (10, [.q 0, .q 1, .q 2, .q 3, .q 4, .q 5, .q 6, .q 7, .q 8, .q 9, .q 10, .q 11, .q 12]), (11, [.q 0, .q 1, .q 2, .q 3, .q 4, .q 5, .q 6, .q 7, .q 8, .q 9, .q 10, .q 11, .q 12, .q 13, .q 14, .q 15, .l 16 [0, 2, 4, 5], .l 17 [], .q 18, .q 19, .q 20, .l 21 []]), (15, [.q 0, .q 1, .q 2, .q 3, .q 4, .q 5, .q 6, .q 7]), (16, [.q 0, .q 1, .q 2, .q 3, .q 4, .q 5, .q 6, .q 7, .q 8, .q 9, .q 10, .l 11 [], .q 12, .q 13, .q 14, .l 15 []])]
theorem a21 (k : Nat) (a : Nd) (b : Nd) (hm : m21 a b < k + 1) (hb : BdAs [.st (ndC a), .st (ndC b)]) (K : AV → List AV → Prop) (h : c21 a b K) : abody (E21 k) O21 .ps Try.f21 (Try.f21.body.getD .skip) [.st (ndC a), .st (ndC b)] K := by
  simp only [BdAs, BdA, BdL, BdC, MX, ndC, shC, itC, stC, opC, chC, nwC, flC, rqC, rsC, enc, List.cons_append, List.nil_append, and_true, true_and] at hb
  unfold c21 at h
  unfold m21 at hm
  obtain ⟨⟨ha, hb⟩, hK⟩ := h
  have hsb := hb.sm
  have hme := patM_eq a b
  conv => whnf
  repeat' first
    | (refine Cnd.mk (fun h => ?_) (fun h => ?_) <;> (try simp [nd_eta, sh_eta, it_eta, sto_eta, op_eta, ch_eta, nw_eta, fl_eta, rq_eta, rs_eta, elDef, -List.getD_eq_getElem?_getD] at h) <;> conv => whnf)
    | (refine Obl.mk (by first | omega | rfl | exact inK_byte _ | (simp only [inK, Int.toNat_natCast, nd_eta, sh_eta, it_eta, sto_eta, op_eta, ch_eta, nw_eta, fl_eta, rq_eta, rs_eta, elDef, m21, m21, m29, o30, o40] <;> first | omega | grind) | grind [inK, m21, m21, m29, o30, o40]) ?_ <;> conv => whnf)
    | (refine OblG.mk (by conv => whnf
                          repeat (first | (refine Bx.mk ?_) | (intro h; (try simp [nd_eta, sh_eta, it_eta, sto_eta, op_eta, ch_eta, nw_eta, fl_eta, rq_eta, rs_eta, elDef, -List.getD_eq_getElem?_getD] at h); conv => whnf))
                          first | omega | rfl | exact inK_byte _ | (simp only [inK, Int.toNat_natCast, nd_eta, sh_eta, it_eta, sto_eta, op_eta, ch_eta, nw_eta, fl_eta, rq_eta, rs_eta, elDef, m21, m21, m29, o30, o40] <;> first | omega | grind) | grind [inK, m21, m21, m29, o30, o40]) ?_ <;> conv => whnf)
    | (refine Gd.mk (fun h => ?_) <;> (try simp [nd_eta, sh_eta, it_eta, sto_eta, op_eta, ch_eta, nw_eta, fl_eta, rq_eta, rs_eta, elDef, -List.getD_eq_getElem?_getD] at h) <;> conv => whnf)
    | (refine And.intro ?_ ?_ <;> conv => whnf)
    | exact True.intro
    | (intro; conv => whnf)
  · rw [hme, if_neg (by omega)] at hK
    exact leafV hK rfl
  have hla := (okN_names ha).2.1 h.1
  have hlb := (okN_names hb).2.1 h.2
  have hk1 := h.1
  have hk2 := h.2
  have h6 := (okN_names ha).1
  have h7 := (okN_names hb).1
  replace hme := patM_map ha hk1 hk2
  clear h
  have h00 : ndOf [] = ndOf (accA a b 0) := by rw [accA_zero]
  refine aloop_intro (Nat × Nd) (fun q => q.1 ≤ a.kids.length ∧ q.2 = ndOf (accA a b q.1)) (fun q => a.kids.length - q.1) (fun q => [(6, .int .i64 q.1)]) (fun q => [(5, .box (ndC q.2))]) [2, 3, 4] (0, ndOf []) [] [19, 20] ⟨Nat.zero_le _, h00⟩ ?_ (by exact sgOk_of (by rfl)) ?_
  · (conv => whnf); (repeat' (first | exact trivial | rfl | (refine nilEq ?_; first | rfl | (simp only [*]; done) | (simp [*]; done) | grind) | apply And.intro | ((first | refine intEq ?_ | refine boolEq ?_ | refine strEq ?_ | refine psEq ?_ | refine nilEq ?_ | refine arrEq ?_); (try simp only [Int.toNat_natCast, nd_eta, sh_eta, it_eta, sto_eta, op_eta, ch_eta, nw_eta, fl_eta, rq_eta, rs_eta, elDef]); first | done | omega | grind | (simp only [*]; done) | (simp [*]; done)))); (all_goals (conv => whnf)); (repeat' (first | exact trivial | rfl | (refine nilEq ?_; first | rfl | (simp only [*]; done) | (simp [*]; done) | grind) | apply And.intro | ((first | refine intEq ?_ | refine boolEq ?_ | refine strEq ?_ | refine psEq ?_ | refine nilEq ?_ | refine arrEq ?_); (try simp only [Int.toNat_natCast, nd_eta, sh_eta, it_eta, sto_eta, op_eta, ch_eta, nw_eta, fl_eta, rq_eta, rs_eta, elDef]); first | done | omega | grind | (simp only [*]; done) | (simp [*]; done)) | ((try simp only [Int.toNat_natCast, nd_eta, sh_eta, it_eta, sto_eta, op_eta, ch_eta, nw_eta, fl_eta, rq_eta, rs_eta, elDef]); first | done | omega | grind | (simp only [*]; done) | (simp [*]; done))))
  rintro ⟨i, m⟩ ⟨hi, hm⟩
  dsimp only at hi hm
  obtain ⟨m1, m2, m3, m4, m5⟩ := for_now1 ha hb hk1 hk2 hi hm
  have hpl := placeM_ge b (a.names.getD i [])
  have hko := fun (h : i < a.kids.length) => okN_kid ha h
  have hks := fun (h : i < a.kids.length) => kid_size h
  have hst := fun (h : i < a.kids.length) => for_step1 ha hb hk1 h hm rfl rfl rfl
  have hz := okN_zero.sm
  unfold zeroN at hz hst
  conv => whnf
  repeat' first
    | (refine Cnd.mk (fun h => ?_) (fun h => ?_) <;> (try simp [nd_eta, sh_eta, it_eta, sto_eta, op_eta, ch_eta, nw_eta, fl_eta, rq_eta, rs_eta, elDef, -List.getD_eq_getElem?_getD] at h) <;> conv => whnf)
    | (refine Obl.mk (by first | omega | rfl | exact inK_byte _ | (simp only [inK, Int.toNat_natCast, nd_eta, sh_eta, it_eta, sto_eta, op_eta, ch_eta, nw_eta, fl_eta, rq_eta, rs_eta, elDef, m21, m21, m29, o30, o40] <;> first | omega | grind) | grind [inK, m21, m21, m29, o30, o40]) ?_ <;> conv => whnf)
    | (refine OblG.mk (by conv => whnf
                          repeat (first | (refine Bx.mk ?_) | (intro h; (try simp [nd_eta, sh_eta, it_eta, sto_eta, op_eta, ch_eta, nw_eta, fl_eta, rq_eta, rs_eta, elDef, -List.getD_eq_getElem?_getD] at h); conv => whnf))
                          first | omega | rfl | exact inK_byte _ | (simp only [inK, Int.toNat_natCast, nd_eta, sh_eta, it_eta, sto_eta, op_eta, ch_eta, nw_eta, fl_eta, rq_eta, rs_eta, elDef, m21, m21, m29, o30, o40] <;> first | omega | grind) | grind [inK, m21, m21, m29, o30, o40]) ?_ <;> conv => whnf)
    | (refine Gd.mk (fun h => ?_) <;> (try simp [nd_eta, sh_eta, it_eta, sto_eta, op_eta, ch_eta, nw_eta, fl_eta, rq_eta, rs_eta, elDef, -List.getD_eq_getElem?_getD] at h) <;> conv => whnf)
    | (refine And.intro ?_ ?_ <;> conv => whnf)
    | exact True.intro
    | (intro; conv => whnf)
  · rename_i h1
    have e9 := (hst h1).1 h
    exact ⟨(i + 1, (addHereM m (a.names.getD i []) ⟨0, 0, [], [], []⟩).getD default), [], [], ⟨by simp only; omega, by rw [e9]; rfl⟩, by simp only; omega, by (conv => whnf); (repeat' (first | exact trivial | rfl | (refine nilEq ?_; first | rfl | (simp only [*]; done) | (simp [*]; done) | grind) | apply And.intro | ((first | refine intEq ?_ | refine boolEq ?_ | refine strEq ?_ | refine psEq ?_ | refine nilEq ?_ | refine arrEq ?_); (try simp only [Int.toNat_natCast, nd_eta, sh_eta, it_eta, sto_eta, op_eta, ch_eta, nw_eta, fl_eta, rq_eta, rs_eta, elDef]); first | done | omega | grind | (simp only [*]; done) | (simp [*]; done)))); (all_goals (conv => whnf)); (repeat' (first | exact trivial | rfl | (refine nilEq ?_; first | rfl | (simp only [*]; done) | (simp [*]; done) | grind) | apply And.intro | ((first | refine intEq ?_ | refine boolEq ?_ | refine strEq ?_ | refine psEq ?_ | refine nilEq ?_ | refine arrEq ?_); (try simp only [Int.toNat_natCast, nd_eta, sh_eta, it_eta, sto_eta, op_eta, ch_eta, nw_eta, fl_eta, rq_eta, rs_eta, elDef]); first | done | omega | grind | (simp only [*]; done) | (simp [*]; done)) | ((try simp only [Int.toNat_natCast, nd_eta, sh_eta, it_eta, sto_eta, op_eta, ch_eta, nw_eta, fl_eta, rq_eta, rs_eta, elDef]); first | done | omega | grind | (simp only [*]; done) | (simp [*]; done)))), (by exact sgOk_of (by rfl))⟩
  · rename_i h1 h2
    have e9 := (hst h1).2.2.2 h2 h
    exact ⟨(i + 1, (addHereM m (a.names.getD i []) (patM (a.kids.getD i default) (b.kids.getD (placeM b (a.names.getD i [])).toNat default))).getD default), [], [], ⟨by simp only; omega, by rw [e9]; rfl⟩, by simp only; omega, by (conv => whnf); (repeat' (first | exact trivial | rfl | (refine nilEq ?_; first | rfl | (simp only [*]; done) | (simp [*]; done) | grind) | apply And.intro | ((first | refine intEq ?_ | refine boolEq ?_ | refine strEq ?_ | refine psEq ?_ | refine nilEq ?_ | refine arrEq ?_); (try simp only [Int.toNat_natCast, nd_eta, sh_eta, it_eta, sto_eta, op_eta, ch_eta, nw_eta, fl_eta, rq_eta, rs_eta, elDef]); first | done | omega | grind | (simp only [*]; done) | (simp [*]; done)))); (all_goals (conv => whnf)); (repeat' (first | exact trivial | rfl | (refine nilEq ?_; first | rfl | (simp only [*]; done) | (simp [*]; done) | grind) | apply And.intro | ((first | refine intEq ?_ | refine boolEq ?_ | refine strEq ?_ | refine psEq ?_ | refine nilEq ?_ | refine arrEq ?_); (try simp only [Int.toNat_natCast, nd_eta, sh_eta, it_eta, sto_eta, op_eta, ch_eta, nw_eta, fl_eta, rq_eta, rs_eta, elDef]); first | done | omega | grind | (simp only [*]; done) | (simp [*]; done)) | ((try simp only [Int.toNat_natCast, nd_eta, sh_eta, it_eta, sto_eta, op_eta, ch_eta, nw_eta, fl_eta, rq_eta, rs_eta, elDef]); first | done | omega | grind | (simp only [*]; done) | (simp [*]; done)))), (by exact sgOk_of (by rfl))⟩
  · rename_i h1 h2
    have e9 := (hst h1).2.2.1 h2 h
    exact ⟨(i + 1, m), [], [], ⟨by simp only; omega, e9⟩, by simp only; omega, by (conv => whnf); (repeat' (first | exact trivial | rfl | (refine nilEq ?_; first | rfl | (simp only [*]; done) | (simp [*]; done) | grind) | apply And.intro | ((first | refine intEq ?_ | refine boolEq ?_ | refine strEq ?_ | refine psEq ?_ | refine nilEq ?_ | refine arrEq ?_); (try simp only [Int.toNat_natCast, nd_eta, sh_eta, it_eta, sto_eta, op_eta, ch_eta, nw_eta, fl_eta, rq_eta, rs_eta, elDef]); first | done | omega | grind | (simp only [*]; done) | (simp [*]; done)))); (all_goals (conv => whnf)); (repeat' (first | exact trivial | rfl | (refine nilEq ?_; first | rfl | (simp only [*]; done) | (simp [*]; done) | grind) | apply And.intro | ((first | refine intEq ?_ | refine boolEq ?_ | refine strEq ?_ | refine psEq ?_ | refine nilEq ?_ | refine arrEq ?_); (try simp only [Int.toNat_natCast, nd_eta, sh_eta, it_eta, sto_eta, op_eta, ch_eta, nw_eta, fl_eta, rq_eta, rs_eta, elDef]); first | done | omega | grind | (simp only [*]; done) | (simp [*]; done)) | ((try simp only [Int.toNat_natCast, nd_eta, sh_eta, it_eta, sto_eta, op_eta, ch_eta, nw_eta, fl_eta, rq_eta, rs_eta, elDef]); first | done | omega | grind | (simp only [*]; done) | (simp [*]; done)))), (by exact sgOk_of (by rfl))⟩
  · have h01 : m = ndOf (accB a b 0) := by rw [accB_zero, hm, show a.names.length = i by omega]
    clear hst hpl hko hks
    refine aloop_intro (Nat × Nd) (fun q => q.1 ≤ b.kids.length ∧ q.2 = ndOf (accB a b q.1)) (fun q => b.kids.length - q.1) (fun q => [(8, .int .i64 q.1)]) (fun q => [(5, .box (ndC q.2))]) [2, 3, 4] (0, m) [] [] ⟨Nat.zero_le _, h01⟩ ?_ (by exact sgOk_of (by rfl)) ?_
    · (conv => whnf); (repeat' (first | exact trivial | rfl | (refine nilEq ?_; first | rfl | (simp only [*]; done) | (simp [*]; done) | grind) | apply And.intro | ((first | refine intEq ?_ | refine boolEq ?_ | refine strEq ?_ | refine psEq ?_ | refine nilEq ?_ | refine arrEq ?_); (try simp only [Int.toNat_natCast, nd_eta, sh_eta, it_eta, sto_eta, op_eta, ch_eta, nw_eta, fl_eta, rq_eta, rs_eta, elDef]); first | done | omega | grind | (simp only [*]; done) | (simp [*]; done)))); (all_goals (conv => whnf)); (repeat' (first | exact trivial | rfl | (refine nilEq ?_; first | rfl | (simp only [*]; done) | (simp [*]; done) | grind) | apply And.intro | ((first | refine intEq ?_ | refine boolEq ?_ | refine strEq ?_ | refine psEq ?_ | refine nilEq ?_ | refine arrEq ?_); (try simp only [Int.toNat_natCast, nd_eta, sh_eta, it_eta, sto_eta, op_eta, ch_eta, nw_eta, fl_eta, rq_eta, rs_eta, elDef]); first | done | omega | grind | (simp only [*]; done) | (simp [*]; done)) | ((try simp only [Int.toNat_natCast, nd_eta, sh_eta, it_eta, sto_eta, op_eta, ch_eta, nw_eta, fl_eta, rq_eta, rs_eta, elDef]); first | done | omega | grind | (simp only [*]; done) | (simp [*]; done))))
    clear m1 m2 m3 m4 m5
    rintro ⟨j, m'⟩ ⟨hj, hm'⟩
    dsimp only at hj hm'
    obtain ⟨m1, m2, m3, m4, m5⟩ := for_now2 ha hb hk1 hk2 hj hm'
    have hpl := placeM_ge a (b.names.getD j [])
    have hko := fun (h : j < b.kids.length) => (okN_kid hb h).sm
    have hst := for_step2 ha hk1 hm'
    conv => whnf
    repeat' first
      | (refine Cnd.mk (fun h => ?_) (fun h => ?_) <;> (try simp [nd_eta, sh_eta, it_eta, sto_eta, op_eta, ch_eta, nw_eta, fl_eta, rq_eta, rs_eta, elDef, -List.getD_eq_getElem?_getD] at h) <;> conv => whnf)
      | (refine Obl.mk (by first | omega | rfl | exact inK_byte _ | (simp only [inK, Int.toNat_natCast, nd_eta, sh_eta, it_eta, sto_eta, op_eta, ch_eta, nw_eta, fl_eta, rq_eta, rs_eta, elDef, m21, m21, m29, o30, o40] <;> first | omega | grind) | grind [inK, m21, m21, m29, o30, o40]) ?_ <;> conv => whnf)
      | (refine OblG.mk (by conv => whnf
                            repeat (first | (refine Bx.mk ?_) | (intro h; (try simp [nd_eta, sh_eta, it_eta, sto_eta, op_eta, ch_eta, nw_eta, fl_eta, rq_eta, rs_eta, elDef, -List.getD_eq_getElem?_getD] at h); conv => whnf))
                            first | omega | rfl | exact inK_byte _ | (simp only [inK, Int.toNat_natCast, nd_eta, sh_eta, it_eta, sto_eta, op_eta, ch_eta, nw_eta, fl_eta, rq_eta, rs_eta, elDef, m21, m21, m29, o30, o40] <;> first | omega | grind) | grind [inK, m21, m21, m29, o30, o40]) ?_ <;> conv => whnf)
      | (refine Gd.mk (fun h => ?_) <;> (try simp [nd_eta, sh_eta, it_eta, sto_eta, op_eta, ch_eta, nw_eta, fl_eta, rq_eta, rs_eta, elDef, -List.getD_eq_getElem?_getD] at h) <;> conv => whnf)
      | (refine And.intro ?_ ?_ <;> conv => whnf)
      | exact True.intro
      | (intro; conv => whnf)
    · rename_i h1
      have e9 := hst.1 h
      exact ⟨(j + 1, (addHereM m' (b.names.getD j []) (b.kids.getD j default)).getD default), [], [], ⟨by simp only; omega, by rw [e9]; rfl⟩, by simp only; omega, by (conv => whnf); (repeat' (first | exact trivial | rfl | (refine nilEq ?_; first | rfl | (simp only [*]; done) | (simp [*]; done) | grind) | apply And.intro | ((first | refine intEq ?_ | refine boolEq ?_ | refine strEq ?_ | refine psEq ?_ | refine nilEq ?_ | refine arrEq ?_); (try simp only [Int.toNat_natCast, nd_eta, sh_eta, it_eta, sto_eta, op_eta, ch_eta, nw_eta, fl_eta, rq_eta, rs_eta, elDef]); first | done | omega | grind | (simp only [*]; done) | (simp [*]; done)))); (all_goals (conv => whnf)); (repeat' (first | exact trivial | rfl | (refine nilEq ?_; first | rfl | (simp only [*]; done) | (simp [*]; done) | grind) | apply And.intro | ((first | refine intEq ?_ | refine boolEq ?_ | refine strEq ?_ | refine psEq ?_ | refine nilEq ?_ | refine arrEq ?_); (try simp only [Int.toNat_natCast, nd_eta, sh_eta, it_eta, sto_eta, op_eta, ch_eta, nw_eta, fl_eta, rq_eta, rs_eta, elDef]); first | done | omega | grind | (simp only [*]; done) | (simp [*]; done)) | ((try simp only [Int.toNat_natCast, nd_eta, sh_eta, it_eta, sto_eta, op_eta, ch_eta, nw_eta, fl_eta, rq_eta, rs_eta, elDef]); first | done | omega | grind | (simp only [*]; done) | (simp [*]; done)))), (by exact sgOk_of (by rfl))⟩
    · rename_i h1
      have e9 := hst.2 h
      exact ⟨(j + 1, m'), [], [], ⟨by simp only; omega, e9⟩, by simp only; omega, by (conv => whnf); (repeat' (first | exact trivial | rfl | (refine nilEq ?_; first | rfl | (simp only [*]; done) | (simp [*]; done) | grind) | apply And.intro | ((first | refine intEq ?_ | refine boolEq ?_ | refine strEq ?_ | refine psEq ?_ | refine nilEq ?_ | refine arrEq ?_); (try simp only [Int.toNat_natCast, nd_eta, sh_eta, it_eta, sto_eta, op_eta, ch_eta, nw_eta, fl_eta, rq_eta, rs_eta, elDef]); first | done | omega | grind | (simp only [*]; done) | (simp [*]; done)))); (all_goals (conv => whnf)); (repeat' (first | exact trivial | rfl | (refine nilEq ?_; first | rfl | (simp only [*]; done) | (simp [*]; done) | grind) | apply And.intro | ((first | refine intEq ?_ | refine boolEq ?_ | refine strEq ?_ | refine psEq ?_ | refine nilEq ?_ | refine arrEq ?_); (try simp only [Int.toNat_natCast, nd_eta, sh_eta, it_eta, sto_eta, op_eta, ch_eta, nw_eta, fl_eta, rq_eta, rs_eta, elDef]); first | done | omega | grind | (simp only [*]; done) | (simp [*]; done)) | ((try simp only [Int.toNat_natCast, nd_eta, sh_eta, it_eta, sto_eta, op_eta, ch_eta, nw_eta, fl_eta, rq_eta, rs_eta, elDef]); first | done | omega | grind | (simp only [*]; done) | (simp [*]; done)))), (by exact sgOk_of (by rfl))⟩
    · rw [hme, show b.names.length = j by omega, ← hm'] at hK
      exact hK
theorem r21 : ∀ k, (CtrOK Try.prog 21 (.gen .ps (Ck21 k)) ∧ Callable Try.prog 21) := by
  intro k
  induction k with
  | zero =>
    exact ⟨fun args K h => by
        unfold Ck21 at h; split at h
        · exact absurd h.o (Nat.not_lt_zero _)
        · exact h.elim, callable Try.func21 rfl (by rfl)⟩
  | succ k ih =>
    refine gen_ok (E := E21 k) (mkE_cons ih (mkE_cons s29 (mkE_cons s30 (mkE_cons s33k (mkE_cons s40 (mkE_nil tab_ok)))))) mix (O := O21) (C := (Ck21 (k + 1))) (own := .ps) Try.func21 rfl (by rfl) (by kernel_rfl) (fun args K h hbd => ?_)
    unfold Ck21 at h; split at h
    case h_2 => exact h.elim
    exact ⟨Nat.le_of_ble_eq_true rfl, a21 k ⟨_, _, _, _, _⟩ ⟨_, _, _, _, _⟩ h.o (by exact hbd) _ h.k⟩
theorem s21 : (CtrOK Try.prog 21 (.gen .ps C21) ∧ Callable Try.prog 21) := by
  refine ⟨fun args K h => ?_, (r21 0).2⟩
  unfold C21 at h; split at h
  · exact (r21 (m21 ⟨_, _, _, _, _⟩ ⟨_, _, _, _, _⟩ + 1)).1 _ K ⟨Nat.lt_succ_self _, h⟩
  · exact h.elim
noncomputable def c7 (a : Nd) (b : Nd) (K : AV → List AV → Prop) : Prop :=
    K (optN (mergeForM a b)) []
noncomputable def C7 : List AV → (AV → List AV → Prop) → Prop
  | [.st [.int .i64 a_0, .int .i64 a_1, .str a_2, .ps .str a_3, .ps .node a_4], .st [.int .i64 b_0, .int .i64 b_1, .str b_2, .ps .str b_3, .ps .node b_4]], K => c7 ⟨a_0, a_1, a_2, a_3, a_4⟩ ⟨b_0, b_1, b_2, b_3, b_4⟩ K
  | _, _ => False
noncomputable def E7 : Ctx := mkE tab [(13, .pure F13), (19, .pure F19), (20, .gen .ps C20), (21, .gen .ps C21)]
noncomputable def O7 : Nat → List DI := ordL []
theorem a7 (a : Nd) (b : Nd) (hb : BdAs [.st (ndC a), .st (ndC b)]) (K : AV → List AV → Prop) (h : c7 a b K) : abody E7 O7 .ps Try.f7 (Try.f7.body.getD .skip) [.st (ndC a), .st (ndC b)] K := by
  simp only [BdAs, BdA, BdL, BdC, MX, ndC, shC, itC, stC, opC, chC, nwC, flC, rqC, rsC, enc, List.cons_append, List.nil_append, and_true, true_and] at hb
  unfold c7 at h
  have hK9 := h
  have h1 := fun h => validM_ok (n := a) h
  have h2 := fun h => validM_ok (n := b) h
  conv => whnf
  repeat' first
    | (refine Cnd.mk (fun h => ?_) (fun h => ?_) <;> (try simp [nd_eta, sh_eta, it_eta, sto_eta, op_eta, ch_eta, nw_eta, fl_eta, rq_eta, rs_eta, elDef, -List.getD_eq_getElem?_getD] at h) <;> conv => whnf)
    | (refine Obl.mk (by first | omega | rfl | exact inK_byte _ | (simp only [inK, Int.toNat_natCast, nd_eta, sh_eta, it_eta, sto_eta, op_eta, ch_eta, nw_eta, fl_eta, rq_eta, rs_eta, elDef, o19, m19, m21] <;> first | omega | grind) | grind [inK, o19, m19, m21]) ?_ <;> conv => whnf)
    | (refine OblG.mk (by conv => whnf
                          repeat (first | (refine Bx.mk ?_) | (intro h; (try simp [nd_eta, sh_eta, it_eta, sto_eta, op_eta, ch_eta, nw_eta, fl_eta, rq_eta, rs_eta, elDef, -List.getD_eq_getElem?_getD] at h); conv => whnf))
                          first | omega | rfl | exact inK_byte _ | (simp only [inK, Int.toNat_natCast, nd_eta, sh_eta, it_eta, sto_eta, op_eta, ch_eta, nw_eta, fl_eta, rq_eta, rs_eta, elDef, o19, m19, m21] <;> first | omega | grind) | grind [inK, o19, m19, m21]) ?_ <;> conv => whnf)
    | (refine Gd.mk (fun h => ?_) <;> (try simp [nd_eta, sh_eta, it_eta, sto_eta, op_eta, ch_eta, nw_eta, fl_eta, rq_eta, rs_eta, elDef, -List.getD_eq_getElem?_getD] at h) <;> conv => whnf)
    | (refine And.intro ?_ ?_ <;> conv => whnf)
    | exact True.intro
    | (intro; conv => whnf)
  · have e : mergeForM a b = none := by unfold mergeForM; rw [if_neg (by grind)]
    exact leafV hK9 (by rw [e]; rfl)
  · have e : mergeForM a b = if true && validM (patM a b) then some (patM a b) else none := by
      unfold mergeForM
      rw [if_pos (by grind), Bool.true_and]
    refine leafV hK9 ?_
    rw [e]
    simp only [optN, nd_eta]; try rfl
theorem s7 : (CtrOK Try.prog 7 (.gen .ps C7) ∧ Callable Try.prog 7) := by
  refine gen_ok (E := E7) (mkE_cons s13 (mkE_cons s19 (mkE_cons s20 (mkE_cons s21 (mkE_nil tab_ok))))) mix (O := O7) (C := C7) (own := .ps) Try.func7 rfl (by rfl) (by kernel_rfl) (fun args K h hbd => ?_)
  unfold C7 at h; split at h
  case h_2 => exact h.elim
  exact ⟨Nat.le_of_ble_eq_true rfl, a7 ⟨_, _, _, _, _⟩ ⟨_, _, _, _, _⟩ (by exact hbd) _ h⟩
noncomputable def c5 (code : List Int) (K : AV → List AV → Prop) : Prop :=
    Obl (byOk code) (∀ (a b : Nd), K (.tup [.st (ndC a), .st (ndC b)]) [])
noncomputable def C5 : List AV → (AV → List AV → Prop) → Prop
  | [.ps .u8 code], K => c5 code K
  | _, _ => False
noncomputable def E5 : Ctx := mkE tab [(10, .gen .ow C10), (11, .gen .ps C11), (12, .gen .ps C12), (13, .pure F13), (14, .gen .ps C14)]
noncomputable def O5 : Nat → List DI := ordL [(5, [.q 0, .q 1, .l 2 [1], .l 3 []])]
theorem a5 (code : List Int) (hb : BdAs [.ps .u8 code]) (K : AV → List AV → Prop) (h : c5 code K) : abody E5 O5 .ps Try.f5 (Try.f5.body.getD .skip) [.ps .u8 code] K := by
  simp only [BdAs, BdA, BdL, BdC, MX, ndC, shC, itC, stC, opC, chC, nwC, flC, rqC, rsC, enc, List.cons_append, List.nil_append, and_true, true_and] at hb
  unfold c5 at h
  obtain ⟨ho, hK⟩ := h
  have hz := okN_zero
  unfold zeroN at hz
  have hv := fun n h => validM_ok (n := n) h
  conv => whnf
  repeat' first
    | (refine Cnd.mk (fun h => ?_) (fun h => ?_) <;> (try simp [nd_eta, sh_eta, it_eta, sto_eta, op_eta, ch_eta, nw_eta, fl_eta, rq_eta, rs_eta, elDef, -List.getD_eq_getElem?_getD] at h) <;> conv => whnf)
    | (refine Obl.mk (by first | omega | rfl | exact inK_byte _ | (simp only [inK, Int.toNat_natCast, nd_eta, sh_eta, it_eta, sto_eta, op_eta, ch_eta, nw_eta, fl_eta, rq_eta, rs_eta, elDef, m14] <;> first | omega | grind) | grind [inK, m14]) ?_ <;> conv => whnf)
    | (refine OblG.mk (by conv => whnf
                          repeat (first | (refine Bx.mk ?_) | (intro h; (try simp [nd_eta, sh_eta, it_eta, sto_eta, op_eta, ch_eta, nw_eta, fl_eta, rq_eta, rs_eta, elDef, -List.getD_eq_getElem?_getD] at h); conv => whnf))
                          first | omega | rfl | exact inK_byte _ | (simp only [inK, Int.toNat_natCast, nd_eta, sh_eta, it_eta, sto_eta, op_eta, ch_eta, nw_eta, fl_eta, rq_eta, rs_eta, elDef, m14] <;> first | omega | grind) | grind [inK, m14]) ?_ <;> conv => whnf)
    | (refine Gd.mk (fun h => ?_) <;> (try simp [nd_eta, sh_eta, it_eta, sto_eta, op_eta, ch_eta, nw_eta, fl_eta, rq_eta, rs_eta, elDef, -List.getD_eq_getElem?_getD] at h) <;> conv => whnf)
    | (refine And.intro ?_ ?_ <;> conv => whnf)
    | exact True.intro
    | (intro; conv => whnf)
  all_goals exact hK ⟨_, _, _, _, _⟩ ⟨_, _, _, _, _⟩
theorem s5 : (CtrOK Try.prog 5 (.gen .ps C5) ∧ Callable Try.prog 5) := by
  refine gen_ok (E := E5) (mkE_cons s10 (mkE_cons s11 (mkE_cons s12 (mkE_cons s13 (mkE_cons s14 (mkE_nil tab_ok)))))) mix (O := O5) (C := C5) (own := .ps) Try.func5 rfl (by rfl) (by kernel_rfl) (fun args K h hbd => ?_)
  unfold C5 at h; split at h
  case h_2 => exact h.elim
  exact ⟨Nat.le_of_ble_eq_true rfl, a5 _ (by exact hbd) _ h⟩
end Go.Rs

