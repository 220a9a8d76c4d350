import Derived.Test.YtpiclhdjglelhaaCJ
import Derived.Test.YtpiclhdjglelhaaCD
import Derived.Test.YtpiclhdjglelhaaMB
set_option linter.all false
namespace Go.Rs
open Go.Proofs
set_option maxRecDepth 100000
set_option linter.unusedVariables false
set_option linter.unusedSimpArgs false
noncomputable def v53 (n : Int) : AV := .str (decM n.toNat)
noncomputable def o53 (n : Int) : Prop := 0 ≤ n ∧ n ≤ 1000000000000
noncomputable def m53 (n : Int) : Nat := n.toNat
noncomputable def F53 : List AV → QR
  | [.int .i64 n] => some (some (o53 n), v53 n)
  | _ => none
noncomputable def Fk53 (k : Nat) : List AV → QR
  | [.int .i64 n] => some (some (m53 n < k ∧ o53 n), v53 n)
  | _ => none
noncomputable def E53 (k : Nat) : Ctx := mkE tab [(53, .pure (Fk53 k))]
noncomputable def O53 : Nat → List DI := ordL [(7, [.q 0, .q 1, .q 2, .q 3, .q 4, .q 5, .q 6, .l 7 [2], .q 8, .q 9, .q 10])]
theorem a53 (k : Nat) (n : Int) (hm : m53 n < k + 1) (hb : BdAs [.int .i64 n]) (ho : o53 n) (K : AV → List AV → Prop) (hK : K (v53 n) []) : abody (E53 k) O53 .ps Try.f53 (Try.f53.body.getD .skip) [.int .i64 n] K := by
  simp only [BdAs, BdA, BdL, BdC, MX, ndC, shC, itC, stC, opC, chC, nwC, flC, rqC, rsC, enc, List.cons_append, List.nil_append, and_true, true_and] at hb
  unfold o53 at ho
  unfold v53 at hK
  unfold m53 at hm
  have h1 := fun h => decM_lt (n := n.toNat) h
  have h2 := fun h => decM_ge (n := n.toNat) h
  have h3 := decM_len (n / 10).toNat
  conv => whnf
  repeat' first
    | (refine Cnd.mk (fun h => ?_) (fun h => ?_) <;> (try simp [nd_eta, sh_eta, it_eta, sto_eta, op_eta, ch_eta, nw_eta, fl_eta, rq_eta, rs_eta, elDef, -List.getD_eq_getElem?_getD] at h) <;> conv => whnf)
    | (refine Obl.mk (by first | omega | rfl | exact inK_byte _ | (simp only [inK, Int.toNat_natCast, nd_eta, sh_eta, it_eta, sto_eta, op_eta, ch_eta, nw_eta, fl_eta, rq_eta, rs_eta, elDef, m53, o53, m53] <;> first | omega | grind) | grind [inK, m53, o53, m53]) ?_ <;> conv => whnf)
    | (refine OblG.mk (by conv => whnf
                          repeat (first | (refine Bx.mk ?_) | (intro h; (try simp [nd_eta, sh_eta, it_eta, sto_eta, op_eta, ch_eta, nw_eta, fl_eta, rq_eta, rs_eta, elDef, -List.getD_eq_getElem?_getD] at h); conv => whnf))
                          first | omega | rfl | exact inK_byte _ | (simp only [inK, Int.toNat_natCast, nd_eta, sh_eta, it_eta, sto_eta, op_eta, ch_eta, nw_eta, fl_eta, rq_eta, rs_eta, elDef, m53, o53, m53] <;> first | omega | grind) | grind [inK, m53, o53, m53]) ?_ <;> conv => whnf)
    | (refine Gd.mk (fun h => ?_) <;> (try simp [nd_eta, sh_eta, it_eta, sto_eta, op_eta, ch_eta, nw_eta, fl_eta, rq_eta, rs_eta, elDef, -List.getD_eq_getElem?_getD] at h) <;> conv => whnf)
    | (refine And.intro ?_ ?_ <;> conv => whnf)
    | exact True.intro
    | (intro; conv => whnf)
  · exfalso; omega
  · exfalso; omega
  · exact leafS hK (by rw [h1 (by omega)]; simp only [List.map_cons, List.map_nil]; rw [show (48 + n).toNat = 48 + n.toNat by omega])
  · exact leafS hK (by rw [h2 (by omega)]; simp only [List.map_cons, List.map_nil]; rw [show (48 + n % 10).toNat = 48 + n.toNat % 10 by omega, show (n / 10).toNat = n.toNat / 10 by omega])
theorem r53 : ∀ k, (CtrOK Try.prog 53 (.pure (Fk53 k)) ∧ Callable Try.prog 53) := by
  intro k
  induction k with
  | zero =>
    exact ⟨⟨fun args o v h => by unfold Fk53 at h; split at h <;> cases h; first | trivial | (simp [v53, Scalar, Scalar2, Scalar1, stC, ndC, itC, chC, nwC]), fun args K h => by
        unfold pureC Fk53 at h; split at h
        · rename_i h1; split at h1 <;> cases h1; exact absurd (h.1 _ rfl).1 (Nat.not_lt_zero _)
        · exact h.elim⟩, callable Try.func53 rfl (by rfl)⟩
  | succ k ih =>
    refine pure_ok (E := E53 k) (mkE_cons ih (mkE_nil tab_ok)) mix (O := O53) (F := (Fk53 (k + 1))) Try.func53 rfl (by rfl) (by kernel_rfl) (fun args o v h => ?_) (fun args o v h => ?_) (fun args o v h hbd hp K hK => ?_)
    · unfold Fk53 at h; split at h <;> cases h; first | trivial | (simp [v53, Scalar, Scalar2, Scalar1, stC, ndC, itC, chC, nwC])
    · unfold Fk53 at h; split at h <;> cases h; exact Nat.le_of_ble_eq_true rfl
    · unfold Fk53 at h; split at h
      case h_2 => cases h
      cases h
      exact a53 k _ (hp _ rfl).1 (by exact hbd) (hp _ rfl).2 K hK
theorem s53 : (CtrOK Try.prog 53 (.pure F53) ∧ Callable Try.prog 53) := by
  refine ⟨⟨fun args o v h => ?_, fun args K h => ?_⟩, (r53 0).2⟩
  · unfold F53 at h; split at h <;> cases h; first | trivial | (simp [v53, Scalar, Scalar2, Scalar1, stC, ndC, itC, chC, nwC])
  · unfold pureC F53 at h; split at h
    · rename_i h1; split at h1 <;> cases h1
      exact (r53 (m53 _ + 1)).1.2 _ K ⟨fun p hp => by cases hp; exact ⟨Nat.lt_succ_self _, (h.1 _ rfl)⟩, h.2⟩
    · exact h.elim
noncomputable def v30 (n : Nd) (b : Bs) : AV := .int .i64 (placeM n b)
noncomputable def o30 (n : Nd) (b : Bs) : Prop := n.kids.length ≤ 1000000000 ∧ (n.kind = 4 → n.names.length = n.kids.length)
noncomputable def F30 : List AV → QR
  | [.st [.int .i64 n_0, .int .i64 n_1, .str n_2, .ps .str n_3, .ps .node n_4], .str b] => some (some (o30 ⟨n_0, n_1, n_2, n_3, n_4⟩ b), v30 ⟨n_0, n_1, n_2, n_3, n_4⟩ b)
  | _ => none
noncomputable def E30 : Ctx := mkE tab [(53, .pure F53)]
noncomputable def O30 : Nat → List DI := ordL []
theorem a30 (n : Nd) (b : Bs) (hb : BdAs [.st (ndC n), .str b]) (ho : o30 n b) (K : AV → List AV → Prop) (hK : K (v30 n b) []) : abody E30 O30 .ps Try.f30 (Try.f30.body.getD .skip) [.st (ndC n), .str b] K := by
  simp only [BdAs, BdA, BdL, BdC, MX, ndC, shC, itC, stC, opC, chC, nwC, flC, rqC, rsC, enc, List.cons_append, List.nil_append, and_true, true_and] at hb
  unfold o30 at ho
  unfold v30 at hK
  obtain ⟨ho1, ho2⟩ := ho
  conv => whnf
  refine aloop_intro Nat (fun k => k ≤ n.kids.length ∧ ∀ j, j < k → hitM n b j = false) (fun k => n.kids.length - k) (fun k => [(5, .int .i64 k)]) (fun k => []) [2] 0 [] [] ?_ ?_ (by exact sgOk_of (by rfl)) ?_
  · first | (simp; done) | (simp; assumption)
  · (conv => whnf); (repeat' (first | exact trivial | rfl | (refine nilEq ?_; first | rfl | (simp only [*]; done) | (simp [*]; done) | grind) | apply And.intro | ((first | refine intEq ?_ | refine boolEq ?_ | refine strEq ?_ | refine psEq ?_ | refine nilEq ?_ | refine arrEq ?_); (try simp only [Int.toNat_natCast, nd_eta, sh_eta, it_eta, sto_eta, op_eta, ch_eta, nw_eta, fl_eta, rq_eta, rs_eta, elDef]); first | done | omega | grind | (simp only [*]; done) | (simp [*]; done)))); (all_goals (conv => whnf)); (repeat' (first | exact trivial | rfl | (refine nilEq ?_; first | rfl | (simp only [*]; done) | (simp [*]; done) | grind) | apply And.intro | ((first | refine intEq ?_ | refine boolEq ?_ | refine strEq ?_ | refine psEq ?_ | refine nilEq ?_ | refine arrEq ?_); (try simp only [Int.toNat_natCast, nd_eta, sh_eta, it_eta, sto_eta, op_eta, ch_eta, nw_eta, fl_eta, rq_eta, rs_eta, elDef]); first | done | omega | grind | (simp only [*]; done) | (simp [*]; done)) | ((try simp only [Int.toNat_natCast, nd_eta, sh_eta, it_eta, sto_eta, op_eta, ch_eta, nw_eta, fl_eta, rq_eta, rs_eta, elDef]); first | done | omega | grind | (simp only [*]; done) | (simp [*]; done))))
  rintro i ⟨hi, hj⟩
  conv => whnf
  repeat' first
    | (refine Cnd.mk (fun h => ?_) (fun h => ?_) <;> (try simp [nd_eta, sh_eta, it_eta, sto_eta, op_eta, ch_eta, nw_eta, fl_eta, rq_eta, rs_eta, elDef, -List.getD_eq_getElem?_getD] at h) <;> conv => whnf)
    | (refine Obl.mk (by first | omega | rfl | exact inK_byte _ | (simp only [inK, Int.toNat_natCast, nd_eta, sh_eta, it_eta, sto_eta, op_eta, ch_eta, nw_eta, fl_eta, rq_eta, rs_eta, elDef, o53, m53] <;> first | omega | grind) | grind [inK, o53, m53]) ?_ <;> conv => whnf)
    | (refine OblG.mk (by conv => whnf
                          repeat (first | (refine Bx.mk ?_) | (intro h; (try simp [nd_eta, sh_eta, it_eta, sto_eta, op_eta, ch_eta, nw_eta, fl_eta, rq_eta, rs_eta, elDef, -List.getD_eq_getElem?_getD] at h); conv => whnf))
                          first | omega | rfl | exact inK_byte _ | (simp only [inK, Int.toNat_natCast, nd_eta, sh_eta, it_eta, sto_eta, op_eta, ch_eta, nw_eta, fl_eta, rq_eta, rs_eta, elDef, o53, m53] <;> first | omega | grind) | grind [inK, o53, m53]) ?_ <;> conv => whnf)
    | (refine Gd.mk (fun h => ?_) <;> (try simp [nd_eta, sh_eta, it_eta, sto_eta, op_eta, ch_eta, nw_eta, fl_eta, rq_eta, rs_eta, elDef, -List.getD_eq_getElem?_getD] at h) <;> conv => whnf)
    | (refine And.intro ?_ ?_ <;> conv => whnf)
    | exact True.intro
    | (intro; conv => whnf)
  · exact leafI hK (placeM_at (by omega) (hitM_iff.2 (h.imp (fun h => ⟨h.1, of_decide_eq_true h.2⟩) id)) hj)
  · have hi : hitM n b i = false := hitM_no ⟨fun e => of_decide_eq_false (h.1 e), h.2⟩
    have hj' : ∀ j, j < i + 1 → hitM n b j = false := fun j h => (Nat.lt_or_eq_of_le (Nat.le_of_lt_succ h)).elim (hj j) (fun e => e ▸ hi)
    exact ⟨i + 1, [], [], ⟨by omega, by grind⟩, by omega, by (conv => whnf); (repeat' (first | exact trivial | rfl | (refine nilEq ?_; first | rfl | (simp only [*]; done) | (simp [*]; done) | grind) | apply And.intro | ((first | refine intEq ?_ | refine boolEq ?_ | refine strEq ?_ | refine psEq ?_ | refine nilEq ?_ | refine arrEq ?_); (try simp only [Int.toNat_natCast, nd_eta, sh_eta, it_eta, sto_eta, op_eta, ch_eta, nw_eta, fl_eta, rq_eta, rs_eta, elDef]); exact hj'))); (all_goals (conv => whnf)); (repeat' (first | exact trivial | rfl | (refine nilEq ?_; first | rfl | (simp only [*]; done) | (simp [*]; done) | grind) | apply And.intro | ((first | refine intEq ?_ | refine boolEq ?_ | refine strEq ?_ | refine psEq ?_ | refine nilEq ?_ | refine arrEq ?_); (try simp only [Int.toNat_natCast, nd_eta, sh_eta, it_eta, sto_eta, op_eta, ch_eta, nw_eta, fl_eta, rq_eta, rs_eta, elDef]); exact hj') | ((try simp only [Int.toNat_natCast, nd_eta, sh_eta, it_eta, sto_eta, op_eta, ch_eta, nw_eta, fl_eta, rq_eta, rs_eta, elDef]); exact hj'))), (by exact sgOk_of (by rfl))⟩
  · exact leafI hK (placeM_none (by grind))
theorem s30 : (CtrOK Try.prog 30 (.pure F30) ∧ Callable Try.prog 30) := by
  refine pure_ok (E := E30) (mkE_cons s53 (mkE_nil tab_ok)) mix (O := O30) (F := F30) Try.func30 rfl (by rfl) (by kernel_rfl) (fun args o v h => ?_) (fun args o v h => ?_) (fun args o v h hbd hp K hK => ?_)
  · unfold F30 at h; split at h <;> cases h; first | trivial | (simp [v30, Scalar, Scalar2, Scalar1, stC, ndC, itC, chC, nwC])
  · unfold F30 at h; split at h <;> cases h; exact Nat.le_of_ble_eq_true rfl
  · unfold F30 at h; split at h
    case h_2 => cases h
    cases h
    exact a30 ⟨_, _, _, _, _⟩ _ (by exact hbd) (hp _ rfl) K hK
noncomputable def v55 (n : Nd) (b : Bs) : AV := .tup [.int .i64 (slotM n b).1, .bool (slotM n b).2]
noncomputable def o55 (n : Nd) (b : Bs) : Prop := n.kids.length ≤ 1000000000 ∧ (n.kind = 4 → n.names.length = n.kids.length)
noncomputable def F55 : List AV → QR
  | [.st [.int .i64 n_0, .int .i64 n_1, .str n_2, .ps .str n_3, .ps .node n_4], .str b] => some (some (o55 ⟨n_0, n_1, n_2, n_3, n_4⟩ b), v55 ⟨n_0, n_1, n_2, n_3, n_4⟩ b)
  | _ => none
noncomputable def E55 : Ctx := mkE tab [(30, .pure F30), (53, .pure F53)]
noncomputable def O55 : Nat → List DI := ordL [(3, [.q 0, .q 1, .q 2, .q 3, .q 4, .q 5])]
theorem a55 (n : Nd) (b : Bs) (hb : BdAs [.st (ndC n), .str b]) (ho : o55 n b) (K : AV → List AV → Prop) (hK : K (v55 n b) []) : abody E55 O55 .ps Try.f55 (Try.f55.body.getD .skip) [.st (ndC n), .str b] K := by
  simp only [BdAs, BdA, BdL, BdC, MX, ndC, shC, itC, stC, opC, chC, nwC, flC, rqC, rsC, enc, List.cons_append, List.nil_append, and_true, true_and] at hb
  unfold o55 at ho
  unfold v55 at hK
  obtain ⟨ho1, ho2⟩ := ho
  conv => whnf
  repeat' first
    | (refine Cnd.mk (fun h => ?_) (fun h => ?_) <;> (try simp [nd_eta, sh_eta, it_eta, sto_eta, op_eta, ch_eta, nw_eta, fl_eta, rq_eta, rs_eta, elDef, -List.getD_eq_getElem?_getD] at h) <;> conv => whnf)
    | (refine Obl.mk (by first | omega | rfl | exact inK_byte _ | (simp only [inK, Int.toNat_natCast, nd_eta, sh_eta, it_eta, sto_eta, op_eta, ch_eta, nw_eta, fl_eta, rq_eta, rs_eta, elDef, o30, o53, m53] <;> first | omega | grind) | grind [inK, o30, o53, m53]) ?_ <;> conv => whnf)
    | (refine OblG.mk (by conv => whnf
                          repeat (first | (refine Bx.mk ?_) | (intro h; (try simp [nd_eta, sh_eta, it_eta, sto_eta, op_eta, ch_eta, nw_eta, fl_eta, rq_eta, rs_eta, elDef, -List.getD_eq_getElem?_getD] at h); conv => whnf))
                          first | omega | rfl | exact inK_byte _ | (simp only [inK, Int.toNat_natCast, nd_eta, sh_eta, it_eta, sto_eta, op_eta, ch_eta, nw_eta, fl_eta, rq_eta, rs_eta, elDef, o30, o53, m53] <;> first | omega | grind) | grind [inK, o30, o53, m53]) ?_ <;> conv => whnf)
    | (refine Gd.mk (fun h => ?_) <;> (try simp [nd_eta, sh_eta, it_eta, sto_eta, op_eta, ch_eta, nw_eta, fl_eta, rq_eta, rs_eta, elDef, -List.getD_eq_getElem?_getD] at h) <;> conv => whnf)
    | (refine And.intro ?_ ?_ <;> conv => whnf)
    | exact True.intro
    | (intro; conv => whnf)
  · have e : slotM n b = (placeM n b, decide (n.kind = 4)) := by unfold slotM; rw [if_pos h]
    rw [e] at hK
    exact hK
  · have e : slotM n b = ((n.kids.length : Int), false) := by unfold slotM; rw [if_neg (by omega), if_pos h]
    rw [e] at hK
    exact hK
  · refine aloop_intro Nat (fun k => k ≤ n.kids.length + 1 ∧ (∀ j, j < k → ltS b (n.names.getD j []) = false) ∧ (n.kind = 4 → k ≤ n.kids.length)) (fun k => n.kids.length + 1 - k) (fun k => [(7, .int .i64 k)]) (fun k => []) [2] 0 [] [] ?_ ?_ (by exact sgOk_of (by rfl)) ?_
    · first | (simp; done) | (simp; assumption)
    · (conv => whnf); (repeat' (first | exact trivial | rfl | (refine nilEq ?_; first | rfl | (simp only [*]; done) | (simp [*]; done) | grind) | apply And.intro | ((first | refine intEq ?_ | refine boolEq ?_ | refine strEq ?_ | refine psEq ?_ | refine nilEq ?_ | refine arrEq ?_); (try simp only [Int.toNat_natCast, nd_eta, sh_eta, it_eta, sto_eta, op_eta, ch_eta, nw_eta, fl_eta, rq_eta, rs_eta, elDef]); first | done | omega | grind | (simp only [*]; done) | (simp [*]; done)))); (all_goals (conv => whnf)); (repeat' (first | exact trivial | rfl | (refine nilEq ?_; first | rfl | (simp only [*]; done) | (simp [*]; done) | grind) | apply And.intro | ((first | refine intEq ?_ | refine boolEq ?_ | refine strEq ?_ | refine psEq ?_ | refine nilEq ?_ | refine arrEq ?_); (try simp only [Int.toNat_natCast, nd_eta, sh_eta, it_eta, sto_eta, op_eta, ch_eta, nw_eta, fl_eta, rq_eta, rs_eta, elDef]); first | done | omega | grind | (simp only [*]; done) | (simp [*]; done)) | ((try simp only [Int.toNat_natCast, nd_eta, sh_eta, it_eta, sto_eta, op_eta, ch_eta, nw_eta, fl_eta, rq_eta, rs_eta, elDef]); first | done | omega | grind | (simp only [*]; done) | (simp [*]; done))))
    rintro i ⟨hi, hj⟩
    conv => whnf
    repeat' first
      | (refine Cnd.mk (fun h => ?_) (fun h => ?_) <;> (try simp [nd_eta, sh_eta, it_eta, sto_eta, op_eta, ch_eta, nw_eta, fl_eta, rq_eta, rs_eta, elDef, -List.getD_eq_getElem?_getD] at h) <;> conv => whnf)
      | (refine Obl.mk (by first | omega | rfl | exact inK_byte _ | (simp only [inK, Int.toNat_natCast, nd_eta, sh_eta, it_eta, sto_eta, op_eta, ch_eta, nw_eta, fl_eta, rq_eta, rs_eta, elDef, o30, o53, m53] <;> first | omega | grind) | grind [inK, o30, o53, m53]) ?_ <;> conv => whnf)
      | (refine OblG.mk (by conv => whnf
                            repeat (first | (refine Bx.mk ?_) | (intro h; (try simp [nd_eta, sh_eta, it_eta, sto_eta, op_eta, ch_eta, nw_eta, fl_eta, rq_eta, rs_eta, elDef, -List.getD_eq_getElem?_getD] at h); conv => whnf))
                            first | omega | rfl | exact inK_byte _ | (simp only [inK, Int.toNat_natCast, nd_eta, sh_eta, it_eta, sto_eta, op_eta, ch_eta, nw_eta, fl_eta, rq_eta, rs_eta, elDef, o30, o53, m53] <;> first | omega | grind) | grind [inK, o30, o53, m53]) ?_ <;> conv => whnf)
      | (refine Gd.mk (fun h => ?_) <;> (try simp [nd_eta, sh_eta, it_eta, sto_eta, op_eta, ch_eta, nw_eta, fl_eta, rq_eta, rs_eta, elDef, -List.getD_eq_getElem?_getD] at h) <;> conv => whnf)
      | (refine And.intro ?_ ?_ <;> conv => whnf)
      | exact True.intro
      | (intro; conv => whnf)
    · have e1 := slotI_at (n := n) (b := b) (i := i) (by omega) (fun hl => by rcases h with h | h <;> first | omega | exact h) hj.1
      have e : slotM n b = ((i : Int), false) := by unfold slotM; rw [if_neg (by omega), if_neg (by grind), if_pos (by omega), e1]
      rw [e] at hK
      exact hK
    · have hj' : ∀ j, j < i + 1 → ltS b (n.names.getD j []) = false := fun j hl => (Nat.lt_or_eq_of_le (Nat.le_of_lt_succ hl)).elim (hj.1 j) (fun e => e ▸ h.2)
      exact ⟨i + 1, [], [], ⟨by omega, by grind⟩, by omega, by (conv => whnf); (repeat' (first | exact trivial | rfl | (refine nilEq ?_; first | rfl | (simp only [*]; done) | (simp [*]; done) | grind) | apply And.intro | ((first | refine intEq ?_ | refine boolEq ?_ | refine strEq ?_ | refine psEq ?_ | refine nilEq ?_ | refine arrEq ?_); (try simp only [Int.toNat_natCast, nd_eta, sh_eta, it_eta, sto_eta, op_eta, ch_eta, nw_eta, fl_eta, rq_eta, rs_eta, elDef]); exact ⟨hj', by omega⟩))); (all_goals (conv => whnf)); (repeat' (first | exact trivial | rfl | (refine nilEq ?_; first | rfl | (simp only [*]; done) | (simp [*]; done) | grind) | apply And.intro | ((first | refine intEq ?_ | refine boolEq ?_ | refine strEq ?_ | refine psEq ?_ | refine nilEq ?_ | refine arrEq ?_); (try simp only [Int.toNat_natCast, nd_eta, sh_eta, it_eta, sto_eta, op_eta, ch_eta, nw_eta, fl_eta, rq_eta, rs_eta, elDef]); exact ⟨hj', by omega⟩) | ((try simp only [Int.toNat_natCast, nd_eta, sh_eta, it_eta, sto_eta, op_eta, ch_eta, nw_eta, fl_eta, rq_eta, rs_eta, elDef]); exact ⟨hj', by omega⟩))), (by exact sgOk_of (by rfl))⟩
    · have e4 : ¬ n.kind = 4 := by omega
      have e : slotM n b = (-1, false) := by unfold slotM; rw [if_neg (by omega), if_neg (by grind), if_neg e4]
      rw [e] at hK
      exact hK
theorem s55 : (CtrOK Try.prog 55 (.pure F55) ∧ Callable Try.prog 55) := by
  refine pure_ok (E := E55) (mkE_cons s30 (mkE_cons s53 (mkE_nil tab_ok))) mix (O := O55) (F := F55) Try.func55 rfl (by rfl) (by kernel_rfl) (fun args o v h => ?_) (fun args o v h => ?_) (fun args o v h hbd hp K hK => ?_)
  · unfold F55 at h; split at h <;> cases h; first | trivial | (simp [v55, Scalar, Scalar2, Scalar1, stC, ndC, itC, chC, nwC])
  · unfold F55 at h; split at h <;> cases h; exact Nat.le_of_ble_eq_true rfl
  · unfold F55 at h; split at h
    case h_2 => cases h
    cases h
    exact a55 ⟨_, _, _, _, _⟩ _ (by exact hbd) (hp _ rfl) K hK
noncomputable def c32 (n : Nd) (i : Int) (x : Nd) (K : AV → List AV → Prop) : Prop :=
    False
noncomputable def C32 : List AV → (AV → List AV → Prop) → Prop
  | [.st [.int .i64 n_0, .int .i64 n_1, .str n_2, .ps .str n_3, .ps .node n_4], .int .i64 i, .st [.int .i64 x_0, .int .i64 x_1, .str x_2, .ps .str x_3, .ps .node x_4]], K => c32 ⟨n_0, n_1, n_2, n_3, n_4⟩ i ⟨x_0, x_1, x_2, x_3, x_4⟩ K
  | _, _ => False
noncomputable def E32 : Ctx := mkE tab [(29, .gen .ps C29)]
noncomputable def O32 : Nat → List DI := ordL [(2, [.q 0, .q 1, .q 2, .q 3, .l 4 [1], .q 5, .l 6 []])]
theorem a32 (n : Nd) (i : Int) (x : Nd) (hb : BdAs [.st (ndC n), .int .i64 i, .st (ndC x)]) (K : AV → List AV → Prop) (h : c32 n i x K) : abody E32 O32 .ps Try.f32 (Try.f32.body.getD .skip) [.st (ndC n), .int .i64 i, .st (ndC x)] K := by
  simp only [BdAs, BdA, BdL, BdC, MX, ndC, shC, itC, stC, opC, chC, nwC, flC, rqC, rsC, enc, List.cons_append, List.nil_append, and_true, true_and] at hb
  unfold c32 at h
  exact h.elim
theorem s32 : (CtrOK Try.prog 32 (.gen .ps C32) ∧ Callable Try.prog 32) := by
  refine gen_ok (E := E32) (mkE_cons s29 (mkE_nil tab_ok)) mix (O := O32) (C := C32) (own := .ps) Try.func32 rfl (by rfl) (by kernel_rfl) (fun args K h hbd => ?_)
  unfold C32 at h; split at h
  case h_2 => exact h.elim
  exact ⟨Nat.le_of_ble_eq_true rfl, a32 ⟨_, _, _, _, _⟩ _ ⟨_, _, _, _, _⟩ (by exact hbd) _ h⟩
noncomputable def c33 (n1 : Int) (n2 : Int) (n3 : Bs) (n4 : List Bs) (n5 : List Nd) (b : Bs) (x1 : Int) (x2 : Int) (x3 : Bs) (x4 : List Bs) (x5 : List Nd) (K : AV → List AV → Prop) : Prop :=
    Obl ((smN ⟨n1, n2, n3, n4, n5⟩ ∧ smN ⟨x1, x2, x3, x4, x5⟩) ∧ n5.length ≤ 1000000 ∧ n4.length ≤ 1000000 ∧ evenN ⟨n1, n2, n3, n4, n5⟩ ∧ placeM ⟨n1, n2, n3, n4, n5⟩ b < 0) (K (optNO (addHereM ⟨n1, n2, n3, n4, n5⟩ b ⟨x1, x2, x3, x4, x5⟩)) [])
noncomputable def C33 : List AV → (AV → List AV → Prop) → Prop
  | [.st [.int .i64 n1, .int .i64 n2, .str n3, .own .str n4, .own .node n5], .str b, .st [.int .i64 x1, .int .i64 x2, .str x3, .own .str x4, .own .node x5]], K => c33 n1 n2 n3 n4 n5 b x1 x2 x3 x4 x5 K
  | _, _ => False
noncomputable def E33 : Ctx := mkE tab [(29, .gen .ps C29), (32, .gen .ps C32), (55, .pure F55)]
noncomputable def O33 : Nat → List DI := ordL [(7, [.q 1, .q 2, .q 3, .q 4, .q 6, .l 0 [2, 4, 6], .l 5 [6], .l 7 [], .l 8 [], .l 9 [], .q 10])]
theorem a33 (n1 : Int) (n2 : Int) (n3 : Bs) (n4 : List Bs) (n5 : List Nd) (b : Bs) (x1 : Int) (x2 : Int) (x3 : Bs) (x4 : List Bs) (x5 : List Nd) (hb : BdAs [.st [.int .i64 n1, .int .i64 n2, .str n3, .own .str n4, .own .node n5], .str b, .st [.int .i64 x1, .int .i64 x2, .str x3, .own .str x4, .own .node x5]]) (K : AV → List AV → Prop) (h : c33 n1 n2 n3 n4 n5 b x1 x2 x3 x4 x5 K) : abody E33 O33 .ow Try.f33 (Try.f33.body.getD .skip) [.st [.int .i64 n1, .int .i64 n2, .str n3, .own .str n4, .own .node n5], .str b, .st [.int .i64 x1, .int .i64 x2, .str x3, .own .str x4, .own .node x5]] K := by
  simp only [BdAs, BdA, BdL, BdC, MX, ndC, shC, itC, stC, opC, chC, nwC, flC, rqC, rsC, enc, List.cons_append, List.nil_append, and_true, true_and] at hb
  unfold c33 at h
  obtain ⟨⟨⟨hn, hx⟩, hl⟩, hK⟩ := h
  have hge := slotM_ge ⟨n1, n2, n3, n4, n5⟩ b
  simp only at hge
  have hev : n1 = 4 → n4.length = n5.length := hl.2.2.1
  have hth : (slotM ⟨n1, n2, n3, n4, n5⟩ b).2 = false := slotM_not hl.2.2.2
  conv => whnf
  repeat' first
    | (refine Cnd.mk (fun h => ?_) (fun h => ?_) <;> (try simp [nd_eta, sh_eta, it_eta, sto_eta, op_eta, ch_eta, nw_eta, fl_eta, rq_eta, rs_eta, elDef, -List.getD_eq_getElem?_getD] at h) <;> conv => whnf)
    | (refine Obl.mk (by first | omega | rfl | exact inK_byte _ | (simp only [inK, Int.toNat_natCast, nd_eta, sh_eta, it_eta, sto_eta, op_eta, ch_eta, nw_eta, fl_eta, rq_eta, rs_eta, elDef, m29, o55] <;> first | omega | grind) | grind [inK, m29, o55]) ?_ <;> conv => whnf)
    | (refine OblG.mk (by conv => whnf
                          repeat (first | (refine Bx.mk ?_) | (intro h; (try simp [nd_eta, sh_eta, it_eta, sto_eta, op_eta, ch_eta, nw_eta, fl_eta, rq_eta, rs_eta, elDef, -List.getD_eq_getElem?_getD] at h); conv => whnf))
                          first | omega | rfl | exact inK_byte _ | (simp only [inK, Int.toNat_natCast, nd_eta, sh_eta, it_eta, sto_eta, op_eta, ch_eta, nw_eta, fl_eta, rq_eta, rs_eta, elDef, m29, o55] <;> first | omega | grind) | grind [inK, m29, o55]) ?_ <;> conv => whnf)
    | (refine Gd.mk (fun h => ?_) <;> (try simp [nd_eta, sh_eta, it_eta, sto_eta, op_eta, ch_eta, nw_eta, fl_eta, rq_eta, rs_eta, elDef, -List.getD_eq_getElem?_getD] at h) <;> conv => whnf)
    | (refine And.intro ?_ ?_ <;> conv => whnf)
    | exact True.intro
    | (intro; conv => whnf)
  · have e : addHereM ⟨n1, n2, n3, n4, n5⟩ b ⟨x1, x2, x3, x4, x5⟩ = none := by unfold addHereM; rw [if_pos h]
    exact leafV hK (by rw [e]; simp [optNO]; exact ⟨rfl, rfl, rfl, rfl, rfl⟩)
  · rw [hth] at h; cases h
  · have e : addHereM ⟨n1, n2, n3, n4, n5⟩ b ⟨x1, x2, x3, x4, x5⟩ = some ⟨n1, 0, [], [], insM n5 (slotM ⟨n1, n2, n3, n4, n5⟩ b).1.toNat ⟨x1, x2, x3, x4, x5⟩⟩ := by unfold addHereM; rw [if_neg (by omega), if_neg (by grind)]; simp only [h, if_true]
    exact leafV hK (by rw [e]; simp [optNO, insM])
  · have e : addHereM ⟨n1, n2, n3, n4, n5⟩ b ⟨x1, x2, x3, x4, x5⟩ = some ⟨n1, 0, [], insM n4 (slotM ⟨n1, n2, n3, n4, n5⟩ b).1.toNat b, insM n5 (slotM ⟨n1, n2, n3, n4, n5⟩ b).1.toNat ⟨x1, x2, x3, x4, x5⟩⟩ := by unfold addHereM; rw [if_neg (by omega), if_neg (by grind)]; simp only [h, if_false]
    exact leafV hK (by rw [e]; simp [optNO, insM])
theorem s33 : (CtrOK Try.prog 33 (.gen .ow C33) ∧ Callable Try.prog 33) := by
  refine gen_ok (E := E33) (mkE_cons s29 (mkE_cons s32 (mkE_cons s55 (mkE_nil tab_ok)))) mix (O := O33) (C := C33) (own := .ow) Try.func33 rfl (by rfl) (by kernel_rfl) (fun args K h hbd => ?_)
  unfold C33 at h; split at h
  case h_2 => exact h.elim
  exact ⟨Nat.le_of_ble_eq_true rfl, a33 _ _ _ _ _ _ _ _ _ _ _ (by exact hbd) _ h⟩
end Go.Rs

