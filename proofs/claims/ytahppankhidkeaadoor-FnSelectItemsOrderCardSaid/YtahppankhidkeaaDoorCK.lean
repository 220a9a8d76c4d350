import Derived.Test.YtahppankhidkeaaDoorCJ
import Derived.Test.YtahppankhidkeaaDoorCE
import Derived.Test.YtahppankhidkeaaDoorM8
set_option linter.all false
namespace Go.Rs
open Go.Proofs
set_option maxRecDepth 100000
set_option linter.unusedVariables false
set_option linter.unusedSimpArgs false
noncomputable def v87 (n : Int) : AV := .str (decM n.toNat)
noncomputable def o87 (n : Int) : Prop := 0 ≤ n ∧ n ≤ 1000000000000
noncomputable def m87 (n : Int) : Nat := n.toNat
noncomputable def F87 : List AV → QR
  | [.int .i64 n] => some (some (o87 n), v87 n)
  | _ => none
noncomputable def Fk87 (k : Nat) : List AV → QR
  | [.int .i64 n] => some (some (m87 n < k ∧ o87 n), v87 n)
  | _ => none
noncomputable def E87 (k : Nat) : Ctx := mkE tab [(87, .pure (Fk87 k))]
noncomputable def O87 : Nat → List DI := ordL [(7, [.q 0, .q 1, .q 2, .q 3, .q 4, .q 5, .q 6, .l 7 [2], .q 8, .q 9, .q 10])]
theorem a87 (k : Nat) (n : Int) (hm : m87 n < k + 1) (hb : BdAs [.int .i64 n]) (ho : o87 n) (K : AV → List AV → Prop) (hK : K (v87 n) []) : abody (E87 k) O87 .ps Tryd.f87 (Tryd.f87.body.getD .skip) [.int .i64 n] K := by
  simp only [BdAs, BdA, BdL, BdC, MX, ndC, shC, itC, stC, opC, chC, nwC, flC, rqC, rsC, enc, List.cons_append, List.nil_append, and_true, true_and] at hb
  unfold o87 at ho
  unfold v87 at hK
  unfold m87 at hm
  have h1 := fun h => decM_lt (n := n.toNat) h
  have h2 := fun h => decM_ge (n := n.toNat) h
  have h3 := decM_len (n / 10).toNat
  conv => whnf
  repeat' first
    | (refine Cnd.mk (fun h => ?_) (fun h => ?_) <;> (try simp [nd_eta, sh_eta, it_eta, sto_eta, op_eta, ch_eta, nw_eta, fl_eta, rq_eta, rs_eta, elDef, -List.getD_eq_getElem?_getD] at h) <;> conv => whnf)
    | (refine Obl.mk (by first | omega | rfl | exact inK_byte _ | (simp only [inK, Int.toNat_natCast, nd_eta, sh_eta, it_eta, sto_eta, op_eta, ch_eta, nw_eta, fl_eta, rq_eta, rs_eta, elDef, m87, o87, m87] <;> first | omega | grind) | grind [inK, m87, o87, m87]) ?_ <;> conv => whnf)
    | (refine OblG.mk (by conv => whnf
                          repeat (first | (refine Bx.mk ?_) | (intro h; (try simp [nd_eta, sh_eta, it_eta, sto_eta, op_eta, ch_eta, nw_eta, fl_eta, rq_eta, rs_eta, elDef, -List.getD_eq_getElem?_getD] at h); conv => whnf))
                          first | omega | rfl | exact inK_byte _ | (simp only [inK, Int.toNat_natCast, nd_eta, sh_eta, it_eta, sto_eta, op_eta, ch_eta, nw_eta, fl_eta, rq_eta, rs_eta, elDef, m87, o87, m87] <;> first | omega | grind) | grind [inK, m87, o87, m87]) ?_ <;> conv => whnf)
    | (refine Gd.mk (fun h => ?_) <;> (try simp [nd_eta, sh_eta, it_eta, sto_eta, op_eta, ch_eta, nw_eta, fl_eta, rq_eta, rs_eta, elDef, -List.getD_eq_getElem?_getD] at h) <;> conv => whnf)
    | (refine And.intro ?_ ?_ <;> conv => whnf)
    | exact True.intro
    | (intro; conv => whnf)
  · exfalso; omega
  · exfalso; omega
  · exact leafS hK (by rw [h1 (by omega)]; simp only [List.map_cons, List.map_nil]; rw [show (48 + n).toNat = 48 + n.toNat by omega])
  · exact leafS hK (by rw [h2 (by omega)]; simp only [List.map_cons, List.map_nil]; rw [show (48 + n % 10).toNat = 48 + n.toNat % 10 by omega, show (n / 10).toNat = n.toNat / 10 by omega])
theorem r87 : ∀ k, (CtrOK Tryd.prog 87 (.pure (Fk87 k)) ∧ Callable Tryd.prog 87) := by
  intro k
  induction k with
  | zero =>
    exact ⟨⟨fun args o v h => by unfold Fk87 at h; split at h <;> cases h; first | trivial | (simp [v87, Scalar, Scalar1]), fun args K h => by
        unfold pureC Fk87 at h; split at h
        · rename_i h1; split at h1 <;> cases h1; exact absurd (h.1 _ rfl).1 (Nat.not_lt_zero _)
        · exact h.elim⟩, callable Tryd.func87 rfl (by rfl)⟩
  | succ k ih =>
    refine pure_ok (E := E87 k) (mkE_cons ih (mkE_nil tab_ok)) mix (O := O87) (F := (Fk87 (k + 1))) Tryd.func87 rfl (by rfl) (by kernel_rfl) (fun args o v h => ?_) (fun args o v h => ?_) (fun args o v h hbd hp K hK => ?_)
    · unfold Fk87 at h; split at h <;> cases h; first | trivial | (simp [v87, Scalar, Scalar1])
    · unfold Fk87 at h; split at h <;> cases h; exact Nat.le_of_ble_eq_true rfl
    · unfold Fk87 at h; split at h
      case h_2 => cases h
      cases h
      exact a87 k _ (hp _ rfl).1 (by exact hbd) (hp _ rfl).2 K hK
theorem s87 : (CtrOK Tryd.prog 87 (.pure F87) ∧ Callable Tryd.prog 87) := by
  refine ⟨⟨fun args o v h => ?_, fun args K h => ?_⟩, (r87 0).2⟩
  · unfold F87 at h; split at h <;> cases h; first | trivial | (simp [v87, Scalar, Scalar1])
  · unfold pureC F87 at h; split at h
    · rename_i h1; split at h1 <;> cases h1
      exact (r87 (m87 _ + 1)).1.2 _ K ⟨fun p hp => by cases hp; exact ⟨Nat.lt_succ_self _, (h.1 _ rfl)⟩, h.2⟩
    · exact h.elim
noncomputable def v73 (n : Nd) (b : Bs) : AV := .int .i64 (placeM n b)
noncomputable def o73 (n : Nd) (b : Bs) : Prop := n.kids.length ≤ 1000000000 ∧ (n.kind = 4 → n.names.length = n.kids.length)
noncomputable def F73 : List AV → QR
  | [.st [.int .i64 n_0, .int .i64 n_1, .str n_2, .ps .str n_3, .ps .node n_4], .str b] => some (some (o73 ⟨n_0, n_1, n_2, n_3, n_4⟩ b), v73 ⟨n_0, n_1, n_2, n_3, n_4⟩ b)
  | _ => none
noncomputable def E73 : Ctx := mkE tab [(87, .pure F87)]
noncomputable def O73 : Nat → List DI := ordL []
theorem a73 (n : Nd) (b : Bs) (hb : BdAs [.st (ndC n), .str b]) (ho : o73 n b) (K : AV → List AV → Prop) (hK : K (v73 n b) []) : abody E73 O73 .ps Tryd.f73 (Tryd.f73.body.getD .skip) [.st (ndC n), .str b] K := by
  simp only [BdAs, BdA, BdL, BdC, MX, ndC, shC, itC, stC, opC, chC, nwC, flC, rqC, rsC, enc, List.cons_append, List.nil_append, and_true, true_and] at hb
  unfold o73 at ho
  unfold v73 at hK
  obtain ⟨ho1, ho2⟩ := ho
  conv => whnf
  refine aloop_intro Nat (fun k => k ≤ n.kids.length ∧ ∀ j, j < k → hitM n b j = false) (fun k => n.kids.length - k) (fun k => [(5, .int .i64 k)]) (fun k => []) [2] 0 [] [] ?_ ?_ (by exact sgOk_of (by rfl)) ?_
  · first | (simp; done) | (simp; assumption)
  · (conv => whnf); (repeat' (first | exact trivial | rfl | (refine nilEq ?_; first | rfl | (simp only [*]; done) | (simp [*]; done) | grind) | apply And.intro | ((first | refine intEq ?_ | refine boolEq ?_ | refine strEq ?_ | refine psEq ?_ | refine nilEq ?_ | refine arrEq ?_); (try simp only [Int.toNat_natCast, nd_eta, sh_eta, it_eta, sto_eta, op_eta, ch_eta, nw_eta, fl_eta, rq_eta, rs_eta, elDef]); first | done | omega | grind | (simp only [*]; done) | (simp [*]; done)))); (all_goals (conv => whnf)); (repeat' (first | exact trivial | rfl | (refine nilEq ?_; first | rfl | (simp only [*]; done) | (simp [*]; done) | grind) | apply And.intro | ((first | refine intEq ?_ | refine boolEq ?_ | refine strEq ?_ | refine psEq ?_ | refine nilEq ?_ | refine arrEq ?_); (try simp only [Int.toNat_natCast, nd_eta, sh_eta, it_eta, sto_eta, op_eta, ch_eta, nw_eta, fl_eta, rq_eta, rs_eta, elDef]); first | done | omega | grind | (simp only [*]; done) | (simp [*]; done)) | ((try simp only [Int.toNat_natCast, nd_eta, sh_eta, it_eta, sto_eta, op_eta, ch_eta, nw_eta, fl_eta, rq_eta, rs_eta, elDef]); first | done | omega | grind | (simp only [*]; done) | (simp [*]; done))))
  rintro i ⟨hi, hj⟩
  conv => whnf
  repeat' first
    | (refine Cnd.mk (fun h => ?_) (fun h => ?_) <;> (try simp [nd_eta, sh_eta, it_eta, sto_eta, op_eta, ch_eta, nw_eta, fl_eta, rq_eta, rs_eta, elDef, -List.getD_eq_getElem?_getD] at h) <;> conv => whnf)
    | (refine Obl.mk (by first | omega | rfl | exact inK_byte _ | (simp only [inK, Int.toNat_natCast, nd_eta, sh_eta, it_eta, sto_eta, op_eta, ch_eta, nw_eta, fl_eta, rq_eta, rs_eta, elDef, o87, m87] <;> first | omega | grind) | grind [inK, o87, m87]) ?_ <;> conv => whnf)
    | (refine OblG.mk (by conv => whnf
                          repeat (first | (refine Bx.mk ?_) | (intro h; (try simp [nd_eta, sh_eta, it_eta, sto_eta, op_eta, ch_eta, nw_eta, fl_eta, rq_eta, rs_eta, elDef, -List.getD_eq_getElem?_getD] at h); conv => whnf))
                          first | omega | rfl | exact inK_byte _ | (simp only [inK, Int.toNat_natCast, nd_eta, sh_eta, it_eta, sto_eta, op_eta, ch_eta, nw_eta, fl_eta, rq_eta, rs_eta, elDef, o87, m87] <;> first | omega | grind) | grind [inK, o87, m87]) ?_ <;> conv => whnf)
    | (refine Gd.mk (fun h => ?_) <;> (try simp [nd_eta, sh_eta, it_eta, sto_eta, op_eta, ch_eta, nw_eta, fl_eta, rq_eta, rs_eta, elDef, -List.getD_eq_getElem?_getD] at h) <;> conv => whnf)
    | (refine And.intro ?_ ?_ <;> conv => whnf)
    | exact True.intro
    | (intro; conv => whnf)
  · exact leafI hK (placeM_at (by omega) (hitM_iff.2 (h.imp (fun h => ⟨h.1, of_decide_eq_true h.2⟩) id)) hj)
  · have hi : hitM n b i = false := hitM_no ⟨fun e => of_decide_eq_false (h.1 e), h.2⟩
    have hj' : ∀ j, j < i + 1 → hitM n b j = false := fun j h => (Nat.lt_or_eq_of_le (Nat.le_of_lt_succ h)).elim (hj j) (fun e => e ▸ hi)
    exact ⟨i + 1, [], [], ⟨by omega, by grind⟩, by omega, by (conv => whnf); (repeat' (first | exact trivial | rfl | (refine nilEq ?_; first | rfl | (simp only [*]; done) | (simp [*]; done) | grind) | apply And.intro | ((first | refine intEq ?_ | refine boolEq ?_ | refine strEq ?_ | refine psEq ?_ | refine nilEq ?_ | refine arrEq ?_); (try simp only [Int.toNat_natCast, nd_eta, sh_eta, it_eta, sto_eta, op_eta, ch_eta, nw_eta, fl_eta, rq_eta, rs_eta, elDef]); exact hj'))); (all_goals (conv => whnf)); (repeat' (first | exact trivial | rfl | (refine nilEq ?_; first | rfl | (simp only [*]; done) | (simp [*]; done) | grind) | apply And.intro | ((first | refine intEq ?_ | refine boolEq ?_ | refine strEq ?_ | refine psEq ?_ | refine nilEq ?_ | refine arrEq ?_); (try simp only [Int.toNat_natCast, nd_eta, sh_eta, it_eta, sto_eta, op_eta, ch_eta, nw_eta, fl_eta, rq_eta, rs_eta, elDef]); exact hj') | ((try simp only [Int.toNat_natCast, nd_eta, sh_eta, it_eta, sto_eta, op_eta, ch_eta, nw_eta, fl_eta, rq_eta, rs_eta, elDef]); exact hj'))), (by exact sgOk_of (by rfl))⟩
  · exact leafI hK (placeM_none (by grind))
theorem s73 : (CtrOK Tryd.prog 73 (.pure F73) ∧ Callable Tryd.prog 73) := by
  refine pure_ok (E := E73) (mkE_cons s87 (mkE_nil tab_ok)) mix (O := O73) (F := F73) Tryd.func73 rfl (by rfl) (by kernel_rfl) (fun args o v h => ?_) (fun args o v h => ?_) (fun args o v h hbd hp K hK => ?_)
  · unfold F73 at h; split at h <;> cases h; first | trivial | (simp [v73, Scalar, Scalar1])
  · unfold F73 at h; split at h <;> cases h; exact Nat.le_of_ble_eq_true rfl
  · unfold F73 at h; split at h
    case h_2 => cases h
    cases h
    exact a73 ⟨_, _, _, _, _⟩ _ (by exact hbd) (hp _ rfl) K hK
noncomputable def v92 (n : Nd) (b : Bs) : AV := .tup [.int .i64 (slotM n b).1, .bool (slotM n b).2]
noncomputable def o92 (n : Nd) (b : Bs) : Prop := n.kids.length ≤ 1000000000 ∧ (n.kind = 4 → n.names.length = n.kids.length)
noncomputable def F92 : List AV → QR
  | [.st [.int .i64 n_0, .int .i64 n_1, .str n_2, .ps .str n_3, .ps .node n_4], .str b] => some (some (o92 ⟨n_0, n_1, n_2, n_3, n_4⟩ b), v92 ⟨n_0, n_1, n_2, n_3, n_4⟩ b)
  | _ => none
noncomputable def E92 : Ctx := mkE tab [(73, .pure F73), (87, .pure F87)]
noncomputable def O92 : Nat → List DI := ordL [(3, [.q 0, .q 1, .q 2, .q 3, .q 4, .q 5])]
theorem a92 (n : Nd) (b : Bs) (hb : BdAs [.st (ndC n), .str b]) (ho : o92 n b) (K : AV → List AV → Prop) (hK : K (v92 n b) []) : abody E92 O92 .ps Tryd.f92 (Tryd.f92.body.getD .skip) [.st (ndC n), .str b] K := by
  simp only [BdAs, BdA, BdL, BdC, MX, ndC, shC, itC, stC, opC, chC, nwC, flC, rqC, rsC, enc, List.cons_append, List.nil_append, and_true, true_and] at hb
  unfold o92 at ho
  unfold v92 at hK
  obtain ⟨ho1, ho2⟩ := ho
  conv => whnf
  repeat' first
    | (refine Cnd.mk (fun h => ?_) (fun h => ?_) <;> (try simp [nd_eta, sh_eta, it_eta, sto_eta, op_eta, ch_eta, nw_eta, fl_eta, rq_eta, rs_eta, elDef, -List.getD_eq_getElem?_getD] at h) <;> conv => whnf)
    | (refine Obl.mk (by first | omega | rfl | exact inK_byte _ | (simp only [inK, Int.toNat_natCast, nd_eta, sh_eta, it_eta, sto_eta, op_eta, ch_eta, nw_eta, fl_eta, rq_eta, rs_eta, elDef, o73, o87, m87] <;> first | omega | grind) | grind [inK, o73, o87, m87]) ?_ <;> conv => whnf)
    | (refine OblG.mk (by conv => whnf
                          repeat (first | (refine Bx.mk ?_) | (intro h; (try simp [nd_eta, sh_eta, it_eta, sto_eta, op_eta, ch_eta, nw_eta, fl_eta, rq_eta, rs_eta, elDef, -List.getD_eq_getElem?_getD] at h); conv => whnf))
                          first | omega | rfl | exact inK_byte _ | (simp only [inK, Int.toNat_natCast, nd_eta, sh_eta, it_eta, sto_eta, op_eta, ch_eta, nw_eta, fl_eta, rq_eta, rs_eta, elDef, o73, o87, m87] <;> first | omega | grind) | grind [inK, o73, o87, m87]) ?_ <;> conv => whnf)
    | (refine Gd.mk (fun h => ?_) <;> (try simp [nd_eta, sh_eta, it_eta, sto_eta, op_eta, ch_eta, nw_eta, fl_eta, rq_eta, rs_eta, elDef, -List.getD_eq_getElem?_getD] at h) <;> conv => whnf)
    | (refine And.intro ?_ ?_ <;> conv => whnf)
    | exact True.intro
    | (intro; conv => whnf)
  · have e : slotM n b = (placeM n b, decide (n.kind = 4)) := by unfold slotM; rw [if_pos h]
    rw [e] at hK
    exact hK
  · have e : slotM n b = ((n.kids.length : Int), false) := by unfold slotM; rw [if_neg (by omega), if_pos h]
    rw [e] at hK
    exact hK
  · refine aloop_intro Nat (fun k => k ≤ n.kids.length + 1 ∧ (∀ j, j < k → ltS b (n.names.getD j []) = false) ∧ (n.kind = 4 → k ≤ n.kids.length)) (fun k => n.kids.length + 1 - k) (fun k => [(7, .int .i64 k)]) (fun k => []) [2] 0 [] [] ?_ ?_ (by exact sgOk_of (by rfl)) ?_
    · first | (simp; done) | (simp; assumption)
    · (conv => whnf); (repeat' (first | exact trivial | rfl | (refine nilEq ?_; first | rfl | (simp only [*]; done) | (simp [*]; done) | grind) | apply And.intro | ((first | refine intEq ?_ | refine boolEq ?_ | refine strEq ?_ | refine psEq ?_ | refine nilEq ?_ | refine arrEq ?_); (try simp only [Int.toNat_natCast, nd_eta, sh_eta, it_eta, sto_eta, op_eta, ch_eta, nw_eta, fl_eta, rq_eta, rs_eta, elDef]); first | done | omega | grind | (simp only [*]; done) | (simp [*]; done)))); (all_goals (conv => whnf)); (repeat' (first | exact trivial | rfl | (refine nilEq ?_; first | rfl | (simp only [*]; done) | (simp [*]; done) | grind) | apply And.intro | ((first | refine intEq ?_ | refine boolEq ?_ | refine strEq ?_ | refine psEq ?_ | refine nilEq ?_ | refine arrEq ?_); (try simp only [Int.toNat_natCast, nd_eta, sh_eta, it_eta, sto_eta, op_eta, ch_eta, nw_eta, fl_eta, rq_eta, rs_eta, elDef]); first | done | omega | grind | (simp only [*]; done) | (simp [*]; done)) | ((try simp only [Int.toNat_natCast, nd_eta, sh_eta, it_eta, sto_eta, op_eta, ch_eta, nw_eta, fl_eta, rq_eta, rs_eta, elDef]); first | done | omega | grind | (simp only [*]; done) | (simp [*]; done))))
    rintro i ⟨hi, hj⟩
    conv => whnf
    repeat' first
      | (refine Cnd.mk (fun h => ?_) (fun h => ?_) <;> (try simp [nd_eta, sh_eta, it_eta, sto_eta, op_eta, ch_eta, nw_eta, fl_eta, rq_eta, rs_eta, elDef, -List.getD_eq_getElem?_getD] at h) <;> conv => whnf)
      | (refine Obl.mk (by first | omega | rfl | exact inK_byte _ | (simp only [inK, Int.toNat_natCast, nd_eta, sh_eta, it_eta, sto_eta, op_eta, ch_eta, nw_eta, fl_eta, rq_eta, rs_eta, elDef, o73, o87, m87] <;> first | omega | grind) | grind [inK, o73, o87, m87]) ?_ <;> conv => whnf)
      | (refine OblG.mk (by conv => whnf
                            repeat (first | (refine Bx.mk ?_) | (intro h; (try simp [nd_eta, sh_eta, it_eta, sto_eta, op_eta, ch_eta, nw_eta, fl_eta, rq_eta, rs_eta, elDef, -List.getD_eq_getElem?_getD] at h); conv => whnf))
                            first | omega | rfl | exact inK_byte _ | (simp only [inK, Int.toNat_natCast, nd_eta, sh_eta, it_eta, sto_eta, op_eta, ch_eta, nw_eta, fl_eta, rq_eta, rs_eta, elDef, o73, o87, m87] <;> first | omega | grind) | grind [inK, o73, o87, m87]) ?_ <;> conv => whnf)
      | (refine Gd.mk (fun h => ?_) <;> (try simp [nd_eta, sh_eta, it_eta, sto_eta, op_eta, ch_eta, nw_eta, fl_eta, rq_eta, rs_eta, elDef, -List.getD_eq_getElem?_getD] at h) <;> conv => whnf)
      | (refine And.intro ?_ ?_ <;> conv => whnf)
      | exact True.intro
      | (intro; conv => whnf)
    · have e1 := slotI_at (n := n) (b := b) (i := i) (by omega) (fun hl => by rcases h with h | h <;> first | omega | exact h) hj.1
      have e : slotM n b = ((i : Int), false) := by unfold slotM; rw [if_neg (by omega), if_neg (by grind), if_pos (by omega), e1]
      rw [e] at hK
      exact hK
    · have hj' : ∀ j, j < i + 1 → ltS b (n.names.getD j []) = false := fun j hl => (Nat.lt_or_eq_of_le (Nat.le_of_lt_succ hl)).elim (hj.1 j) (fun e => e ▸ h.2)
      exact ⟨i + 1, [], [], ⟨by omega, by grind⟩, by omega, by (conv => whnf); (repeat' (first | exact trivial | rfl | (refine nilEq ?_; first | rfl | (simp only [*]; done) | (simp [*]; done) | grind) | apply And.intro | ((first | refine intEq ?_ | refine boolEq ?_ | refine strEq ?_ | refine psEq ?_ | refine nilEq ?_ | refine arrEq ?_); (try simp only [Int.toNat_natCast, nd_eta, sh_eta, it_eta, sto_eta, op_eta, ch_eta, nw_eta, fl_eta, rq_eta, rs_eta, elDef]); exact ⟨hj', by omega⟩))); (all_goals (conv => whnf)); (repeat' (first | exact trivial | rfl | (refine nilEq ?_; first | rfl | (simp only [*]; done) | (simp [*]; done) | grind) | apply And.intro | ((first | refine intEq ?_ | refine boolEq ?_ | refine strEq ?_ | refine psEq ?_ | refine nilEq ?_ | refine arrEq ?_); (try simp only [Int.toNat_natCast, nd_eta, sh_eta, it_eta, sto_eta, op_eta, ch_eta, nw_eta, fl_eta, rq_eta, rs_eta, elDef]); exact ⟨hj', by omega⟩) | ((try simp only [Int.toNat_natCast, nd_eta, sh_eta, it_eta, sto_eta, op_eta, ch_eta, nw_eta, fl_eta, rq_eta, rs_eta, elDef]); exact ⟨hj', by omega⟩))), (by exact sgOk_of (by rfl))⟩
    · have e4 : ¬ n.kind = 4 := by omega
      have e : slotM n b = (-1, false) := by unfold slotM; rw [if_neg (by omega), if_neg (by grind), if_neg e4]
      rw [e] at hK
      exact hK
theorem s92 : (CtrOK Tryd.prog 92 (.pure F92) ∧ Callable Tryd.prog 92) := by
  refine pure_ok (E := E92) (mkE_cons s73 (mkE_cons s87 (mkE_nil tab_ok))) mix (O := O92) (F := F92) Tryd.func92 rfl (by rfl) (by kernel_rfl) (fun args o v h => ?_) (fun args o v h => ?_) (fun args o v h hbd hp K hK => ?_)
  · unfold F92 at h; split at h <;> cases h; first | trivial | (simp [v92, Scalar, Scalar1])
  · unfold F92 at h; split at h <;> cases h; exact Nat.le_of_ble_eq_true rfl
  · unfold F92 at h; split at h
    case h_2 => cases h
    cases h
    exact a92 ⟨_, _, _, _, _⟩ _ (by exact hbd) (hp _ rfl) K hK
noncomputable def c93 (n : Nd) (i : Int) (x : Nd) (K : AV → List AV → Prop) : Prop :=
    False
noncomputable def C93 : List AV → (AV → List AV → Prop) → Prop
  | [.st [.int .i64 n_0, .int .i64 n_1, .str n_2, .ps .str n_3, .ps .node n_4], .int .i64 i, .st [.int .i64 x_0, .int .i64 x_1, .str x_2, .ps .str x_3, .ps .node x_4]], K => c93 ⟨n_0, n_1, n_2, n_3, n_4⟩ i ⟨x_0, x_1, x_2, x_3, x_4⟩ K
  | _, _ => False
noncomputable def E93 : Ctx := mkE tab [(41, .gen .ps C41)]
noncomputable def O93 : Nat → List DI := ordL [(2, [.q 0, .q 1, .q 2, .q 3, .l 4 [1], .q 5, .l 6 []])]
theorem a93 (n : Nd) (i : Int) (x : Nd) (hb : BdAs [.st (ndC n), .int .i64 i, .st (ndC x)]) (K : AV → List AV → Prop) (h : c93 n i x K) : abody E93 O93 .ps Tryd.f93 (Tryd.f93.body.getD .skip) [.st (ndC n), .int .i64 i, .st (ndC x)] K := by
  simp only [BdAs, BdA, BdL, BdC, MX, ndC, shC, itC, stC, opC, chC, nwC, flC, rqC, rsC, enc, List.cons_append, List.nil_append, and_true, true_and] at hb
  unfold c93 at h
  exact h.elim
theorem s93 : (CtrOK Tryd.prog 93 (.gen .ps C93) ∧ Callable Tryd.prog 93) := by
  refine gen_ok (E := E93) (mkE_cons s41 (mkE_nil tab_ok)) mix (O := O93) (C := C93) (own := .ps) Tryd.func93 rfl (by rfl) (by kernel_rfl) (fun args K h hbd => ?_)
  unfold C93 at h; split at h
  case h_2 => exact h.elim
  exact ⟨Nat.le_of_ble_eq_true rfl, a93 ⟨_, _, _, _, _⟩ _ ⟨_, _, _, _, _⟩ (by exact hbd) _ h⟩
noncomputable def c80 (n1 : Int) (n2 : Int) (n3 : Bs) (n4 : List Bs) (n5 : List Nd) (b : Bs) (x1 : Int) (x2 : Int) (x3 : Bs) (x4 : List Bs) (x5 : List Nd) (K : AV → List AV → Prop) : Prop :=
    Obl ((smN ⟨n1, n2, n3, n4, n5⟩ ∧ smN ⟨x1, x2, x3, x4, x5⟩) ∧ n5.length ≤ 1000000 ∧ n4.length ≤ 1000000 ∧ evenN ⟨n1, n2, n3, n4, n5⟩ ∧ placeM ⟨n1, n2, n3, n4, n5⟩ b < 0) (K (optNO (addHereM ⟨n1, n2, n3, n4, n5⟩ b ⟨x1, x2, x3, x4, x5⟩)) [])
noncomputable def C80 : List AV → (AV → List AV → Prop) → Prop
  | [.st [.int .i64 n1, .int .i64 n2, .str n3, .own .str n4, .own .node n5], .str b, .st [.int .i64 x1, .int .i64 x2, .str x3, .own .str x4, .own .node x5]], K => c80 n1 n2 n3 n4 n5 b x1 x2 x3 x4 x5 K
  | _, _ => False
noncomputable def E80 : Ctx := mkE tab [(41, .gen .ps C41), (92, .pure F92), (93, .gen .ps C93)]
noncomputable def O80 : Nat → List DI := ordL [(7, [.q 1, .q 2, .q 3, .q 4, .q 6, .l 0 [2, 4, 6], .l 5 [6], .l 7 [], .l 8 [], .l 9 [], .q 10])]
theorem a80 (n1 : Int) (n2 : Int) (n3 : Bs) (n4 : List Bs) (n5 : List Nd) (b : Bs) (x1 : Int) (x2 : Int) (x3 : Bs) (x4 : List Bs) (x5 : List Nd) (hb : BdAs [.st [.int .i64 n1, .int .i64 n2, .str n3, .own .str n4, .own .node n5], .str b, .st [.int .i64 x1, .int .i64 x2, .str x3, .own .str x4, .own .node x5]]) (K : AV → List AV → Prop) (h : c80 n1 n2 n3 n4 n5 b x1 x2 x3 x4 x5 K) : abody E80 O80 .ow Tryd.f80 (Tryd.f80.body.getD .skip) [.st [.int .i64 n1, .int .i64 n2, .str n3, .own .str n4, .own .node n5], .str b, .st [.int .i64 x1, .int .i64 x2, .str x3, .own .str x4, .own .node x5]] K := by
  simp only [BdAs, BdA, BdL, BdC, MX, ndC, shC, itC, stC, opC, chC, nwC, flC, rqC, rsC, enc, List.cons_append, List.nil_append, and_true, true_and] at hb
  unfold c80 at h
  obtain ⟨⟨⟨hn, hx⟩, hl⟩, hK⟩ := h
  have hge := slotM_ge ⟨n1, n2, n3, n4, n5⟩ b
  simp only at hge
  have hev : n1 = 4 → n4.length = n5.length := hl.2.2.1
  have hth : (slotM ⟨n1, n2, n3, n4, n5⟩ b).2 = false := slotM_not hl.2.2.2
  conv => whnf
  repeat' first
    | (refine Cnd.mk (fun h => ?_) (fun h => ?_) <;> (try simp [nd_eta, sh_eta, it_eta, sto_eta, op_eta, ch_eta, nw_eta, fl_eta, rq_eta, rs_eta, elDef, -List.getD_eq_getElem?_getD] at h) <;> conv => whnf)
    | (refine Obl.mk (by first | omega | rfl | exact inK_byte _ | (simp only [inK, Int.toNat_natCast, nd_eta, sh_eta, it_eta, sto_eta, op_eta, ch_eta, nw_eta, fl_eta, rq_eta, rs_eta, elDef, m41, o92] <;> first | omega | grind) | grind [inK, m41, o92]) ?_ <;> conv => whnf)
    | (refine OblG.mk (by conv => whnf
                          repeat (first | (refine Bx.mk ?_) | (intro h; (try simp [nd_eta, sh_eta, it_eta, sto_eta, op_eta, ch_eta, nw_eta, fl_eta, rq_eta, rs_eta, elDef, -List.getD_eq_getElem?_getD] at h); conv => whnf))
                          first | omega | rfl | exact inK_byte _ | (simp only [inK, Int.toNat_natCast, nd_eta, sh_eta, it_eta, sto_eta, op_eta, ch_eta, nw_eta, fl_eta, rq_eta, rs_eta, elDef, m41, o92] <;> first | omega | grind) | grind [inK, m41, o92]) ?_ <;> conv => whnf)
    | (refine Gd.mk (fun h => ?_) <;> (try simp [nd_eta, sh_eta, it_eta, sto_eta, op_eta, ch_eta, nw_eta, fl_eta, rq_eta, rs_eta, elDef, -List.getD_eq_getElem?_getD] at h) <;> conv => whnf)
    | (refine And.intro ?_ ?_ <;> conv => whnf)
    | exact True.intro
    | (intro; conv => whnf)
  · have e : addHereM ⟨n1, n2, n3, n4, n5⟩ b ⟨x1, x2, x3, x4, x5⟩ = none := by unfold addHereM; rw [if_pos h]
    exact leafV hK (by rw [e]; simp [optNO]; exact ⟨rfl, rfl, rfl, rfl, rfl⟩)
  · rw [hth] at h; cases h
  · have e : addHereM ⟨n1, n2, n3, n4, n5⟩ b ⟨x1, x2, x3, x4, x5⟩ = some ⟨n1, 0, [], [], insM n5 (slotM ⟨n1, n2, n3, n4, n5⟩ b).1.toNat ⟨x1, x2, x3, x4, x5⟩⟩ := by unfold addHereM; rw [if_neg (by omega), if_neg (by grind)]; simp only [h, if_true]
    exact leafV hK (by rw [e]; simp [optNO, insM])
  · have e : addHereM ⟨n1, n2, n3, n4, n5⟩ b ⟨x1, x2, x3, x4, x5⟩ = some ⟨n1, 0, [], insM n4 (slotM ⟨n1, n2, n3, n4, n5⟩ b).1.toNat b, insM n5 (slotM ⟨n1, n2, n3, n4, n5⟩ b).1.toNat ⟨x1, x2, x3, x4, x5⟩⟩ := by unfold addHereM; rw [if_neg (by omega), if_neg (by grind)]; simp only [h, if_false]
    exact leafV hK (by rw [e]; simp [optNO, insM])
theorem s80 : (CtrOK Tryd.prog 80 (.gen .ow C80) ∧ Callable Tryd.prog 80) := by
  refine gen_ok (E := E80) (mkE_cons s41 (mkE_cons s92 (mkE_cons s93 (mkE_nil tab_ok)))) mix (O := O80) (C := C80) (own := .ow) Tryd.func80 rfl (by rfl) (by kernel_rfl) (fun args K h hbd => ?_)
  unfold C80 at h; split at h
  case h_2 => exact h.elim
  exact ⟨Nat.le_of_ble_eq_true rfl, a80 _ _ _ _ _ _ _ _ _ _ _ (by exact hbd) _ h⟩
end Go.Rs

