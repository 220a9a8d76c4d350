import Derived.Test.YtcmdkiolbhccgaaCB
import Derived.Test.YtcmdkiolbhccgaaMA
set_option linter.all false
namespace Go.Rs
open Go.Proofs
set_option maxRecDepth 100000
set_option linter.unusedVariables false
set_option linter.unusedSimpArgs false
noncomputable def v52 (n : Nd) (lvl : Int) : AV := .tup [.int .i64 (if shapeM (6 - lvl).toNat n then (countM n : Int) else 0), .int .i64 (if shapeM (6 - lvl).toNat n then (depthM n : Int) else 0), .bool (shapeM (6 - lvl).toNat n)]
noncomputable def o52 (n : Nd) (lvl : Int) : Prop := 1 ≤ lvl ∧ lvl ≤ 6
noncomputable def m52 (n : Nd) (lvl : Int) : Nat := SizeOf.sizeOf n
noncomputable def F52 : List AV → QR
  | [.st [.int .i64 n_0, .int .i64 n_1, .str n_2, .ps .str n_3, .ps .node n_4], .int .i64 lvl] => some (some (o52 ⟨n_0, n_1, n_2, n_3, n_4⟩ lvl), v52 ⟨n_0, n_1, n_2, n_3, n_4⟩ lvl)
  | _ => none
noncomputable def Fk52 (k : Nat) : List AV → QR
  | [.st [.int .i64 n_0, .int .i64 n_1, .str n_2, .ps .str n_3, .ps .node n_4], .int .i64 lvl] => some (some (m52 ⟨n_0, n_1, n_2, n_3, n_4⟩ lvl < k ∧ o52 ⟨n_0, n_1, n_2, n_3, n_4⟩ lvl), v52 ⟨n_0, n_1, n_2, n_3, n_4⟩ lvl)
  | _ => none
noncomputable def E52 (k : Nat) : Ctx := mkE tab [(52, .pure (Fk52 k)), (64, .pure F64)]
noncomputable def O52 : Nat → List DI := ordL []
theorem a52 (k : Nat) (n : Nd) (lvl : Int) (hm : m52 n lvl < k + 1) (hb : BdAs [.st (ndC n), .int .i64 lvl]) (ho : o52 n lvl) (K : AV → List AV → Prop) (hK : K (v52 n lvl) []) : abody (E52 k) O52 .ps Try.f52 (Try.f52.body.getD .skip) [.st (ndC n), .int .i64 lvl] K := by
  simp only [BdAs, BdA, BdL, BdC, MX, ndC, shC, itC, stC, opC, chC, nwC, flC, rqC, rsC, enc, List.cons_append, List.nil_append, and_true, true_and] at hb
  unfold o52 at ho
  unfold v52 at hK
  unfold m52 at hm
  have hkid : ∀ j, j < n.kids.length → SizeOf.sizeOf (n.kids.getD j default) < k := fun j hj => by have := kid_size hj; omega
  have h0 : lvl = 6 → shapeM (6 - lvl).toNat n = false := fun e => by subst e; rfl
  have h1 : lvl < 6 → shapeM (6 - lvl).toNat n = (partsM n && n.kids.all (shapeM ((6 - lvl).toNat - 1))) := fun h => shapeM_pos n (by omega)
  have h2 : (6 - (lvl + 1)).toNat = (6 - lvl).toNat - 1 := by omega
  conv => whnf
  repeat' first
    | (refine Cnd.mk (fun h => ?_) (fun h => ?_) <;> (try simp [etas, elDef, -List.getD_eq_getElem?_getD] at h) <;> conv => whnf)
    | (refine Obl.mk (by first | omega | rfl | exact inK_byte _ | (simp only [inK, Int.toNat_natCast, etas, elDef, m52, o52, m52] <;> first | omega | grind) | grind [inK, m52, o52, m52]) ?_ <;> conv => whnf)
    | (refine OblG.mk (by conv => whnf
                          repeat (first | (refine Bx.mk ?_) | (intro h; (try simp [etas, elDef, -List.getD_eq_getElem?_getD] at h); conv => whnf))
                          first | omega | rfl | exact inK_byte _ | (simp only [inK, Int.toNat_natCast, etas, elDef, m52, o52, m52] <;> first | omega | grind) | grind [inK, m52, o52, m52]) ?_ <;> conv => whnf)
    | (refine Gd.mk (fun h => ?_) <;> (try simp [etas, elDef, -List.getD_eq_getElem?_getD] at h) <;> conv => whnf)
    | (refine And.intro ?_ ?_ <;> conv => whnf)
    | exact True.intro
    | (intro; conv => whnf)
  · have : shapeM (6 - lvl).toNat n = false := by grind
    exact leafV hK (by simp [this])
  have hp := partsM_kids h.2
  have hc : ∀ x, shapeM ((6 - lvl).toNat - 1) x = true → countM x ≤ 16807 := fun x hx => okN_count ⟨_, by omega, hx⟩
  have hd : ∀ x, shapeM ((6 - lvl).toNat - 1) x = true → depthM x ≤ 5 := fun x hx => Nat.le_trans (depth_le hx) (by omega)
  refine aloop_intro Nat (fun k => k ≤ n.kids.length ∧ ∀ j, j < k → shapeM ((6 - lvl).toNat - 1) (n.kids.getD j default) = true) (fun k => n.kids.length - k) (fun k => [(22, .int .i64 k), (4, .int .i64 (1 + sumN countM (n.kids.take k) : Nat)), (5, .int .i64 (1 + maxN depthM (n.kids.take k) : Nat))]) (fun k => []) [2] 0 [] [] ?_ ?_ (by exact sgOk_of (by rfl)) ?_
  · first | (simp; done) | (simp; assumption)
  · (conv => whnf); (repeat' (first | exact trivial | rfl | (refine nilEq ?_; first | rfl | (simp only [*]; done) | (simp [*]; done) | grind) | apply And.intro | ((first | refine intEq ?_ | refine boolEq ?_ | refine strEq ?_ | refine psEq ?_ | refine nilEq ?_ | refine arrEq ?_); (try simp only [Int.toNat_natCast, etas, elDef]); first | done | omega | grind | (simp only [*]; done) | (simp [*]; done)))); (all_goals (conv => whnf)); (repeat' (first | exact trivial | rfl | (refine nilEq ?_; first | rfl | (simp only [*]; done) | (simp [*]; done) | grind) | apply And.intro | ((first | refine intEq ?_ | refine boolEq ?_ | refine strEq ?_ | refine psEq ?_ | refine nilEq ?_ | refine arrEq ?_); (try simp only [Int.toNat_natCast, etas, elDef]); first | done | omega | grind | (simp only [*]; done) | (simp [*]; done)) | ((try simp only [Int.toNat_natCast, etas, elDef]); first | done | omega | grind | (simp only [*]; done) | (simp [*]; done))))
  rintro i ⟨hi, hj⟩
  conv => whnf
  have hsum : sumN countM (n.kids.take i) ≤ i * 16807 := sumN_take_bound hi fun j h => hc _ (hj j h)
  have hmax : maxN depthM (n.kids.take i) ≤ 5 := maxN_take_bound hi fun j h => hd _ (hj j h)
  have hst := fun h => sumN_take (f := countM) (l := n.kids) (k := i) h
  have hmt := fun h => maxN_take (f := depthM) (l := n.kids) (k := i) h
  have hci := hc (n.kids.getD i default)
  have hdi := hd (n.kids.getD i default)
  repeat' first
    | (refine Cnd.mk (fun h => ?_) (fun h => ?_) <;> (try simp [etas, elDef, -List.getD_eq_getElem?_getD] at h) <;> conv => whnf)
    | (refine Obl.mk (by first | omega | rfl | exact inK_byte _ | (simp only [inK, Int.toNat_natCast, etas, elDef, m52, o52, m52] <;> first | omega | grind) | grind [inK, m52, o52, m52]) ?_ <;> conv => whnf)
    | (refine OblG.mk (by conv => whnf
                          repeat (first | (refine Bx.mk ?_) | (intro h; (try simp [etas, elDef, -List.getD_eq_getElem?_getD] at h); conv => whnf))
                          first | omega | rfl | exact inK_byte _ | (simp only [inK, Int.toNat_natCast, etas, elDef, m52, o52, m52] <;> first | omega | grind) | grind [inK, m52, o52, m52]) ?_ <;> conv => whnf)
    | (refine Gd.mk (fun h => ?_) <;> (try simp [etas, elDef, -List.getD_eq_getElem?_getD] at h) <;> conv => whnf)
    | (refine And.intro ?_ ?_ <;> conv => whnf)
    | exact True.intro
    | (intro; conv => whnf)
  · have hn : n.kids.all (shapeM ((6 - lvl).toNat - 1)) = false := allN_no (j := i) (by omega) (by rw [← h2]; assumption)
    have : shapeM (6 - lvl).toNat n = false := by grind
    exact leafV hK (by simp [this])
  · have h9 : shapeM ((6 - lvl).toNat - 1) (n.kids.getD i default) = true := by rw [← h2]; assumption
    refine ⟨i + 1, [], [], ⟨by omega, by grind⟩, by omega, ?_, (by exact sgOk_of (by rfl))⟩
    (conv => whnf); (repeat' (first | exact trivial | rfl | (refine nilEq ?_; first | rfl | (simp only [*]; done) | (simp [*]; done) | grind) | apply And.intro | ((first | refine intEq ?_ | refine boolEq ?_ | refine strEq ?_ | refine psEq ?_ | refine nilEq ?_ | refine arrEq ?_); (try simp only [Int.toNat_natCast, etas, elDef]); grind))); (all_goals (conv => whnf)); (repeat' (first | exact trivial | rfl | (refine nilEq ?_; first | rfl | (simp only [*]; done) | (simp [*]; done) | grind) | apply And.intro | ((first | refine intEq ?_ | refine boolEq ?_ | refine strEq ?_ | refine psEq ?_ | refine nilEq ?_ | refine arrEq ?_); (try simp only [Int.toNat_natCast, etas, elDef]); grind) | ((try simp only [Int.toNat_natCast, etas, elDef]); grind)))
  · have hn : n.kids.all (shapeM ((6 - lvl).toNat - 1)) = true := (allN_iff _ _).2 (by grind)
    have : shapeM (6 - lvl).toNat n = true := by grind
    have e : n.kids.take i = n.kids := List.take_of_length_le (by omega)
    exact leafV hK (by simp only [this, if_true, countM_eq, depthM_eq, e])
theorem r52 : ∀ k, (CtrOK Try.prog 52 (.pure (Fk52 k)) ∧ Callable Try.prog 52) := by
  intro k
  induction k with
  | zero =>
    exact ⟨⟨fun args o v h => by unfold Fk52 at h; split at h <;> cases h; first | trivial | (simp [v52, Scalar, Scalar2, Scalar1, stC, ndC, itC, chC, nwC]), fun args K h => by
        unfold pureC Fk52 at h; split at h
        · rename_i h1; split at h1 <;> cases h1; exact absurd (h.1 _ rfl).1 (Nat.not_lt_zero _)
        · exact h.elim⟩, callable Try.func52 rfl (by rfl)⟩
  | succ k ih =>
    refine pure_ok (E := E52 k) (mkE_cons ih (mkE_cons s64 (mkE_nil tab_ok))) mix (O := O52) (F := (Fk52 (k + 1))) Try.func52 rfl (by rfl) (by kernel_rfl) (fun args o v h => ?_) (fun args o v h => ?_) (fun args o v h hbd hp K hK => ?_)
    · unfold Fk52 at h; split at h <;> cases h; first | trivial | (simp [v52, Scalar, Scalar2, Scalar1, stC, ndC, itC, chC, nwC])
    · unfold Fk52 at h; split at h <;> cases h; exact Nat.le_of_ble_eq_true rfl
    · unfold Fk52 at h; split at h
      case h_2 => cases h
      cases h
      exact a52 k ⟨_, _, _, _, _⟩ _ (hp _ rfl).1 (by exact hbd) (hp _ rfl).2 K hK
theorem s52 : (CtrOK Try.prog 52 (.pure F52) ∧ Callable Try.prog 52) := by
  refine ⟨⟨fun args o v h => ?_, fun args K h => ?_⟩, (r52 0).2⟩
  · unfold F52 at h; split at h <;> cases h; first | trivial | (simp [v52, Scalar, Scalar2, Scalar1, stC, ndC, itC, chC, nwC])
  · unfold pureC F52 at h; split at h
    · rename_i h1; split at h1 <;> cases h1
      exact (r52 (m52 ⟨_, _, _, _, _⟩ _ + 1)).1.2 _ K ⟨fun p hp => by cases hp; exact ⟨Nat.lt_succ_self _, (h.1 _ rfl)⟩, h.2⟩
    · exact h.elim
noncomputable def v36 (b : Bs) : AV := .bool (nameM b)
noncomputable def o36 (b : Bs) : Prop := True
noncomputable def F36 : List AV → QR
  | [.str b] => some (none, v36 b)
  | _ => none
noncomputable def E36 : Ctx := mkE tab []
noncomputable def O36 : Nat → List DI := ordL []
theorem a36 (b : Bs) (hb : BdAs [.str b]) (ho : o36 b) (K : AV → List AV → Prop) (hK : K (v36 b) []) : abody E36 O36 .ps Try.f36 (Try.f36.body.getD .skip) [.str b] K := by
  simp only [BdAs, BdA, BdL, BdC, MX, ndC, shC, itC, stC, opC, chC, nwC, flC, rqC, rsC, enc, List.cons_append, List.nil_append, and_true, true_and] at hb
  unfold v36 at hK
  conv => whnf
  repeat' first
    | (refine Cnd.mk (fun h => ?_) (fun h => ?_) <;> (try simp [etas, elDef, -List.getD_eq_getElem?_getD] at h) <;> conv => whnf)
    | (refine Obl.mk (by first | omega | rfl | exact inK_byte _ | (simp only [inK, Int.toNat_natCast, etas, elDef] <;> first | omega | grind) | grind [inK]) ?_ <;> conv => whnf)
    | (refine OblG.mk (by conv => whnf
                          repeat (first | (refine Bx.mk ?_) | (intro h; (try simp [etas, elDef, -List.getD_eq_getElem?_getD] at h); conv => whnf))
                          first | omega | rfl | exact inK_byte _ | (simp only [inK, Int.toNat_natCast, etas, elDef] <;> first | omega | grind) | grind [inK]) ?_ <;> conv => whnf)
    | (refine Gd.mk (fun h => ?_) <;> (try simp [etas, elDef, -List.getD_eq_getElem?_getD] at h) <;> conv => whnf)
    | (refine And.intro ?_ ?_ <;> conv => whnf)
    | exact True.intro
    | (intro; conv => whnf)
  · exact leafB hK (by grind [nameM])
  refine aloop_intro Nat (fun k => k ≤ b.length ∧ ∀ j, j < k → nameCh (b.getD j 0) = true) (fun k => b.length - k) (fun k => [(3, .int .i64 k)]) (fun k => []) [] 0 [] [] ?_ ?_ (by exact sgOk_of (by rfl)) ?_
  · first | (simp; done) | (simp; assumption)
  · (conv => whnf); (repeat' (first | exact trivial | rfl | (refine nilEq ?_; first | rfl | (simp only [*]; done) | (simp [*]; done) | grind) | apply And.intro | ((first | refine intEq ?_ | refine boolEq ?_ | refine strEq ?_ | refine psEq ?_ | refine nilEq ?_ | refine arrEq ?_); (try simp only [Int.toNat_natCast, etas, elDef]); first | done | omega | grind | (simp only [*]; done) | (simp [*]; done)))); (all_goals (conv => whnf)); (repeat' (first | exact trivial | rfl | (refine nilEq ?_; first | rfl | (simp only [*]; done) | (simp [*]; done) | grind) | apply And.intro | ((first | refine intEq ?_ | refine boolEq ?_ | refine strEq ?_ | refine psEq ?_ | refine nilEq ?_ | refine arrEq ?_); (try simp only [Int.toNat_natCast, etas, elDef]); first | done | omega | grind | (simp only [*]; done) | (simp [*]; done)) | ((try simp only [Int.toNat_natCast, etas, elDef]); first | done | omega | grind | (simp only [*]; done) | (simp [*]; done))))
  rintro i ⟨hi, hj⟩
  conv => whnf
  repeat' first
    | (refine Cnd.mk (fun h => ?_) (fun h => ?_) <;> (try simp [etas, elDef, -List.getD_eq_getElem?_getD] at h) <;> conv => whnf)
    | (refine Obl.mk (by first | omega | rfl | exact inK_byte _ | (simp only [inK, Int.toNat_natCast, etas, elDef] <;> first | omega | grind) | grind [inK]) ?_ <;> conv => whnf)
    | (refine OblG.mk (by conv => whnf
                          repeat (first | (refine Bx.mk ?_) | (intro h; (try simp [etas, elDef, -List.getD_eq_getElem?_getD] at h); conv => whnf))
                          first | omega | rfl | exact inK_byte _ | (simp only [inK, Int.toNat_natCast, etas, elDef] <;> first | omega | grind) | grind [inK]) ?_ <;> conv => whnf)
    | (refine Gd.mk (fun h => ?_) <;> (try simp [etas, elDef, -List.getD_eq_getElem?_getD] at h) <;> conv => whnf)
    | (refine And.intro ?_ ?_ <;> conv => whnf)
    | exact True.intro
    | (intro; conv => whnf)
  · have : nameCh (b.getD i 0) = false := by grind [nameCh]
    exact leafB hK (by grind [nameM, all_no])
  · have : nameCh (b.getD i 0) = true := by grind [nameCh]
    exact ⟨i + 1, [], [], ⟨by omega, by grind⟩, by omega, by (conv => whnf); (repeat' (first | exact trivial | rfl | (refine nilEq ?_; first | rfl | (simp only [*]; done) | (simp [*]; done) | grind) | apply And.intro | ((first | refine intEq ?_ | refine boolEq ?_ | refine strEq ?_ | refine psEq ?_ | refine nilEq ?_ | refine arrEq ?_); (try simp only [Int.toNat_natCast, etas, elDef]); first | done | omega | grind | (simp only [*]; done) | (simp [*]; done)))); (all_goals (conv => whnf)); (repeat' (first | exact trivial | rfl | (refine nilEq ?_; first | rfl | (simp only [*]; done) | (simp [*]; done) | grind) | apply And.intro | ((first | refine intEq ?_ | refine boolEq ?_ | refine strEq ?_ | refine psEq ?_ | refine nilEq ?_ | refine arrEq ?_); (try simp only [Int.toNat_natCast, etas, elDef]); first | done | omega | grind | (simp only [*]; done) | (simp [*]; done)) | ((try simp only [Int.toNat_natCast, etas, elDef]); first | done | omega | grind | (simp only [*]; done) | (simp [*]; done)))), (by exact sgOk_of (by rfl))⟩
  · have : b.all nameCh = true := (all_iff b _).2 (by grind)
    exact leafB hK (by grind [nameM])
theorem s36 : (CtrOK Try.prog 36 (.pure F36) ∧ Callable Try.prog 36) := by
  refine pure_ok (E := E36) (mkE_nil tab_ok) mix (O := O36) (F := F36) Try.func36 rfl (by rfl) (by kernel_rfl) (fun args o v h => ?_) (fun args o v h => ?_) (fun args o v h hbd hp K hK => ?_)
  · unfold F36 at h; split at h <;> cases h; first | trivial | (simp [v36, Scalar, Scalar2, Scalar1, stC, ndC, itC, chC, nwC])
  · unfold F36 at h; split at h <;> cases h; exact Nat.le_of_ble_eq_true rfl
  · unfold F36 at h; split at h
    case h_2 => cases h
    cases h
    exact a36 _ (by exact hbd) trivial K hK
noncomputable def v60 (b : Bs) : AV := .bool (nameM b)
noncomputable def o60 (b : Bs) : Prop := True
noncomputable def F60 : List AV → QR
  | [.str b] => some (none, v60 b)
  | _ => none
noncomputable def E60 : Ctx := mkE tab [(18, .pure F18)]
noncomputable def O60 : Nat → List DI := ordL []
theorem a60 (b : Bs) (hb : BdAs [.str b]) (ho : o60 b) (K : AV → List AV → Prop) (hK : K (v60 b) []) : abody E60 O60 .ps Try.f60 (Try.f60.body.getD .skip) [.str b] K := by
  simp only [BdAs, BdA, BdL, BdC, MX, ndC, shC, itC, stC, opC, chC, nwC, flC, rqC, rsC, enc, List.cons_append, List.nil_append, and_true, true_and] at hb
  unfold v60 at hK
  conv => whnf
  refine aloop_intro Nat (fun k => k ≤ b.length ∧ ∀ j, j < k → nameCh (b.getD j 0) = true) (fun k => b.length - k) (fun k => [(3, .int .i64 k)]) (fun k => []) [] 0 [] [] ?_ ?_ (by exact sgOk_of (by rfl)) ?_
  · first | (simp; done) | (simp; assumption)
  · (conv => whnf); (repeat' (first | exact trivial | rfl | (refine nilEq ?_; first | rfl | (simp only [*]; done) | (simp [*]; done) | grind) | apply And.intro | ((first | refine intEq ?_ | refine boolEq ?_ | refine strEq ?_ | refine psEq ?_ | refine nilEq ?_ | refine arrEq ?_); (try simp only [Int.toNat_natCast, etas, elDef]); first | done | omega | grind | (simp only [*]; done) | (simp [*]; done)))); (all_goals (conv => whnf)); (repeat' (first | exact trivial | rfl | (refine nilEq ?_; first | rfl | (simp only [*]; done) | (simp [*]; done) | grind) | apply And.intro | ((first | refine intEq ?_ | refine boolEq ?_ | refine strEq ?_ | refine psEq ?_ | refine nilEq ?_ | refine arrEq ?_); (try simp only [Int.toNat_natCast, etas, elDef]); first | done | omega | grind | (simp only [*]; done) | (simp [*]; done)) | ((try simp only [Int.toNat_natCast, etas, elDef]); first | done | omega | grind | (simp only [*]; done) | (simp [*]; done))))
  rintro i ⟨hi, hj⟩
  conv => whnf
  repeat' first
    | (refine Cnd.mk (fun h => ?_) (fun h => ?_) <;> (try simp [etas, elDef, -List.getD_eq_getElem?_getD] at h) <;> conv => whnf)
    | (refine Obl.mk (by first | omega | rfl | exact inK_byte _ | (simp only [inK, Int.toNat_natCast, etas, elDef] <;> first | omega | grind) | grind [inK]) ?_ <;> conv => whnf)
    | (refine OblG.mk (by conv => whnf
                          repeat (first | (refine Bx.mk ?_) | (intro h; (try simp [etas, elDef, -List.getD_eq_getElem?_getD] at h); conv => whnf))
                          first | omega | rfl | exact inK_byte _ | (simp only [inK, Int.toNat_natCast, etas, elDef] <;> first | omega | grind) | grind [inK]) ?_ <;> conv => whnf)
    | (refine Gd.mk (fun h => ?_) <;> (try simp [etas, elDef, -List.getD_eq_getElem?_getD] at h) <;> conv => whnf)
    | (refine And.intro ?_ ?_ <;> conv => whnf)
    | exact True.intro
    | (intro; conv => whnf)
  · have : nameCh (b.getD i 0) = false := by grind [nameCh]
    exact leafB hK (by grind [nameM, all_no])
  · have : nameCh (b.getD i 0) = true := by grind [nameCh]
    exact ⟨i + 1, [], [], ⟨by omega, by grind⟩, by omega, by (conv => whnf); (repeat' (first | exact trivial | rfl | (refine nilEq ?_; first | rfl | (simp only [*]; done) | (simp [*]; done) | grind) | apply And.intro | ((first | refine intEq ?_ | refine boolEq ?_ | refine strEq ?_ | refine psEq ?_ | refine nilEq ?_ | refine arrEq ?_); (try simp only [Int.toNat_natCast, etas, elDef]); first | done | omega | grind | (simp only [*]; done) | (simp [*]; done)))); (all_goals (conv => whnf)); (repeat' (first | exact trivial | rfl | (refine nilEq ?_; first | rfl | (simp only [*]; done) | (simp [*]; done) | grind) | apply And.intro | ((first | refine intEq ?_ | refine boolEq ?_ | refine strEq ?_ | refine psEq ?_ | refine nilEq ?_ | refine arrEq ?_); (try simp only [Int.toNat_natCast, etas, elDef]); first | done | omega | grind | (simp only [*]; done) | (simp [*]; done)) | ((try simp only [Int.toNat_natCast, etas, elDef]); first | done | omega | grind | (simp only [*]; done) | (simp [*]; done)))), (by exact sgOk_of (by rfl))⟩
  · have : b.all nameCh = true := (all_iff b _).2 (by grind)
    exact leafB hK (by grind [nameM])
theorem s60 : (CtrOK Try.prog 60 (.pure F60) ∧ Callable Try.prog 60) := by
  refine pure_ok (E := E60) (mkE_cons s18 (mkE_nil tab_ok)) mix (O := O60) (F := F60) Try.func60 rfl (by rfl) (by kernel_rfl) (fun args o v h => ?_) (fun args o v h => ?_) (fun args o v h hbd hp K hK => ?_)
  · unfold F60 at h; split at h <;> cases h; first | trivial | (simp [v60, Scalar, Scalar2, Scalar1, stC, ndC, itC, chC, nwC])
  · unfold F60 at h; split at h <;> cases h; exact Nat.le_of_ble_eq_true rfl
  · unfold F60 at h; split at h
    case h_2 => cases h
    cases h
    exact a60 _ (by exact hbd) trivial K hK
noncomputable def v59 (s : Sto) : AV := .bool (storeM s)
noncomputable def o59 (s : Sto) : Prop := True
noncomputable def F59 : List AV → QR
  | [.st [.ps .item s_0, .int .i64 s_1]] => some (none, v59 ⟨s_0, s_1⟩)
  | _ => none
noncomputable def E59 : Ctx := mkE tab [(18, .pure F18), (60, .pure F60), (61, .pure F61)]
noncomputable def O59 : Nat → List DI := ordL [(5, [.q 0, .q 1, .q 2, .q 3, .q 4, .q 5, .q 6, .q 7, .q 8, .q 9, .q 10, .q 11, .q 12, .q 13, .q 14, .q 15, .q 16, .q 17, .q 18, .q 19, .q 20, .q 21, .q 22, .q 23, .q 24, .q 25, .q 26, .q 27, .q 28, .q 29, .q 30, .q 31, .q 32, .q 33])]
theorem a59 (s : Sto) (hb : BdAs [.st (stC s)]) (ho : o59 s) (K : AV → List AV → Prop) (hK : K (v59 s) []) : abody E59 O59 .ps Try.f59 (Try.f59.body.getD .skip) [.st (stC s)] K := by
  simp only [BdAs, BdA, BdL, BdC, MX, ndC, shC, itC, stC, opC, chC, nwC, flC, rqC, rsC, enc, List.cons_append, List.nil_append, and_true, true_and] at hb
  unfold v59 at hK
  conv => whnf
  refine aloop_intro Nat (fun k => k ≤ s.items.length ∧ ∀ j, j < k → itemOk s j = true) (fun k => s.items.length - k) (fun k => [(3, .int .i64 k)]) (fun k => []) [1] 0 [] [] ?_ ?_ (by exact sgOk_of (by rfl)) ?_
  · first | (simp; done) | (simp; assumption)
  · (conv => whnf); (repeat' (first | exact trivial | rfl | (refine nilEq ?_; first | rfl | (simp only [*]; done) | (simp [*]; done) | grind) | apply And.intro | ((first | refine intEq ?_ | refine boolEq ?_ | refine strEq ?_ | refine psEq ?_ | refine nilEq ?_ | refine arrEq ?_); (try simp only [Int.toNat_natCast, etas, elDef]); first | done | omega | grind | (simp only [*]; done) | (simp [*]; done)))); (all_goals (conv => whnf)); (repeat' (first | exact trivial | rfl | (refine nilEq ?_; first | rfl | (simp only [*]; done) | (simp [*]; done) | grind) | apply And.intro | ((first | refine intEq ?_ | refine boolEq ?_ | refine strEq ?_ | refine psEq ?_ | refine nilEq ?_ | refine arrEq ?_); (try simp only [Int.toNat_natCast, etas, elDef]); first | done | omega | grind | (simp only [*]; done) | (simp [*]; done)) | ((try simp only [Int.toNat_natCast, etas, elDef]); first | done | omega | grind | (simp only [*]; done) | (simp [*]; done))))
  rintro i ⟨hi, hj⟩
  conv => whnf
  repeat' first
    | (refine Cnd.mk (fun h => ?_) (fun h => ?_) <;> (try simp [etas, elDef, -List.getD_eq_getElem?_getD] at h) <;> conv => whnf)
    | (refine Obl.mk (by first | omega | rfl | exact inK_byte _ | (simp only [inK, Int.toNat_natCast, etas, elDef] <;> first | omega | grind) | grind [inK]) ?_ <;> conv => whnf)
    | (refine OblG.mk (by conv => whnf
                          repeat (first | (refine Bx.mk ?_) | (intro h; (try simp [etas, elDef, -List.getD_eq_getElem?_getD] at h); conv => whnf))
                          first | omega | rfl | exact inK_byte _ | (simp only [inK, Int.toNat_natCast, etas, elDef] <;> first | omega | grind) | grind [inK]) ?_ <;> conv => whnf)
    | (refine Gd.mk (fun h => ?_) <;> (try simp [etas, elDef, -List.getD_eq_getElem?_getD] at h) <;> conv => whnf)
    | (refine And.intro ?_ ?_ <;> conv => whnf)
    | exact True.intro
    | (intro; conv => whnf)
  · have : itemOk s i = false := by grind [itemOk]
    exact leafB hK (by grind [storeM, itemsM_no])
  · have : itemOk s i = true := by grind [itemOk]
    exact ⟨i + 1, [], [], ⟨by omega, by grind⟩, by omega, by (conv => whnf); (repeat' (first | exact trivial | rfl | (refine nilEq ?_; first | rfl | (simp only [*]; done) | (simp [*]; done) | grind) | apply And.intro | ((first | refine intEq ?_ | refine boolEq ?_ | refine strEq ?_ | refine psEq ?_ | refine nilEq ?_ | refine arrEq ?_); (try simp only [Int.toNat_natCast, etas, elDef]); first | done | omega | grind | (simp only [*]; done) | (simp [*]; done)))); (all_goals (conv => whnf)); (repeat' (first | exact trivial | rfl | (refine nilEq ?_; first | rfl | (simp only [*]; done) | (simp [*]; done) | grind) | apply And.intro | ((first | refine intEq ?_ | refine boolEq ?_ | refine strEq ?_ | refine psEq ?_ | refine nilEq ?_ | refine arrEq ?_); (try simp only [Int.toNat_natCast, etas, elDef]); first | done | omega | grind | (simp only [*]; done) | (simp [*]; done)) | ((try simp only [Int.toNat_natCast, etas, elDef]); first | done | omega | grind | (simp only [*]; done) | (simp [*]; done)))), (by exact sgOk_of (by rfl))⟩
  · have : itemsM s = true := (itemsM_iff s).2 (by grind)
    exact leafB hK (by grind [storeM])
theorem s59 : (CtrOK Try.prog 59 (.pure F59) ∧ Callable Try.prog 59) := by
  refine pure_ok (E := E59) (mkE_cons s18 (mkE_cons s60 (mkE_cons s61 (mkE_nil tab_ok)))) mix (O := O59) (F := F59) Try.func59 rfl (by rfl) (by kernel_rfl) (fun args o v h => ?_) (fun args o v h => ?_) (fun args o v h hbd hp K hK => ?_)
  · unfold F59 at h; split at h <;> cases h; first | trivial | (simp [v59, Scalar, Scalar2, Scalar1, stC, ndC, itC, chC, nwC])
  · unfold F59 at h; split at h <;> cases h; exact Nat.le_of_ble_eq_true rfl
  · unfold F59 at h; split at h
    case h_2 => cases h
    cases h
    exact a59 ⟨_, _⟩ (by exact hbd) trivial K hK
noncomputable def v37 (n : Nd) : AV := .bool (validM n)
noncomputable def o37 (n : Nd) : Prop := True
noncomputable def F37 : List AV → QR
  | [.st [.int .i64 n_0, .int .i64 n_1, .str n_2, .ps .str n_3, .ps .node n_4]] => some (none, v37 ⟨n_0, n_1, n_2, n_3, n_4⟩)
  | _ => none
noncomputable def E37 : Ctx := mkE tab [(52, .pure F52)]
noncomputable def O37 : Nat → List DI := ordL []
theorem a37 (n : Nd) (hb : BdAs [.st (ndC n)]) (ho : o37 n) (K : AV → List AV → Prop) (hK : K (v37 n) []) : abody E37 O37 .ps Try.f37 (Try.f37.body.getD .skip) [.st (ndC n)] K := by
  simp only [BdAs, BdA, BdL, BdC, MX, ndC, shC, itC, stC, opC, chC, nwC, flC, rqC, rsC, enc, List.cons_append, List.nil_append, and_true, true_and] at hb
  unfold v37 at hK
  conv => whnf
  repeat' first
    | (refine Cnd.mk (fun h => ?_) (fun h => ?_) <;> (try simp [etas, elDef, -List.getD_eq_getElem?_getD] at h) <;> conv => whnf)
    | (refine Obl.mk (by first | omega | rfl | exact inK_byte _ | (simp only [inK, Int.toNat_natCast, etas, elDef, o52, m52] <;> first | omega | grind) | grind [inK, o52, m52]) ?_ <;> conv => whnf)
    | (refine OblG.mk (by conv => whnf
                          repeat (first | (refine Bx.mk ?_) | (intro h; (try simp [etas, elDef, -List.getD_eq_getElem?_getD] at h); conv => whnf))
                          first | omega | rfl | exact inK_byte _ | (simp only [inK, Int.toNat_natCast, etas, elDef, o52, m52] <;> first | omega | grind) | grind [inK, o52, m52]) ?_ <;> conv => whnf)
    | (refine Gd.mk (fun h => ?_) <;> (try simp [etas, elDef, -List.getD_eq_getElem?_getD] at h) <;> conv => whnf)
    | (refine And.intro ?_ ?_ <;> conv => whnf)
    | exact True.intro
    | (intro; conv => whnf)
  exact leafB hK (by simp only [validM, nd_eta]; grind)
theorem s37 : (CtrOK Try.prog 37 (.pure F37) ∧ Callable Try.prog 37) := by
  refine pure_ok (E := E37) (mkE_cons s52 (mkE_nil tab_ok)) mix (O := O37) (F := F37) Try.func37 rfl (by rfl) (by kernel_rfl) (fun args o v h => ?_) (fun args o v h => ?_) (fun args o v h hbd hp K hK => ?_)
  · unfold F37 at h; split at h <;> cases h; first | trivial | (simp [v37, Scalar, Scalar2, Scalar1, stC, ndC, itC, chC, nwC])
  · unfold F37 at h; split at h <;> cases h; exact Nat.le_of_ble_eq_true rfl
  · unfold F37 at h; split at h
    case h_2 => cases h
    cases h
    exact a37 ⟨_, _, _, _, _⟩ (by exact hbd) trivial K hK
noncomputable def v24 (s : Sto) : AV := .bool (storeM s)
noncomputable def o24 (s : Sto) : Prop := True
noncomputable def F24 : List AV → QR
  | [.st [.ps .item s_0, .int .i64 s_1]] => some (none, v24 ⟨s_0, s_1⟩)
  | _ => none
noncomputable def E24 : Ctx := mkE tab [(36, .pure F36), (37, .pure F37)]
noncomputable def O24 : Nat → List DI := ordL [(6, [.q 0, .q 1, .q 2, .q 3, .q 4, .q 5, .q 6, .q 7, .q 8, .q 9, .q 10, .q 11, .q 12, .q 13, .q 14, .q 15, .q 16, .q 17, .q 18, .q 19])]
theorem a24 (s : Sto) (hb : BdAs [.st (stC s)]) (ho : o24 s) (K : AV → List AV → Prop) (hK : K (v24 s) []) : abody E24 O24 .ps Try.f24 (Try.f24.body.getD .skip) [.st (stC s)] K := by
  simp only [BdAs, BdA, BdL, BdC, MX, ndC, shC, itC, stC, opC, chC, nwC, flC, rqC, rsC, enc, List.cons_append, List.nil_append, and_true, true_and] at hb
  unfold v24 at hK
  conv => whnf
  repeat' first
    | (refine Cnd.mk (fun h => ?_) (fun h => ?_) <;> (try simp [etas, elDef, -List.getD_eq_getElem?_getD] at h) <;> conv => whnf)
    | (refine Obl.mk (by first | omega | rfl | exact inK_byte _ | (simp only [inK, Int.toNat_natCast, etas, elDef] <;> first | omega | grind) | grind [inK]) ?_ <;> conv => whnf)
    | (refine OblG.mk (by conv => whnf
                          repeat (first | (refine Bx.mk ?_) | (intro h; (try simp [etas, elDef, -List.getD_eq_getElem?_getD] at h); conv => whnf))
                          first | omega | rfl | exact inK_byte _ | (simp only [inK, Int.toNat_natCast, etas, elDef] <;> first | omega | grind) | grind [inK]) ?_ <;> conv => whnf)
    | (refine Gd.mk (fun h => ?_) <;> (try simp [etas, elDef, -List.getD_eq_getElem?_getD] at h) <;> conv => whnf)
    | (refine And.intro ?_ ?_ <;> conv => whnf)
    | exact True.intro
    | (intro; conv => whnf)
  · exact leafB hK (by grind [storeM])
  refine aloop_intro Nat (fun k => k ≤ s.items.length ∧ ∀ j, j < k → itemOk s j = true) (fun k => s.items.length - k) (fun k => [(22, .int .i64 k)]) (fun k => []) [1] 0 [] [] ?_ ?_ (by exact sgOk_of (by rfl)) ?_
  · first | (simp; done) | (simp; assumption)
  · (conv => whnf); (repeat' (first | exact trivial | rfl | (refine nilEq ?_; first | rfl | (simp only [*]; done) | (simp [*]; done) | grind) | apply And.intro | ((first | refine intEq ?_ | refine boolEq ?_ | refine strEq ?_ | refine psEq ?_ | refine nilEq ?_ | refine arrEq ?_); (try simp only [Int.toNat_natCast, etas, elDef]); first | done | omega | grind | (simp only [*]; done) | (simp [*]; done)))); (all_goals (conv => whnf)); (repeat' (first | exact trivial | rfl | (refine nilEq ?_; first | rfl | (simp only [*]; done) | (simp [*]; done) | grind) | apply And.intro | ((first | refine intEq ?_ | refine boolEq ?_ | refine strEq ?_ | refine psEq ?_ | refine nilEq ?_ | refine arrEq ?_); (try simp only [Int.toNat_natCast, etas, elDef]); first | done | omega | grind | (simp only [*]; done) | (simp [*]; done)) | ((try simp only [Int.toNat_natCast, etas, elDef]); first | done | omega | grind | (simp only [*]; done) | (simp [*]; done))))
  rintro i ⟨hi, hj⟩
  conv => whnf
  repeat' first
    | (refine Cnd.mk (fun h => ?_) (fun h => ?_) <;> (try simp [etas, elDef, -List.getD_eq_getElem?_getD] at h) <;> conv => whnf)
    | (refine Obl.mk (by first | omega | rfl | exact inK_byte _ | (simp only [inK, Int.toNat_natCast, etas, elDef] <;> first | omega | grind) | grind [inK]) ?_ <;> conv => whnf)
    | (refine OblG.mk (by conv => whnf
                          repeat (first | (refine Bx.mk ?_) | (intro h; (try simp [etas, elDef, -List.getD_eq_getElem?_getD] at h); conv => whnf))
                          first | omega | rfl | exact inK_byte _ | (simp only [inK, Int.toNat_natCast, etas, elDef] <;> first | omega | grind) | grind [inK]) ?_ <;> conv => whnf)
    | (refine Gd.mk (fun h => ?_) <;> (try simp [etas, elDef, -List.getD_eq_getElem?_getD] at h) <;> conv => whnf)
    | (refine And.intro ?_ ?_ <;> conv => whnf)
    | exact True.intro
    | (intro; conv => whnf)
  · have : itemOk s i = false := by grind [itemOk]
    exact leafB hK (by grind [storeM, itemsM_no])
  · have : itemOk s i = false := by grind [itemOk]
    exact leafB hK (by grind [storeM, itemsM_no])
  · have : itemOk s i = true := by grind [itemOk]
    exact ⟨i + 1, [], [], ⟨by omega, by grind⟩, by omega, by (conv => whnf); (repeat' (first | exact trivial | rfl | (refine nilEq ?_; first | rfl | (simp only [*]; done) | (simp [*]; done) | grind) | apply And.intro | ((first | refine intEq ?_ | refine boolEq ?_ | refine strEq ?_ | refine psEq ?_ | refine nilEq ?_ | refine arrEq ?_); (try simp only [Int.toNat_natCast, etas, elDef]); first | done | omega | grind | (simp only [*]; done) | (simp [*]; done)))); (all_goals (conv => whnf)); (repeat' (first | exact trivial | rfl | (refine nilEq ?_; first | rfl | (simp only [*]; done) | (simp [*]; done) | grind) | apply And.intro | ((first | refine intEq ?_ | refine boolEq ?_ | refine strEq ?_ | refine psEq ?_ | refine nilEq ?_ | refine arrEq ?_); (try simp only [Int.toNat_natCast, etas, elDef]); first | done | omega | grind | (simp only [*]; done) | (simp [*]; done)) | ((try simp only [Int.toNat_natCast, etas, elDef]); first | done | omega | grind | (simp only [*]; done) | (simp [*]; done)))), (by exact sgOk_of (by rfl))⟩
  · have : itemsM s = true := (itemsM_iff s).2 (by grind)
    exact leafB hK (by grind [storeM])
theorem s24 : (CtrOK Try.prog 24 (.pure F24) ∧ Callable Try.prog 24) := by
  refine pure_ok (E := E24) (mkE_cons s36 (mkE_cons s37 (mkE_nil tab_ok))) mix (O := O24) (F := F24) Try.func24 rfl (by rfl) (by kernel_rfl) (fun args o v h => ?_) (fun args o v h => ?_) (fun args o v h hbd hp K hK => ?_)
  · unfold F24 at h; split at h <;> cases h; first | trivial | (simp [v24, Scalar, Scalar2, Scalar1, stC, ndC, itC, chC, nwC])
  · unfold F24 at h; split at h <;> cases h; exact Nat.le_of_ble_eq_true rfl
  · unfold F24 at h; split at h
    case h_2 => cases h
    cases h
    exact a24 ⟨_, _⟩ (by exact hbd) trivial K hK
noncomputable def v47 (c : Chg) : AV := .bool (changeM c)
noncomputable def o47 (c : Chg) : Prop := True
noncomputable def F47 : List AV → QR
  | [.st [.str c_0, .bool c_1, .int .i64 c_2_0, .int .i64 c_2_1, .str c_2_2, .ps .str c_2_3, .ps .node c_2_4]] => some (none, v47 ⟨c_0, c_1, ⟨c_2_0, c_2_1, c_2_2, c_2_3, c_2_4⟩⟩)
  | _ => none
noncomputable def E47 : Ctx := mkE tab [(60, .pure F60), (61, .pure F61)]
noncomputable def O47 : Nat → List DI := ordL []
theorem a47 (c : Chg) (hb : BdAs [.st (chC c)]) (ho : o47 c) (K : AV → List AV → Prop) (hK : K (v47 c) []) : abody E47 O47 .ps Try.f47 (Try.f47.body.getD .skip) [.st (chC c)] K := by
  simp only [BdAs, BdA, BdL, BdC, MX, ndC, shC, itC, stC, opC, chC, nwC, flC, rqC, rsC, enc, List.cons_append, List.nil_append, and_true, true_and] at hb
  unfold v47 at hK
  conv => whnf
  repeat' first
    | (refine Cnd.mk (fun h => ?_) (fun h => ?_) <;> (try simp [etas, elDef, -List.getD_eq_getElem?_getD] at h) <;> conv => whnf)
    | (refine Obl.mk (by first | omega | rfl | exact inK_byte _ | (simp only [inK, Int.toNat_natCast, etas, elDef] <;> first | omega | grind) | grind [inK]) ?_ <;> conv => whnf)
    | (refine OblG.mk (by conv => whnf
                          repeat (first | (refine Bx.mk ?_) | (intro h; (try simp [etas, elDef, -List.getD_eq_getElem?_getD] at h); conv => whnf))
                          first | omega | rfl | exact inK_byte _ | (simp only [inK, Int.toNat_natCast, etas, elDef] <;> first | omega | grind) | grind [inK]) ?_ <;> conv => whnf)
    | (refine Gd.mk (fun h => ?_) <;> (try simp [etas, elDef, -List.getD_eq_getElem?_getD] at h) <;> conv => whnf)
    | (refine And.intro ?_ ?_ <;> conv => whnf)
    | exact True.intro
    | (intro; conv => whnf)
  all_goals exact leafB hK (by simp only [changeM, nd_eta])
theorem s47 : (CtrOK Try.prog 47 (.pure F47) ∧ Callable Try.prog 47) := by
  refine pure_ok (E := E47) (mkE_cons s60 (mkE_cons s61 (mkE_nil tab_ok))) mix (O := O47) (F := F47) Try.func47 rfl (by rfl) (by kernel_rfl) (fun args o v h => ?_) (fun args o v h => ?_) (fun args o v h hbd hp K hK => ?_)
  · unfold F47 at h; split at h <;> cases h; first | trivial | (simp [v47, Scalar, Scalar2, Scalar1, stC, ndC, itC, chC, nwC])
  · unfold F47 at h; split at h <;> cases h; exact Nat.le_of_ble_eq_true rfl
  · unfold F47 at h; split at h
    case h_2 => cases h
    cases h
    exact a47 ⟨_, _, ⟨_, _, _, _, _⟩⟩ (by exact hbd) trivial K hK
noncomputable def v49 (c : Chg) : AV := .bool (changeM c)
noncomputable def o49 (c : Chg) : Prop := True
noncomputable def F49 : List AV → QR
  | [.st [.str c_0, .bool c_1, .int .i64 c_2_0, .int .i64 c_2_1, .str c_2_2, .ps .str c_2_3, .ps .node c_2_4]] => some (none, v49 ⟨c_0, c_1, ⟨c_2_0, c_2_1, c_2_2, c_2_3, c_2_4⟩⟩)
  | _ => none
noncomputable def E49 : Ctx := mkE tab [(36, .pure F36), (37, .pure F37)]
noncomputable def O49 : Nat → List DI := ordL []
theorem a49 (c : Chg) (hb : BdAs [.st (chC c)]) (ho : o49 c) (K : AV → List AV → Prop) (hK : K (v49 c) []) : abody E49 O49 .ps Try.f49 (Try.f49.body.getD .skip) [.st (chC c)] K := by
  simp only [BdAs, BdA, BdL, BdC, MX, ndC, shC, itC, stC, opC, chC, nwC, flC, rqC, rsC, enc, List.cons_append, List.nil_append, and_true, true_and] at hb
  unfold v49 at hK
  conv => whnf
  repeat' first
    | (refine Cnd.mk (fun h => ?_) (fun h => ?_) <;> (try simp [etas, elDef, -List.getD_eq_getElem?_getD] at h) <;> conv => whnf)
    | (refine Obl.mk (by first | omega | rfl | exact inK_byte _ | (simp only [inK, Int.toNat_natCast, etas, elDef] <;> first | omega | grind) | grind [inK]) ?_ <;> conv => whnf)
    | (refine OblG.mk (by conv => whnf
                          repeat (first | (refine Bx.mk ?_) | (intro h; (try simp [etas, elDef, -List.getD_eq_getElem?_getD] at h); conv => whnf))
                          first | omega | rfl | exact inK_byte _ | (simp only [inK, Int.toNat_natCast, etas, elDef] <;> first | omega | grind) | grind [inK]) ?_ <;> conv => whnf)
    | (refine Gd.mk (fun h => ?_) <;> (try simp [etas, elDef, -List.getD_eq_getElem?_getD] at h) <;> conv => whnf)
    | (refine And.intro ?_ ?_ <;> conv => whnf)
    | exact True.intro
    | (intro; conv => whnf)
  all_goals exact leafB hK (by simp only [changeM, nd_eta])
theorem s49 : (CtrOK Try.prog 49 (.pure F49) ∧ Callable Try.prog 49) := by
  refine pure_ok (E := E49) (mkE_cons s36 (mkE_cons s37 (mkE_nil tab_ok))) mix (O := O49) (F := F49) Try.func49 rfl (by rfl) (by kernel_rfl) (fun args o v h => ?_) (fun args o v h => ?_) (fun args o v h hbd hp K hK => ?_)
  · unfold F49 at h; split at h <;> cases h; first | trivial | (simp [v49, Scalar, Scalar2, Scalar1, stC, ndC, itC, chC, nwC])
  · unfold F49 at h; split at h <;> cases h; exact Nat.le_of_ble_eq_true rfl
  · unfold F49 at h; split at h
    case h_2 => cases h
    cases h
    exact a49 ⟨_, _, ⟨_, _, _, _, _⟩⟩ (by exact hbd) trivial K hK
end Go.Rs

