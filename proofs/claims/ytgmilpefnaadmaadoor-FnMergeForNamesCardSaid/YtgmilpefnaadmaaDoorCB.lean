import Derived.Test.YtgmilpefnaadmaaDoorCA
import Derived.Test.YtgmilpefnaadmaaDoorMA
set_option linter.all false
namespace Go.Rs
open Go.Proofs
set_option maxRecDepth 100000
set_option linter.unusedVariables false
set_option linter.unusedSimpArgs false
noncomputable def v59 (n : Nd) : AV := .int .i64 (countM n)
noncomputable def o59 (n : Nd) : Prop := okN n
noncomputable def m59 (n : Nd) : Nat := SizeOf.sizeOf n
noncomputable def F59 : List AV → QR
  | [.st [.int .i64 n_0, .int .i64 n_1, .str n_2, .ps .str n_3, .ps .node n_4]] => some (some (o59 ⟨n_0, n_1, n_2, n_3, n_4⟩), v59 ⟨n_0, n_1, n_2, n_3, n_4⟩)
  | _ => none
noncomputable def Fk59 (k : Nat) : List AV → QR
  | [.st [.int .i64 n_0, .int .i64 n_1, .str n_2, .ps .str n_3, .ps .node n_4]] => some (some (m59 ⟨n_0, n_1, n_2, n_3, n_4⟩ < k ∧ o59 ⟨n_0, n_1, n_2, n_3, n_4⟩), v59 ⟨n_0, n_1, n_2, n_3, n_4⟩)
  | _ => none
noncomputable def E59 (k : Nat) : Ctx := mkE tab [(59, .pure (Fk59 k))]
noncomputable def O59 : Nat → List DI := ordL []
theorem a59 (k : Nat) (n : Nd) (hm : m59 n < k + 1) (hb : BdAs [.st (ndC n)]) (ho : o59 n) (K : AV → List AV → Prop) (hK : K (v59 n) []) : abody (E59 k) O59 .ps Tryd.f59 (Tryd.f59.body.getD .skip) [.st (ndC n)] K := by
  simp only [BdAs, BdA, BdL, BdC, MX, ndC, shC, itC, stC, opC, chC, nwC, flC, rqC, rsC, enc, List.cons_append, List.nil_append, and_true, true_and] at hb
  unfold o59 at ho
  unfold v59 at hK
  unfold m59 at hm
  have hc := okN_count ho
  have hle : ∀ k, sumN countM (n.kids.take k) ≤ sumN countM n.kids := fun k => sumN_take_le
  have hkid : ∀ j, j < n.kids.length → SizeOf.sizeOf (n.kids.getD j default) < k ∧ okN (n.kids.getD j default) := fun j hj => ⟨by have := kid_size hj; omega, okN_kid ho hj⟩
  rw [countM_eq] at hK hc
  conv => whnf
  refine aloop_intro Nat (fun k => k ≤ n.kids.length) (fun k => n.kids.length - k) (fun k => [(3, .int .i64 (1 + sumN countM (n.kids.take k) : Nat)), (4, .int .i64 k)]) (fun _ => []) [1] 0 [] [] (by simp) ?_ (by exact sgOk_of (by rfl)) ?_
  · (conv => whnf); (repeat' (first | exact trivial | rfl | (refine nilEq ?_; first | rfl | (simp only [*]; done) | (simp [*]; done) | grind) | apply And.intro | ((first | refine intEq ?_ | refine boolEq ?_ | refine strEq ?_ | refine psEq ?_ | refine nilEq ?_ | refine arrEq ?_); (try simp only [Int.toNat_natCast, etas, elDef]); first | done | omega | grind | (simp only [*]; done) | (simp [*]; done)))); (all_goals (conv => whnf)); (repeat' (first | exact trivial | rfl | (refine nilEq ?_; first | rfl | (simp only [*]; done) | (simp [*]; done) | grind) | apply And.intro | ((first | refine intEq ?_ | refine boolEq ?_ | refine strEq ?_ | refine psEq ?_ | refine nilEq ?_ | refine arrEq ?_); (try simp only [Int.toNat_natCast, etas, elDef]); first | done | omega | grind | (simp only [*]; done) | (simp [*]; done)) | ((try simp only [Int.toNat_natCast, etas, elDef]); first | done | omega | grind | (simp only [*]; done) | (simp [*]; done))))
  rintro i hi
  have hli := hle i
  have hli1 := hle (i + 1)
  have hst := fun h => sumN_take (f := countM) (l := n.kids) (k := i) h
  conv => whnf
  repeat' first
    | (refine Cnd.mk (fun h => ?_) (fun h => ?_) <;> (try simp [etas, elDef, -List.getD_eq_getElem?_getD] at h) <;> conv => whnf)
    | (refine Obl.mk (by first | omega | rfl | exact inK_byte _ | (simp only [inK, Int.toNat_natCast, etas, elDef, m59, o59, m59] <;> first | omega | grind) | grind [inK, m59, o59, m59]) ?_ <;> conv => whnf)
    | (refine OblG.mk (by conv => whnf
                          repeat (first | (refine Bx.mk ?_) | (intro h; (try simp [etas, elDef, -List.getD_eq_getElem?_getD] at h); conv => whnf))
                          first | omega | rfl | exact inK_byte _ | (simp only [inK, Int.toNat_natCast, etas, elDef, m59, o59, m59] <;> first | omega | grind) | grind [inK, m59, o59, m59]) ?_ <;> conv => whnf)
    | (refine Gd.mk (fun h => ?_) <;> (try simp [etas, elDef, -List.getD_eq_getElem?_getD] at h) <;> conv => whnf)
    | (refine And.intro ?_ ?_ <;> conv => whnf)
    | exact True.intro
    | (intro; conv => whnf)
  · exact ⟨i + 1, [], [], by omega, by omega, by (conv => whnf); (repeat' (first | exact trivial | rfl | (refine nilEq ?_; first | rfl | (simp only [*]; done) | (simp [*]; done) | grind) | apply And.intro | ((first | refine intEq ?_ | refine boolEq ?_ | refine strEq ?_ | refine psEq ?_ | refine nilEq ?_ | refine arrEq ?_); (try simp only [Int.toNat_natCast, etas, elDef]); first | done | omega | grind | (simp only [*]; done) | (simp [*]; done)))); (all_goals (conv => whnf)); (repeat' (first | exact trivial | rfl | (refine nilEq ?_; first | rfl | (simp only [*]; done) | (simp [*]; done) | grind) | apply And.intro | ((first | refine intEq ?_ | refine boolEq ?_ | refine strEq ?_ | refine psEq ?_ | refine nilEq ?_ | refine arrEq ?_); (try simp only [Int.toNat_natCast, etas, elDef]); first | done | omega | grind | (simp only [*]; done) | (simp [*]; done)) | ((try simp only [Int.toNat_natCast, etas, elDef]); first | done | omega | grind | (simp only [*]; done) | (simp [*]; done)))), (by exact sgOk_of (by rfl))⟩
  · refine leafI hK ?_
    rw [List.take_of_length_le (by omega)]
theorem r59 : ∀ k, (CtrOK Tryd.prog 59 (.pure (Fk59 k)) ∧ Callable Tryd.prog 59) := by
  intro k
  induction k with
  | zero =>
    exact ⟨⟨fun args o v h => by unfold Fk59 at h; split at h <;> cases h; first | trivial | (simp [v59, Scalar, Scalar2, Scalar1, stC, ndC, itC, chC, nwC]), fun args K h => by
        unfold pureC Fk59 at h; split at h
        · rename_i h1; split at h1 <;> cases h1; exact absurd (h.1 _ rfl).1 (Nat.not_lt_zero _)
        · exact h.elim⟩, callable Tryd.func59 rfl (by rfl)⟩
  | succ k ih =>
    refine pure_ok (E := E59 k) (mkE_cons ih (mkE_nil tab_ok)) mix (O := O59) (F := (Fk59 (k + 1))) Tryd.func59 rfl (by rfl) (by kernel_rfl) (fun args o v h => ?_) (fun args o v h => ?_) (fun args o v h hbd hp K hK => ?_)
    · unfold Fk59 at h; split at h <;> cases h; first | trivial | (simp [v59, Scalar, Scalar2, Scalar1, stC, ndC, itC, chC, nwC])
    · unfold Fk59 at h; split at h <;> cases h; exact Nat.le_of_ble_eq_true rfl
    · unfold Fk59 at h; split at h
      case h_2 => cases h
      cases h
      exact a59 k ⟨_, _, _, _, _⟩ (hp _ rfl).1 (by exact hbd) (hp _ rfl).2 K hK
theorem s59 : (CtrOK Tryd.prog 59 (.pure F59) ∧ Callable Tryd.prog 59) := by
  refine ⟨⟨fun args o v h => ?_, fun args K h => ?_⟩, (r59 0).2⟩
  · unfold F59 at h; split at h <;> cases h; first | trivial | (simp [v59, Scalar, Scalar2, Scalar1, stC, ndC, itC, chC, nwC])
  · unfold pureC F59 at h; split at h
    · rename_i h1; split at h1 <;> cases h1
      exact (r59 (m59 ⟨_, _, _, _, _⟩ + 1)).1.2 _ K ⟨fun p hp => by cases hp; exact ⟨Nat.lt_succ_self _, (h.1 _ rfl)⟩, h.2⟩
    · exact h.elim
noncomputable def v31 (n : Nd) : AV := .bool (validM n)
noncomputable def o31 (n : Nd) : Prop := True
noncomputable def F31 : List AV → QR
  | [.st [.int .i64 n_0, .int .i64 n_1, .str n_2, .ps .str n_3, .ps .node n_4]] => some (none, v31 ⟨n_0, n_1, n_2, n_3, n_4⟩)
  | _ => none
noncomputable def E31 : Ctx := mkE tab [(58, .pure F58), (59, .pure F59)]
noncomputable def O31 : Nat → List DI := ordL []
theorem a31 (n : Nd) (hb : BdAs [.st (ndC n)]) (ho : o31 n) (K : AV → List AV → Prop) (hK : K (v31 n) []) : abody E31 O31 .ps Tryd.f31 (Tryd.f31.body.getD .skip) [.st (ndC n)] K := by
  simp only [BdAs, BdA, BdL, BdC, MX, ndC, shC, itC, stC, opC, chC, nwC, flC, rqC, rsC, enc, List.cons_append, List.nil_append, and_true, true_and] at hb
  unfold v31 at hK
  have h5 : shapeM 5 n = true → okN n := fun h => ⟨5, by omega, h⟩
  conv => whnf
  repeat' first
    | (refine Cnd.mk (fun h => ?_) (fun h => ?_) <;> (try simp [etas, elDef, -List.getD_eq_getElem?_getD] at h) <;> conv => whnf)
    | (refine Obl.mk (by first | omega | rfl | exact inK_byte _ | (simp only [inK, Int.toNat_natCast, etas, elDef, o58, m58, o59, m59] <;> first | omega | grind) | grind [inK, o58, m58, o59, m59]) ?_ <;> conv => whnf)
    | (refine OblG.mk (by conv => whnf
                          repeat (first | (refine Bx.mk ?_) | (intro h; (try simp [etas, elDef, -List.getD_eq_getElem?_getD] at h); conv => whnf))
                          first | omega | rfl | exact inK_byte _ | (simp only [inK, Int.toNat_natCast, etas, elDef, o58, m58, o59, m59] <;> first | omega | grind) | grind [inK, o58, m58, o59, m59]) ?_ <;> conv => whnf)
    | (refine Gd.mk (fun h => ?_) <;> (try simp [etas, elDef, -List.getD_eq_getElem?_getD] at h) <;> conv => whnf)
    | (refine And.intro ?_ ?_ <;> conv => whnf)
    | exact True.intro
    | (intro; conv => whnf)
  exact leafB hK (by simp only [validM, nd_eta]; grind)
theorem s31 : (CtrOK Tryd.prog 31 (.pure F31) ∧ Callable Tryd.prog 31) := by
  refine pure_ok (E := E31) (mkE_cons s58 (mkE_cons s59 (mkE_nil tab_ok))) mix (O := O31) (F := F31) Tryd.func31 rfl (by rfl) (by kernel_rfl) (fun args o v h => ?_) (fun args o v h => ?_) (fun args o v h hbd hp K hK => ?_)
  · unfold F31 at h; split at h <;> cases h; first | trivial | (simp [v31, Scalar, Scalar2, Scalar1, stC, ndC, itC, chC, nwC])
  · unfold F31 at h; split at h <;> cases h; exact Nat.le_of_ble_eq_true rfl
  · unfold F31 at h; split at h
    case h_2 => cases h
    cases h
    exact a31 ⟨_, _, _, _, _⟩ (by exact hbd) trivial K hK
noncomputable def v35 (a : List Bs) (b : List Bs) : AV := .bool (eqD a b)
noncomputable def o35 (a : List Bs) (b : List Bs) : Prop := True
noncomputable def F35 : List AV → QR
  | [.ps .str a, .ps .str b] => some (none, v35 a b)
  | _ => none
noncomputable def E35 : Ctx := mkE tab []
noncomputable def O35 : Nat → List DI := ordL [(6, [.q 0, .q 1, .q 2, .q 3, .q 4, .q 5, .q 6, .q 7, .q 8])]
theorem a35 (a : List Bs) (b : List Bs) (hb : BdAs [.ps .str a, .ps .str b]) (ho : o35 a b) (K : AV → List AV → Prop) (hK : K (v35 a b) []) : abody E35 O35 .ps Tryd.f35 (Tryd.f35.body.getD .skip) [.ps .str a, .ps .str b] K := by
  simp only [BdAs, BdA, BdL, BdC, MX, ndC, shC, itC, stC, opC, chC, nwC, flC, rqC, rsC, enc, List.cons_append, List.nil_append, and_true, true_and] at hb
  unfold v35 at hK
  conv => whnf
  repeat' first
    | (refine Cnd.mk (fun h => ?_) (fun h => ?_) <;> (try simp [etas, elDef, -List.getD_eq_getElem?_getD] at h) <;> conv => whnf)
    | (refine Obl.mk (by first | omega | rfl | exact inK_byte _ | (simp only [inK, Int.toNat_natCast, etas, elDef] <;> first | omega | grind) | grind [inK]) ?_ <;> conv => whnf)
    | (refine OblG.mk (by conv => whnf
                          repeat (first | (refine Bx.mk ?_) | (intro h; (try simp [etas, elDef, -List.getD_eq_getElem?_getD] at h); conv => whnf))
                          first | omega | rfl | exact inK_byte _ | (simp only [inK, Int.toNat_natCast, etas, elDef] <;> first | omega | grind) | grind [inK]) ?_ <;> conv => whnf)
    | (refine Gd.mk (fun h => ?_) <;> (try simp [etas, elDef, -List.getD_eq_getElem?_getD] at h) <;> conv => whnf)
    | (refine And.intro ?_ ?_ <;> conv => whnf)
    | exact True.intro
    | (intro; conv => whnf)
  · exact leafB hK (eqD_no.2 (by grind))
  refine aloop_intro Nat (fun k => k ≤ a.length ∧ ∀ j, j < k → a.getD j [] = b.getD j []) (fun k => a.length - k) (fun k => [(5, .int .i64 k)]) (fun _ => []) [] 0 [] [] (by simp) ?_ (by exact sgOk_of (by rfl)) ?_
  · (conv => whnf); (repeat' (first | exact trivial | rfl | (refine nilEq ?_; first | rfl | (simp only [*]; done) | (simp [*]; done) | grind) | apply And.intro | ((first | refine intEq ?_ | refine boolEq ?_ | refine strEq ?_ | refine psEq ?_ | refine nilEq ?_ | refine arrEq ?_); (try simp only [Int.toNat_natCast, etas, elDef]); first | done | omega | grind | (simp only [*]; done) | (simp [*]; done)))); (all_goals (conv => whnf)); (repeat' (first | exact trivial | rfl | (refine nilEq ?_; first | rfl | (simp only [*]; done) | (simp [*]; done) | grind) | apply And.intro | ((first | refine intEq ?_ | refine boolEq ?_ | refine strEq ?_ | refine psEq ?_ | refine nilEq ?_ | refine arrEq ?_); (try simp only [Int.toNat_natCast, etas, elDef]); first | done | omega | grind | (simp only [*]; done) | (simp [*]; done)) | ((try simp only [Int.toNat_natCast, etas, elDef]); first | done | omega | grind | (simp only [*]; done) | (simp [*]; done))))
  rintro i ⟨hi, hj⟩
  conv => whnf
  repeat' first
    | (refine Cnd.mk (fun h => ?_) (fun h => ?_) <;> (try simp [etas, elDef, -List.getD_eq_getElem?_getD] at h) <;> conv => whnf)
    | (refine Obl.mk (by first | omega | rfl | exact inK_byte _ | (simp only [inK, Int.toNat_natCast, etas, elDef] <;> first | omega | grind) | grind [inK]) ?_ <;> conv => whnf)
    | (refine OblG.mk (by conv => whnf
                          repeat (first | (refine Bx.mk ?_) | (intro h; (try simp [etas, elDef, -List.getD_eq_getElem?_getD] at h); conv => whnf))
                          first | omega | rfl | exact inK_byte _ | (simp only [inK, Int.toNat_natCast, etas, elDef] <;> first | omega | grind) | grind [inK]) ?_ <;> conv => whnf)
    | (refine Gd.mk (fun h => ?_) <;> (try simp [etas, elDef, -List.getD_eq_getElem?_getD] at h) <;> conv => whnf)
    | (refine And.intro ?_ ?_ <;> conv => whnf)
    | exact True.intro
    | (intro; conv => whnf)
  · exact leafB hK (eqD_no.2 (by grind))
  · exact ⟨i + 1, [], [], ⟨by omega, by grind⟩, by omega, by (conv => whnf); (repeat' (first | exact trivial | rfl | (refine nilEq ?_; first | rfl | (simp only [*]; done) | (simp [*]; done) | grind) | apply And.intro | ((first | refine intEq ?_ | refine boolEq ?_ | refine strEq ?_ | refine psEq ?_ | refine nilEq ?_ | refine arrEq ?_); (try simp only [Int.toNat_natCast, etas, elDef]); first | done | omega | grind | (simp only [*]; done) | (simp [*]; done)))); (all_goals (conv => whnf)); (repeat' (first | exact trivial | rfl | (refine nilEq ?_; first | rfl | (simp only [*]; done) | (simp [*]; done) | grind) | apply And.intro | ((first | refine intEq ?_ | refine boolEq ?_ | refine strEq ?_ | refine psEq ?_ | refine nilEq ?_ | refine arrEq ?_); (try simp only [Int.toNat_natCast, etas, elDef]); first | done | omega | grind | (simp only [*]; done) | (simp [*]; done)) | ((try simp only [Int.toNat_natCast, etas, elDef]); first | done | omega | grind | (simp only [*]; done) | (simp [*]; done)))), (by exact sgOk_of (by rfl))⟩
  · exact leafB hK (eqD_iff.2 (listEq [] (by omega) (by grind)))
theorem s35 : (CtrOK Tryd.prog 35 (.pure F35) ∧ Callable Tryd.prog 35) := by
  refine pure_ok (E := E35) (mkE_nil tab_ok) mix (O := O35) (F := F35) Tryd.func35 rfl (by rfl) (by kernel_rfl) (fun args o v h => ?_) (fun args o v h => ?_) (fun args o v h hbd hp K hK => ?_)
  · unfold F35 at h; split at h <;> cases h; first | trivial | (simp [v35, Scalar, Scalar2, Scalar1, stC, ndC, itC, chC, nwC])
  · unfold F35 at h; split at h <;> cases h; exact Nat.le_of_ble_eq_true rfl
  · unfold F35 at h; split at h
    case h_2 => cases h
    cases h
    exact a35 _ _ (by exact hbd) trivial K hK
noncomputable def v13 (a : Nd) (b : Nd) : AV := .bool (eqD a b)
noncomputable def o13 (a : Nd) (b : Nd) : Prop := True
noncomputable def m13 (a : Nd) (b : Nd) : Nat := SizeOf.sizeOf a
noncomputable def F13 : List AV → QR
  | [.st [.int .i64 a_0, .int .i64 a_1, .str a_2, .ps .str a_3, .ps .node a_4], .st [.int .i64 b_0, .int .i64 b_1, .str b_2, .ps .str b_3, .ps .node b_4]] => some (none, v13 ⟨a_0, a_1, a_2, a_3, a_4⟩ ⟨b_0, b_1, b_2, b_3, b_4⟩)
  | _ => none
noncomputable def Fk13 (k : Nat) : List AV → QR
  | [.st [.int .i64 a_0, .int .i64 a_1, .str a_2, .ps .str a_3, .ps .node a_4], .st [.int .i64 b_0, .int .i64 b_1, .str b_2, .ps .str b_3, .ps .node b_4]] => some (some (m13 ⟨a_0, a_1, a_2, a_3, a_4⟩ ⟨b_0, b_1, b_2, b_3, b_4⟩ < k ∧ o13 ⟨a_0, a_1, a_2, a_3, a_4⟩ ⟨b_0, b_1, b_2, b_3, b_4⟩), v13 ⟨a_0, a_1, a_2, a_3, a_4⟩ ⟨b_0, b_1, b_2, b_3, b_4⟩)
  | _ => none
noncomputable def v36 (a : List Nd) (b : List Nd) : AV := .bool (eqD a b)
noncomputable def o36 (a : List Nd) (b : List Nd) : Prop := True
noncomputable def m36 (a : List Nd) (b : List Nd) : Nat := SizeOf.sizeOf a
noncomputable def F36 : List AV → QR
  | [.ps .node a, .ps .node b] => some (none, v36 a b)
  | _ => none
noncomputable def Fk36 (k : Nat) : List AV → QR
  | [.ps .node a, .ps .node b] => some (some (m36 a b < k ∧ o36 a b), v36 a b)
  | _ => none
noncomputable def E13 (k : Nat) : Ctx := mkE tab [(35, .pure F35), (36, .pure (Fk36 k))]
noncomputable def O13 : Nat → List DI := ordL []
theorem a13 (k : Nat) (a : Nd) (b : Nd) (hm : m13 a b < k + 1) (hb : BdAs [.st (ndC a), .st (ndC b)]) (ho : o13 a b) (K : AV → List AV → Prop) (hK : K (v13 a b) []) : abody (E13 k) O13 .ps Tryd.f13 (Tryd.f13.body.getD .skip) [.st (ndC a), .st (ndC b)] K := by
  simp only [BdAs, BdA, BdL, BdC, MX, ndC, shC, itC, stC, opC, chC, nwC, flC, rqC, rsC, enc, List.cons_append, List.nil_append, and_true, true_and] at hb
  unfold v13 at hK
  unfold m13 at hm
  have h1 := kids_size a
  conv => whnf
  repeat' first
    | (refine Cnd.mk (fun h => ?_) (fun h => ?_) <;> (try simp [etas, elDef, -List.getD_eq_getElem?_getD] at h) <;> conv => whnf)
    | (refine Obl.mk (by first | omega | rfl | exact inK_byte _ | (simp only [inK, Int.toNat_natCast, etas, elDef, m13, m36, o36, m36] <;> first | omega | grind) | grind [inK, m13, m36, o36, m36]) ?_ <;> conv => whnf)
    | (refine OblG.mk (by conv => whnf
                          repeat (first | (refine Bx.mk ?_) | (intro h; (try simp [etas, elDef, -List.getD_eq_getElem?_getD] at h); conv => whnf))
                          first | omega | rfl | exact inK_byte _ | (simp only [inK, Int.toNat_natCast, etas, elDef, m13, m36, o36, m36] <;> first | omega | grind) | grind [inK, m13, m36, o36, m36]) ?_ <;> conv => whnf)
    | (refine Gd.mk (fun h => ?_) <;> (try simp [etas, elDef, -List.getD_eq_getElem?_getD] at h) <;> conv => whnf)
    | (refine And.intro ?_ ?_ <;> conv => whnf)
    | exact True.intro
    | (intro; conv => whnf)
  exact leafB hK (by rw [Bool.eq_iff_iff]; simp only [eqD_iff, Bool.and_eq_true, decide_eq_true_eq, nd_eta]; exact ⟨fun h => by subst h; simp, fun ⟨⟨⟨⟨h1, h2⟩, h3⟩, h4⟩, h5⟩ => nd_ext h1 h2 h3 h4 h5⟩)
noncomputable def E36 (k : Nat) : Ctx := mkE tab [(13, .pure (Fk13 k))]
noncomputable def O36 : Nat → List DI := ordL [(6, [.q 0, .q 1, .q 2, .q 3, .q 4, .q 5, .q 6, .q 7, .q 8, .q 9])]
theorem a36 (k : Nat) (a : List Nd) (b : List Nd) (hm : m36 a b < k + 1) (hb : BdAs [.ps .node a, .ps .node b]) (ho : o36 a b) (K : AV → List AV → Prop) (hK : K (v36 a b) []) : abody (E36 k) O36 .ps Tryd.f36 (Tryd.f36.body.getD .skip) [.ps .node a, .ps .node b] K := by
  simp only [BdAs, BdA, BdL, BdC, MX, ndC, shC, itC, stC, opC, chC, nwC, flC, rqC, rsC, enc, List.cons_append, List.nil_append, and_true, true_and] at hb
  unfold v36 at hK
  unfold m36 at hm
  have hkid : ∀ j, j < a.length → SizeOf.sizeOf (a.getD j default) < k := fun j hj => by have := mem_size hj; omega
  conv => whnf
  repeat' first
    | (refine Cnd.mk (fun h => ?_) (fun h => ?_) <;> (try simp [etas, elDef, -List.getD_eq_getElem?_getD] at h) <;> conv => whnf)
    | (refine Obl.mk (by first | omega | rfl | exact inK_byte _ | (simp only [inK, Int.toNat_natCast, etas, elDef, m13, m36, o13, m13] <;> first | omega | grind) | grind [inK, m13, m36, o13, m13]) ?_ <;> conv => whnf)
    | (refine OblG.mk (by conv => whnf
                          repeat (first | (refine Bx.mk ?_) | (intro h; (try simp [etas, elDef, -List.getD_eq_getElem?_getD] at h); conv => whnf))
                          first | omega | rfl | exact inK_byte _ | (simp only [inK, Int.toNat_natCast, etas, elDef, m13, m36, o13, m13] <;> first | omega | grind) | grind [inK, m13, m36, o13, m13]) ?_ <;> conv => whnf)
    | (refine Gd.mk (fun h => ?_) <;> (try simp [etas, elDef, -List.getD_eq_getElem?_getD] at h) <;> conv => whnf)
    | (refine And.intro ?_ ?_ <;> conv => whnf)
    | exact True.intro
    | (intro; conv => whnf)
  · exact leafB hK (eqD_no.2 (by grind))
  refine aloop_intro Nat (fun k => k ≤ a.length ∧ ∀ j, j < k → a.getD j default = b.getD j default) (fun k => a.length - k) (fun k => [(5, .int .i64 k)]) (fun _ => []) [] 0 [] [] (by simp) ?_ (by exact sgOk_of (by rfl)) ?_
  · (conv => whnf); (repeat' (first | exact trivial | rfl | (refine nilEq ?_; first | rfl | (simp only [*]; done) | (simp [*]; done) | grind) | apply And.intro | ((first | refine intEq ?_ | refine boolEq ?_ | refine strEq ?_ | refine psEq ?_ | refine nilEq ?_ | refine arrEq ?_); (try simp only [Int.toNat_natCast, etas, elDef]); first | done | omega | grind | (simp only [*]; done) | (simp [*]; done)))); (all_goals (conv => whnf)); (repeat' (first | exact trivial | rfl | (refine nilEq ?_; first | rfl | (simp only [*]; done) | (simp [*]; done) | grind) | apply And.intro | ((first | refine intEq ?_ | refine boolEq ?_ | refine strEq ?_ | refine psEq ?_ | refine nilEq ?_ | refine arrEq ?_); (try simp only [Int.toNat_natCast, etas, elDef]); first | done | omega | grind | (simp only [*]; done) | (simp [*]; done)) | ((try simp only [Int.toNat_natCast, etas, elDef]); first | done | omega | grind | (simp only [*]; done) | (simp [*]; done))))
  rintro i ⟨hi, hj⟩
  conv => whnf
  repeat' first
    | (refine Cnd.mk (fun h => ?_) (fun h => ?_) <;> (try simp [etas, elDef, -List.getD_eq_getElem?_getD] at h) <;> conv => whnf)
    | (refine Obl.mk (by first | omega | rfl | exact inK_byte _ | (simp only [inK, Int.toNat_natCast, etas, elDef, m13, m36, o13, m13] <;> first | omega | grind) | grind [inK, m13, m36, o13, m13]) ?_ <;> conv => whnf)
    | (refine OblG.mk (by conv => whnf
                          repeat (first | (refine Bx.mk ?_) | (intro h; (try simp [etas, elDef, -List.getD_eq_getElem?_getD] at h); conv => whnf))
                          first | omega | rfl | exact inK_byte _ | (simp only [inK, Int.toNat_natCast, etas, elDef, m13, m36, o13, m13] <;> first | omega | grind) | grind [inK, m13, m36, o13, m13]) ?_ <;> conv => whnf)
    | (refine Gd.mk (fun h => ?_) <;> (try simp [etas, elDef, -List.getD_eq_getElem?_getD] at h) <;> conv => whnf)
    | (refine And.intro ?_ ?_ <;> conv => whnf)
    | exact True.intro
    | (intro; conv => whnf)
  · exact leafB hK (eqD_no.2 (by grind [eqD_no]))
  · exact ⟨i + 1, [], [], ⟨by omega, by grind [eqD_iff]⟩, by omega, by (conv => whnf); (repeat' (first | exact trivial | rfl | (refine nilEq ?_; first | rfl | (simp only [*]; done) | (simp [*]; done) | grind) | apply And.intro | ((first | refine intEq ?_ | refine boolEq ?_ | refine strEq ?_ | refine psEq ?_ | refine nilEq ?_ | refine arrEq ?_); (try simp only [Int.toNat_natCast, etas, elDef]); first | done | omega | grind | (simp only [*]; done) | (simp [*]; done)))); (all_goals (conv => whnf)); (repeat' (first | exact trivial | rfl | (refine nilEq ?_; first | rfl | (simp only [*]; done) | (simp [*]; done) | grind) | apply And.intro | ((first | refine intEq ?_ | refine boolEq ?_ | refine strEq ?_ | refine psEq ?_ | refine nilEq ?_ | refine arrEq ?_); (try simp only [Int.toNat_natCast, etas, elDef]); first | done | omega | grind | (simp only [*]; done) | (simp [*]; done)) | ((try simp only [Int.toNat_natCast, etas, elDef]); first | done | omega | grind | (simp only [*]; done) | (simp [*]; done)))), (by exact sgOk_of (by rfl))⟩
  · exact leafB hK (eqD_iff.2 (listEq default (by omega) (by grind)))
theorem r13_36 : ∀ k, (CtrOK Tryd.prog 13 (.pure (Fk13 k)) ∧ Callable Tryd.prog 13) ∧ (CtrOK Tryd.prog 36 (.pure (Fk36 k)) ∧ Callable Tryd.prog 36) := by
  intro k
  induction k with
  | zero =>
    exact ⟨⟨⟨fun args o v h => by unfold Fk13 at h; split at h <;> cases h; first | trivial | (simp [v13, Scalar, Scalar2, Scalar1, stC, ndC, itC, chC, nwC]), fun args K h => by
        unfold pureC Fk13 at h; split at h
        · rename_i h1; split at h1 <;> cases h1; exact absurd (h.1 _ rfl).1 (Nat.not_lt_zero _)
        · exact h.elim⟩, callable Tryd.func13 rfl (by rfl)⟩, ⟨⟨fun args o v h => by unfold Fk36 at h; split at h <;> cases h; first | trivial | (simp [v36, Scalar, Scalar2, Scalar1, stC, ndC, itC, chC, nwC]), fun args K h => by
        unfold pureC Fk36 at h; split at h
        · rename_i h1; split at h1 <;> cases h1; exact absurd (h.1 _ rfl).1 (Nat.not_lt_zero _)
        · exact h.elim⟩, callable Tryd.func36 rfl (by rfl)⟩⟩
  | succ k ih =>
    refine ⟨?_, ?_⟩
    · refine pure_ok (E := E13 k) (mkE_cons s35 (mkE_cons ih.2 (mkE_nil tab_ok))) mix (O := O13) (F := (Fk13 (k + 1))) Tryd.func13 rfl (by rfl) (by kernel_rfl) (fun args o v h => ?_) (fun args o v h => ?_) (fun args o v h hbd hp K hK => ?_)
      · unfold Fk13 at h; split at h <;> cases h; first | trivial | (simp [v13, Scalar, Scalar2, Scalar1, stC, ndC, itC, chC, nwC])
      · unfold Fk13 at h; split at h <;> cases h; exact Nat.le_of_ble_eq_true rfl
      · unfold Fk13 at h; split at h
        case h_2 => cases h
        cases h
        exact a13 k ⟨_, _, _, _, _⟩ ⟨_, _, _, _, _⟩ (hp _ rfl).1 (by exact hbd) (hp _ rfl).2 K hK
    · refine pure_ok (E := E36 k) (mkE_cons ih.1 (mkE_nil tab_ok)) mix (O := O36) (F := (Fk36 (k + 1))) Tryd.func36 rfl (by rfl) (by kernel_rfl) (fun args o v h => ?_) (fun args o v h => ?_) (fun args o v h hbd hp K hK => ?_)
      · unfold Fk36 at h; split at h <;> cases h; first | trivial | (simp [v36, Scalar, Scalar2, Scalar1, stC, ndC, itC, chC, nwC])
      · unfold Fk36 at h; split at h <;> cases h; exact Nat.le_of_ble_eq_true rfl
      · unfold Fk36 at h; split at h
        case h_2 => cases h
        cases h
        exact a36 k _ _ (hp _ rfl).1 (by exact hbd) (hp _ rfl).2 K hK
theorem s13 : (CtrOK Tryd.prog 13 (.pure F13) ∧ Callable Tryd.prog 13) := by
  refine ⟨⟨fun args o v h => ?_, fun args K h => ?_⟩, (r13_36 0).1.2⟩
  · unfold F13 at h; split at h <;> cases h; first | trivial | (simp [v13, Scalar, Scalar2, Scalar1, stC, ndC, itC, chC, nwC])
  · unfold pureC F13 at h; split at h
    · rename_i h1; split at h1 <;> cases h1
      exact (r13_36 (m13 ⟨_, _, _, _, _⟩ ⟨_, _, _, _, _⟩ + 1)).1.1.2 _ K ⟨fun p hp => by cases hp; exact ⟨Nat.lt_succ_self _, trivial⟩, h.2⟩
    · exact h.elim
theorem s36 : (CtrOK Tryd.prog 36 (.pure F36) ∧ Callable Tryd.prog 36) := by
  refine ⟨⟨fun args o v h => ?_, fun args K h => ?_⟩, (r13_36 0).2.2⟩
  · unfold F36 at h; split at h <;> cases h; first | trivial | (simp [v36, Scalar, Scalar2, Scalar1, stC, ndC, itC, chC, nwC])
  · unfold pureC F36 at h; split at h
    · rename_i h1; split at h1 <;> cases h1
      exact (r13_36 (m36 _ _ + 1)).2.1.2 _ K ⟨fun p hp => by cases hp; exact ⟨Nat.lt_succ_self _, trivial⟩, h.2⟩
    · exact h.elim
end Go.Rs

