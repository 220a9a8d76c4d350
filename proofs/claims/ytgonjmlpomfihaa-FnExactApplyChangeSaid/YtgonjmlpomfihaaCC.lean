import Derived.Test.YtgonjmlpomfihaaCB
import Derived.Test.YtgonjmlpomfihaaMA
set_option linter.all false
set_option linter.unusedSimpArgs false
set_option linter.unusedVariables false
namespace Go.Rs
open Go.Proofs
set_option maxRecDepth 100000
noncomputable def v82 (n : Nd) (lvl : Int) : AV := .tup [.int .i64 (if shapeM (6 - lvl).toNat n then (countM n : Int) else 0), .int .i64 (if shapeM (6 - lvl).toNat n then (depthM n : Int) else 0), .bool (shapeM (6 - lvl).toNat n)]
noncomputable def o82 (n : Nd) (lvl : Int) : Prop := 1 ≤ lvl ∧ lvl ≤ 6
noncomputable def m82 (n : Nd) (lvl : Int) : Nat := SizeOf.sizeOf n
noncomputable def F82 : List AV → QR
  | [.st [.int .i64 n_0, .int .i64 n_1, .str n_2, .ps .str n_3, .ps .node n_4], .int .i64 lvl] => some (some (o82 ⟨n_0, n_1, n_2, n_3, n_4⟩ lvl), v82 ⟨n_0, n_1, n_2, n_3, n_4⟩ lvl)
  | _ => none
noncomputable def Fk82 (k : Nat) : List AV → QR
  | [.st [.int .i64 n_0, .int .i64 n_1, .str n_2, .ps .str n_3, .ps .node n_4], .int .i64 lvl] => some (some (m82 ⟨n_0, n_1, n_2, n_3, n_4⟩ lvl < k ∧ o82 ⟨n_0, n_1, n_2, n_3, n_4⟩ lvl), v82 ⟨n_0, n_1, n_2, n_3, n_4⟩ lvl)
  | _ => none
noncomputable def E82 (k : Nat) : Ctx := mkE tab [(82, .pure (Fk82 k)), (92, .pure F92)]
noncomputable def O82 : Nat → List DI := ordL []
theorem a82 (k : Nat) (n : Nd) (lvl : Int) (hm : m82 n lvl < k + 1) (hb : BdAs [.st (ndC n), .int .i64 lvl]) (ho : o82 n lvl) (K : AV → List AV → Prop) (hK : K (v82 n lvl) []) : abody (E82 k) O82 .ps Try.f82 (Try.f82.body.getD .skip) [.st (ndC n), .int .i64 lvl] K := by
  simp only [BdAs, BdA, BdL, BdC, MX, ndC, shC, itC, stC, opC, chC, nwC, flC, rqC, rsC, enc, List.cons_append, List.nil_append, and_true, true_and] at hb
  unfold o82 at ho
  unfold v82 at hK
  unfold m82 at hm
  have hkid : ∀ j, j < n.kids.length → SizeOf.sizeOf (n.kids.getD j default) < k := fun j hj => by have := kid_size hj; omega
  have h0 : lvl = 6 → shapeM (6 - lvl).toNat n = false := fun e => by subst e; rfl
  have h1 : lvl < 6 → shapeM (6 - lvl).toNat n = (partsM n && n.kids.all (shapeM ((6 - lvl).toNat - 1))) := fun h => shapeM_pos n (by omega)
  have h2 : (6 - (lvl + 1)).toNat = (6 - lvl).toNat - 1 := by omega
  conv => whnf
  repeat' first
    | (refine Cnd.mk (fun h => ?_) (fun h => ?_) <;> (try simp [etas, elDef, -List.getD_eq_getElem?_getD] at h) <;> conv => whnf)
    | (refine Obl.mk (by first | omega | rfl | exact inK_byte _ | (simp only [inK, Int.toNat_natCast, etas, elDef, m82, o82, m82] <;> first | omega | grind) | grind [inK, m82, o82, m82]) ?_ <;> conv => whnf)
    | (refine OblG.mk (by conv => whnf
                          repeat (first | (refine Bx.mk ?_) | (intro h; (try simp [etas, elDef, -List.getD_eq_getElem?_getD] at h); conv => whnf))
                          first | omega | rfl | exact inK_byte _ | (simp only [inK, Int.toNat_natCast, etas, elDef, m82, o82, m82] <;> first | omega | grind) | grind [inK, m82, o82, m82]) ?_ <;> conv => whnf)
    | (refine Gd.mk (fun h => ?_) <;> (try simp [etas, elDef, -List.getD_eq_getElem?_getD] at h) <;> conv => whnf)
    | (refine And.intro ?_ ?_ <;> conv => whnf)
    | exact True.intro
    | (intro; conv => whnf)
  · have : shapeM (6 - lvl).toNat n = false := by grind
    exact leafV hK (by simp [this])
  have hp := partsM_kids h.2
  have hc : ∀ x, shapeM ((6 - lvl).toNat - 1) x = true → countM x ≤ 16807 := fun x hx => okN_count ⟨_, by omega, hx⟩
  have hd : ∀ x, shapeM ((6 - lvl).toNat - 1) x = true → depthM x ≤ 5 := fun x hx => Nat.le_trans (depth_le hx) (by omega)
  refine aloop_intro Nat (fun k => k ≤ n.kids.length ∧ ∀ j, j < k → shapeM ((6 - lvl).toNat - 1) (n.kids.getD j default) = true) (fun k => n.kids.length - k) (fun k => [(22, .int .i64 k), (4, .int .i64 (1 + sumN countM (n.kids.take k) : Nat)), (5, .int .i64 (1 + maxN depthM (n.kids.take k) : Nat))]) (fun k => []) [2] 0 [] [] ?_ ?_ (by exact sgOk_of (by rfl)) ?_
  · first | (simp; done) | (simp; assumption)
  · (conv => whnf); (repeat' (first | exact trivial | rfl | (refine nilEq ?_; first | rfl | (simp only [*]; done) | (simp [*]; done) | grind) | apply And.intro | ((first | refine intEq ?_ | refine boolEq ?_ | refine strEq ?_ | refine psEq ?_ | refine nilEq ?_ | refine arrEq ?_); (try simp only [Int.toNat_natCast, etas, elDef]); first | done | omega | grind | (simp only [*]; done) | (simp [*]; done)))); (all_goals (conv => whnf)); (repeat' (first | exact trivial | rfl | (refine nilEq ?_; first | rfl | (simp only [*]; done) | (simp [*]; done) | grind) | apply And.intro | ((first | refine intEq ?_ | refine boolEq ?_ | refine strEq ?_ | refine psEq ?_ | refine nilEq ?_ | refine arrEq ?_); (try simp only [Int.toNat_natCast, etas, elDef]); first | done | omega | grind | (simp only [*]; done) | (simp [*]; done)) | ((try simp only [Int.toNat_natCast, etas, elDef]); first | done | omega | grind | (simp only [*]; done) | (simp [*]; done))))
  rintro i ⟨hi, hj⟩
  conv => whnf
  have hsum : sumN countM (n.kids.take i) ≤ i * 16807 := sumN_take_bound hi fun j h => hc _ (hj j h)
  have hmax : maxN depthM (n.kids.take i) ≤ 5 := maxN_take_bound hi fun j h => hd _ (hj j h)
  have hst := fun h => sumN_take (f := countM) (l := n.kids) (k := i) h
  have hmt := fun h => maxN_take (f := depthM) (l := n.kids) (k := i) h
  have hci := hc (n.kids.getD i default)
  have hdi := hd (n.kids.getD i default)
  repeat' first
    | (refine Cnd.mk (fun h => ?_) (fun h => ?_) <;> (try simp [etas, elDef, -List.getD_eq_getElem?_getD] at h) <;> conv => whnf)
    | (refine Obl.mk (by first | omega | rfl | exact inK_byte _ | (simp only [inK, Int.toNat_natCast, etas, elDef, m82, o82, m82] <;> first | omega | grind) | grind [inK, m82, o82, m82]) ?_ <;> conv => whnf)
    | (refine OblG.mk (by conv => whnf
                          repeat (first | (refine Bx.mk ?_) | (intro h; (try simp [etas, elDef, -List.getD_eq_getElem?_getD] at h); conv => whnf))
                          first | omega | rfl | exact inK_byte _ | (simp only [inK, Int.toNat_natCast, etas, elDef, m82, o82, m82] <;> first | omega | grind) | grind [inK, m82, o82, m82]) ?_ <;> conv => whnf)
    | (refine Gd.mk (fun h => ?_) <;> (try simp [etas, elDef, -List.getD_eq_getElem?_getD] at h) <;> conv => whnf)
    | (refine And.intro ?_ ?_ <;> conv => whnf)
    | exact True.intro
    | (intro; conv => whnf)
  · have hn : n.kids.all (shapeM ((6 - lvl).toNat - 1)) = false := allN_no (j := i) (by omega) (by rw [← h2]; assumption)
    have : shapeM (6 - lvl).toNat n = false := by grind
    exact leafV hK (by simp [this])
  · have h9 : shapeM ((6 - lvl).toNat - 1) (n.kids.getD i default) = true := by rw [← h2]; assumption
    refine ⟨i + 1, [], [], ⟨by omega, by grind⟩, by omega, ?_, (by exact sgOk_of (by rfl))⟩
    (conv => whnf); (repeat' (first | exact trivial | rfl | (refine nilEq ?_; first | rfl | (simp only [*]; done) | (simp [*]; done) | grind) | apply And.intro | ((first | refine intEq ?_ | refine boolEq ?_ | refine strEq ?_ | refine psEq ?_ | refine nilEq ?_ | refine arrEq ?_); (try simp only [Int.toNat_natCast, etas, elDef]); grind))); (all_goals (conv => whnf)); (repeat' (first | exact trivial | rfl | (refine nilEq ?_; first | rfl | (simp only [*]; done) | (simp [*]; done) | grind) | apply And.intro | ((first | refine intEq ?_ | refine boolEq ?_ | refine strEq ?_ | refine psEq ?_ | refine nilEq ?_ | refine arrEq ?_); (try simp only [Int.toNat_natCast, etas, elDef]); grind) | ((try simp only [Int.toNat_natCast, etas, elDef]); grind)))
  · have hn : n.kids.all (shapeM ((6 - lvl).toNat - 1)) = true := (allN_iff _ _).2 (by grind)
    have : shapeM (6 - lvl).toNat n = true := by grind
    have e : n.kids.take i = n.kids := List.take_of_length_le (by omega)
    exact leafV hK (by simp only [this, if_true, countM_eq, depthM_eq, e])
theorem r82 : ∀ k, (CtrOK Try.prog 82 (.pure (Fk82 k)) ∧ Callable Try.prog 82) := by
  intro k
  induction k with
  | zero =>
    exact ⟨⟨fun args o v h => by unfold Fk82 at h; split at h <;> cases h; first | trivial | (simp [v82, Scalar, Scalar2, Scalar1, stC, ndC, itC, chC, nwC]), fun args K h => by
        unfold pureC Fk82 at h; split at h
        · rename_i h1; split at h1 <;> cases h1; exact absurd (h.1 _ rfl).1 (Nat.not_lt_zero _)
        · exact h.elim⟩, callable Try.func82 rfl (by rfl)⟩
  | succ k ih =>
    refine pure_ok (E := E82 k) (mkE_cons ih (mkE_cons s92 (mkE_nil tab_ok))) mix (O := O82) (F := (Fk82 (k + 1))) Try.func82 rfl (by rfl) (by kernel_rfl) (fun args o v h => ?_) (fun args o v h => ?_) (fun args o v h hbd hp K hK => ?_)
    · unfold Fk82 at h; split at h <;> cases h; first | trivial | (simp [v82, Scalar, Scalar2, Scalar1, stC, ndC, itC, chC, nwC])
    · unfold Fk82 at h; split at h <;> cases h; exact Nat.le_of_ble_eq_true rfl
    · unfold Fk82 at h; split at h
      case h_2 => cases h
      cases h
      exact a82 k ⟨_, _, _, _, _⟩ _ (hp _ rfl).1 (by exact hbd) (hp _ rfl).2 K hK
theorem s82 : (CtrOK Try.prog 82 (.pure F82) ∧ Callable Try.prog 82) := by
  refine ⟨⟨fun args o v h => ?_, fun args K h => ?_⟩, (r82 0).2⟩
  · unfold F82 at h; split at h <;> cases h; first | trivial | (simp [v82, Scalar, Scalar2, Scalar1, stC, ndC, itC, chC, nwC])
  · unfold pureC F82 at h; split at h
    · rename_i h1; split at h1 <;> cases h1
      exact (r82 (m82 ⟨_, _, _, _, _⟩ _ + 1)).1.2 _ K ⟨fun p hp => by cases hp; exact ⟨Nat.lt_succ_self _, (h.1 _ rfl)⟩, h.2⟩
    · exact h.elim
noncomputable def v68 (b : Bs) : AV := .bool (nameM b)
noncomputable def o68 (b : Bs) : Prop := True
noncomputable def F68 : List AV → QR
  | [.str b] => some (none, v68 b)
  | _ => none
noncomputable def E68 : Ctx := mkE tab []
noncomputable def O68 : Nat → List DI := ordL []
theorem a68 (b : Bs) (hb : BdAs [.str b]) (ho : o68 b) (K : AV → List AV → Prop) (hK : K (v68 b) []) : abody E68 O68 .ps Try.f68 (Try.f68.body.getD .skip) [.str b] K := by
  simp only [BdAs, BdA, BdL, BdC, MX, ndC, shC, itC, stC, opC, chC, nwC, flC, rqC, rsC, enc, List.cons_append, List.nil_append, and_true, true_and] at hb
  unfold v68 at hK
  conv => whnf
  repeat' first
    | (refine Cnd.mk (fun h => ?_) (fun h => ?_) <;> (try simp [etas, elDef, -List.getD_eq_getElem?_getD] at h) <;> conv => whnf)
    | (refine Obl.mk (by first | omega | rfl | exact inK_byte _ | (simp only [inK, Int.toNat_natCast, etas, elDef] <;> first | omega | grind) | grind [inK]) ?_ <;> conv => whnf)
    | (refine OblG.mk (by conv => whnf
                          repeat (first | (refine Bx.mk ?_) | (intro h; (try simp [etas, elDef, -List.getD_eq_getElem?_getD] at h); conv => whnf))
                          first | omega | rfl | exact inK_byte _ | (simp only [inK, Int.toNat_natCast, etas, elDef] <;> first | omega | grind) | grind [inK]) ?_ <;> conv => whnf)
    | (refine Gd.mk (fun h => ?_) <;> (try simp [etas, elDef, -List.getD_eq_getElem?_getD] at h) <;> conv => whnf)
    | (refine And.intro ?_ ?_ <;> conv => whnf)
    | exact True.intro
    | (intro; conv => whnf)
  · exact leafB hK (by grind [nameM])
  refine aloop_intro Nat (fun k => k ≤ b.length ∧ ∀ j, j < k → nameCh (b.getD j 0) = true) (fun k => b.length - k) (fun k => [(3, .int .i64 k)]) (fun k => []) [] 0 [] [] ?_ ?_ (by exact sgOk_of (by rfl)) ?_
  · first | (simp; done) | (simp; assumption)
  · (conv => whnf); (repeat' (first | exact trivial | rfl | (refine nilEq ?_; first | rfl | (simp only [*]; done) | (simp [*]; done) | grind) | apply And.intro | ((first | refine intEq ?_ | refine boolEq ?_ | refine strEq ?_ | refine psEq ?_ | refine nilEq ?_ | refine arrEq ?_); (try simp only [Int.toNat_natCast, etas, elDef]); first | done | omega | grind | (simp only [*]; done) | (simp [*]; done)))); (all_goals (conv => whnf)); (repeat' (first | exact trivial | rfl | (refine nilEq ?_; first | rfl | (simp only [*]; done) | (simp [*]; done) | grind) | apply And.intro | ((first | refine intEq ?_ | refine boolEq ?_ | refine strEq ?_ | refine psEq ?_ | refine nilEq ?_ | refine arrEq ?_); (try simp only [Int.toNat_natCast, etas, elDef]); first | done | omega | grind | (simp only [*]; done) | (simp [*]; done)) | ((try simp only [Int.toNat_natCast, etas, elDef]); first | done | omega | grind | (simp only [*]; done) | (simp [*]; done))))
  rintro i ⟨hi, hj⟩
  conv => whnf
  repeat' first
    | (refine Cnd.mk (fun h => ?_) (fun h => ?_) <;> (try simp [etas, elDef, -List.getD_eq_getElem?_getD] at h) <;> conv => whnf)
    | (refine Obl.mk (by first | omega | rfl | exact inK_byte _ | (simp only [inK, Int.toNat_natCast, etas, elDef] <;> first | omega | grind) | grind [inK]) ?_ <;> conv => whnf)
    | (refine OblG.mk (by conv => whnf
                          repeat (first | (refine Bx.mk ?_) | (intro h; (try simp [etas, elDef, -List.getD_eq_getElem?_getD] at h); conv => whnf))
                          first | omega | rfl | exact inK_byte _ | (simp only [inK, Int.toNat_natCast, etas, elDef] <;> first | omega | grind) | grind [inK]) ?_ <;> conv => whnf)
    | (refine Gd.mk (fun h => ?_) <;> (try simp [etas, elDef, -List.getD_eq_getElem?_getD] at h) <;> conv => whnf)
    | (refine And.intro ?_ ?_ <;> conv => whnf)
    | exact True.intro
    | (intro; conv => whnf)
  · have : nameCh (b.getD i 0) = false := by grind [nameCh]
    exact leafB hK (by grind [nameM, all_no])
  · have : nameCh (b.getD i 0) = true := by grind [nameCh]
    exact ⟨i + 1, [], [], ⟨by omega, by grind⟩, by omega, by (conv => whnf); (repeat' (first | exact trivial | rfl | (refine nilEq ?_; first | rfl | (simp only [*]; done) | (simp [*]; done) | grind) | apply And.intro | ((first | refine intEq ?_ | refine boolEq ?_ | refine strEq ?_ | refine psEq ?_ | refine nilEq ?_ | refine arrEq ?_); (try simp only [Int.toNat_natCast, etas, elDef]); first | done | omega | grind | (simp only [*]; done) | (simp [*]; done)))); (all_goals (conv => whnf)); (repeat' (first | exact trivial | rfl | (refine nilEq ?_; first | rfl | (simp only [*]; done) | (simp [*]; done) | grind) | apply And.intro | ((first | refine intEq ?_ | refine boolEq ?_ | refine strEq ?_ | refine psEq ?_ | refine nilEq ?_ | refine arrEq ?_); (try simp only [Int.toNat_natCast, etas, elDef]); first | done | omega | grind | (simp only [*]; done) | (simp [*]; done)) | ((try simp only [Int.toNat_natCast, etas, elDef]); first | done | omega | grind | (simp only [*]; done) | (simp [*]; done)))), (by exact sgOk_of (by rfl))⟩
  · have : b.all nameCh = true := (all_iff b _).2 (by grind)
    exact leafB hK (by grind [nameM])
theorem s68 : (CtrOK Try.prog 68 (.pure F68) ∧ Callable Try.prog 68) := by
  refine pure_ok (E := E68) (mkE_nil tab_ok) mix (O := O68) (F := F68) Try.func68 rfl (by rfl) (by kernel_rfl) (fun args o v h => ?_) (fun args o v h => ?_) (fun args o v h hbd hp K hK => ?_)
  · unfold F68 at h; split at h <;> cases h; first | trivial | (simp [v68, Scalar, Scalar2, Scalar1, stC, ndC, itC, chC, nwC])
  · unfold F68 at h; split at h <;> cases h; exact Nat.le_of_ble_eq_true rfl
  · unfold F68 at h; split at h
    case h_2 => cases h
    cases h
    exact a68 _ (by exact hbd) trivial K hK
noncomputable def v61 (b : Bs) : AV := .bool (nameM b)
noncomputable def o61 (b : Bs) : Prop := True
noncomputable def F61 : List AV → QR
  | [.str b] => some (none, v61 b)
  | _ => none
noncomputable def E61 : Ctx := mkE tab [(40, .pure F40)]
noncomputable def O61 : Nat → List DI := ordL []
theorem a61 (b : Bs) (hb : BdAs [.str b]) (ho : o61 b) (K : AV → List AV → Prop) (hK : K (v61 b) []) : abody E61 O61 .ps Try.f61 (Try.f61.body.getD .skip) [.str b] K := by
  simp only [BdAs, BdA, BdL, BdC, MX, ndC, shC, itC, stC, opC, chC, nwC, flC, rqC, rsC, enc, List.cons_append, List.nil_append, and_true, true_and] at hb
  unfold v61 at hK
  conv => whnf
  refine aloop_intro Nat (fun k => k ≤ b.length ∧ ∀ j, j < k → nameCh (b.getD j 0) = true) (fun k => b.length - k) (fun k => [(3, .int .i64 k)]) (fun k => []) [] 0 [] [] ?_ ?_ (by exact sgOk_of (by rfl)) ?_
  · first | (simp; done) | (simp; assumption)
  · (conv => whnf); (repeat' (first | exact trivial | rfl | (refine nilEq ?_; first | rfl | (simp only [*]; done) | (simp [*]; done) | grind) | apply And.intro | ((first | refine intEq ?_ | refine boolEq ?_ | refine strEq ?_ | refine psEq ?_ | refine nilEq ?_ | refine arrEq ?_); (try simp only [Int.toNat_natCast, etas, elDef]); first | done | omega | grind | (simp only [*]; done) | (simp [*]; done)))); (all_goals (conv => whnf)); (repeat' (first | exact trivial | rfl | (refine nilEq ?_; first | rfl | (simp only [*]; done) | (simp [*]; done) | grind) | apply And.intro | ((first | refine intEq ?_ | refine boolEq ?_ | refine strEq ?_ | refine psEq ?_ | refine nilEq ?_ | refine arrEq ?_); (try simp only [Int.toNat_natCast, etas, elDef]); first | done | omega | grind | (simp only [*]; done) | (simp [*]; done)) | ((try simp only [Int.toNat_natCast, etas, elDef]); first | done | omega | grind | (simp only [*]; done) | (simp [*]; done))))
  rintro i ⟨hi, hj⟩
  conv => whnf
  repeat' first
    | (refine Cnd.mk (fun h => ?_) (fun h => ?_) <;> (try simp [etas, elDef, -List.getD_eq_getElem?_getD] at h) <;> conv => whnf)
    | (refine Obl.mk (by first | omega | rfl | exact inK_byte _ | (simp only [inK, Int.toNat_natCast, etas, elDef] <;> first | omega | grind) | grind [inK]) ?_ <;> conv => whnf)
    | (refine OblG.mk (by conv => whnf
                          repeat (first | (refine Bx.mk ?_) | (intro h; (try simp [etas, elDef, -List.getD_eq_getElem?_getD] at h); conv => whnf))
                          first | omega | rfl | exact inK_byte _ | (simp only [inK, Int.toNat_natCast, etas, elDef] <;> first | omega | grind) | grind [inK]) ?_ <;> conv => whnf)
    | (refine Gd.mk (fun h => ?_) <;> (try simp [etas, elDef, -List.getD_eq_getElem?_getD] at h) <;> conv => whnf)
    | (refine And.intro ?_ ?_ <;> conv => whnf)
    | exact True.intro
    | (intro; conv => whnf)
  · have : nameCh (b.getD i 0) = false := by grind [nameCh]
    exact leafB hK (by grind [nameM, all_no])
  · have : nameCh (b.getD i 0) = true := by grind [nameCh]
    exact ⟨i + 1, [], [], ⟨by omega, by grind⟩, by omega, by (conv => whnf); (repeat' (first | exact trivial | rfl | (refine nilEq ?_; first | rfl | (simp only [*]; done) | (simp [*]; done) | grind) | apply And.intro | ((first | refine intEq ?_ | refine boolEq ?_ | refine strEq ?_ | refine psEq ?_ | refine nilEq ?_ | refine arrEq ?_); (try simp only [Int.toNat_natCast, etas, elDef]); first | done | omega | grind | (simp only [*]; done) | (simp [*]; done)))); (all_goals (conv => whnf)); (repeat' (first | exact trivial | rfl | (refine nilEq ?_; first | rfl | (simp only [*]; done) | (simp [*]; done) | grind) | apply And.intro | ((first | refine intEq ?_ | refine boolEq ?_ | refine strEq ?_ | refine psEq ?_ | refine nilEq ?_ | refine arrEq ?_); (try simp only [Int.toNat_natCast, etas, elDef]); first | done | omega | grind | (simp only [*]; done) | (simp [*]; done)) | ((try simp only [Int.toNat_natCast, etas, elDef]); first | done | omega | grind | (simp only [*]; done) | (simp [*]; done)))), (by exact sgOk_of (by rfl))⟩
  · have : b.all nameCh = true := (all_iff b _).2 (by grind)
    exact leafB hK (by grind [nameM])
theorem s61 : (CtrOK Try.prog 61 (.pure F61) ∧ Callable Try.prog 61) := by
  refine pure_ok (E := E61) (mkE_cons s40 (mkE_nil tab_ok)) mix (O := O61) (F := F61) Try.func61 rfl (by rfl) (by kernel_rfl) (fun args o v h => ?_) (fun args o v h => ?_) (fun args o v h hbd hp K hK => ?_)
  · unfold F61 at h; split at h <;> cases h; first | trivial | (simp [v61, Scalar, Scalar2, Scalar1, stC, ndC, itC, chC, nwC])
  · unfold F61 at h; split at h <;> cases h; exact Nat.le_of_ble_eq_true rfl
  · unfold F61 at h; split at h
    case h_2 => cases h
    cases h
    exact a61 _ (by exact hbd) trivial K hK
noncomputable def v43 (s : Sto) : AV := .bool (storeM s)
noncomputable def o43 (s : Sto) : Prop := True
noncomputable def F43 : List AV → QR
  | [.st [.ps .item s_0, .int .i64 s_1]] => some (none, v43 ⟨s_0, s_1⟩)
  | _ => none
noncomputable def E43 : Ctx := mkE tab [(40, .pure F40), (61, .pure F61), (62, .pure F62)]
noncomputable def O43 : Nat → List DI := ordL [(5, [.q 0, .q 1, .q 2, .q 3, .q 4, .q 5, .q 6, .q 7, .q 8, .q 9, .q 10, .q 11, .q 12, .q 13, .q 14, .q 15, .q 16, .q 17, .q 18, .q 19, .q 20, .q 21, .q 22, .q 23, .q 24, .q 25, .q 26, .q 27, .q 28, .q 29, .q 30, .q 31, .q 32, .q 33])]
theorem a43 (s : Sto) (hb : BdAs [.st (stC s)]) (ho : o43 s) (K : AV → List AV → Prop) (hK : K (v43 s) []) : abody E43 O43 .ps Try.f43 (Try.f43.body.getD .skip) [.st (stC s)] K := by
  simp only [BdAs, BdA, BdL, BdC, MX, ndC, shC, itC, stC, opC, chC, nwC, flC, rqC, rsC, enc, List.cons_append, List.nil_append, and_true, true_and] at hb
  unfold v43 at hK
  conv => whnf
  refine aloop_intro Nat (fun k => k ≤ s.items.length ∧ ∀ j, j < k → itemOk s j = true) (fun k => s.items.length - k) (fun k => [(3, .int .i64 k)]) (fun k => []) [1] 0 [] [] ?_ ?_ (by exact sgOk_of (by rfl)) ?_
  · first | (simp; done) | (simp; assumption)
  · (conv => whnf); (repeat' (first | exact trivial | rfl | (refine nilEq ?_; first | rfl | (simp only [*]; done) | (simp [*]; done) | grind) | apply And.intro | ((first | refine intEq ?_ | refine boolEq ?_ | refine strEq ?_ | refine psEq ?_ | refine nilEq ?_ | refine arrEq ?_); (try simp only [Int.toNat_natCast, etas, elDef]); first | done | omega | grind | (simp only [*]; done) | (simp [*]; done)))); (all_goals (conv => whnf)); (repeat' (first | exact trivial | rfl | (refine nilEq ?_; first | rfl | (simp only [*]; done) | (simp [*]; done) | grind) | apply And.intro | ((first | refine intEq ?_ | refine boolEq ?_ | refine strEq ?_ | refine psEq ?_ | refine nilEq ?_ | refine arrEq ?_); (try simp only [Int.toNat_natCast, etas, elDef]); first | done | omega | grind | (simp only [*]; done) | (simp [*]; done)) | ((try simp only [Int.toNat_natCast, etas, elDef]); first | done | omega | grind | (simp only [*]; done) | (simp [*]; done))))
  rintro i ⟨hi, hj⟩
  conv => whnf
  repeat' first
    | (refine Cnd.mk (fun h => ?_) (fun h => ?_) <;> (try simp [etas, elDef, -List.getD_eq_getElem?_getD] at h) <;> conv => whnf)
    | (refine Obl.mk (by first | omega | rfl | exact inK_byte _ | (simp only [inK, Int.toNat_natCast, etas, elDef] <;> first | omega | grind) | grind [inK]) ?_ <;> conv => whnf)
    | (refine OblG.mk (by conv => whnf
                          repeat (first | (refine Bx.mk ?_) | (intro h; (try simp [etas, elDef, -List.getD_eq_getElem?_getD] at h); conv => whnf))
                          first | omega | rfl | exact inK_byte _ | (simp only [inK, Int.toNat_natCast, etas, elDef] <;> first | omega | grind) | grind [inK]) ?_ <;> conv => whnf)
    | (refine Gd.mk (fun h => ?_) <;> (try simp [etas, elDef, -List.getD_eq_getElem?_getD] at h) <;> conv => whnf)
    | (refine And.intro ?_ ?_ <;> conv => whnf)
    | exact True.intro
    | (intro; conv => whnf)
  · have : itemOk s i = false := by grind [itemOk]
    exact leafB hK (by grind [storeM, itemsM_no])
  · have : itemOk s i = true := by grind [itemOk]
    exact ⟨i + 1, [], [], ⟨by omega, by grind⟩, by omega, by (conv => whnf); (repeat' (first | exact trivial | rfl | (refine nilEq ?_; first | rfl | (simp only [*]; done) | (simp [*]; done) | grind) | apply And.intro | ((first | refine intEq ?_ | refine boolEq ?_ | refine strEq ?_ | refine psEq ?_ | refine nilEq ?_ | refine arrEq ?_); (try simp only [Int.toNat_natCast, etas, elDef]); first | done | omega | grind | (simp only [*]; done) | (simp [*]; done)))); (all_goals (conv => whnf)); (repeat' (first | exact trivial | rfl | (refine nilEq ?_; first | rfl | (simp only [*]; done) | (simp [*]; done) | grind) | apply And.intro | ((first | refine intEq ?_ | refine boolEq ?_ | refine strEq ?_ | refine psEq ?_ | refine nilEq ?_ | refine arrEq ?_); (try simp only [Int.toNat_natCast, etas, elDef]); first | done | omega | grind | (simp only [*]; done) | (simp [*]; done)) | ((try simp only [Int.toNat_natCast, etas, elDef]); first | done | omega | grind | (simp only [*]; done) | (simp [*]; done)))), (by exact sgOk_of (by rfl))⟩
  · have : itemsM s = true := (itemsM_iff s).2 (by grind)
    exact leafB hK (by grind [storeM])
theorem s43 : (CtrOK Try.prog 43 (.pure F43) ∧ Callable Try.prog 43) := by
  refine pure_ok (E := E43) (mkE_cons s40 (mkE_cons s61 (mkE_cons s62 (mkE_nil tab_ok)))) mix (O := O43) (F := F43) Try.func43 rfl (by rfl) (by kernel_rfl) (fun args o v h => ?_) (fun args o v h => ?_) (fun args o v h hbd hp K hK => ?_)
  · unfold F43 at h; split at h <;> cases h; first | trivial | (simp [v43, Scalar, Scalar2, Scalar1, stC, ndC, itC, chC, nwC])
  · unfold F43 at h; split at h <;> cases h; exact Nat.le_of_ble_eq_true rfl
  · unfold F43 at h; split at h
    case h_2 => cases h
    cases h
    exact a43 ⟨_, _⟩ (by exact hbd) trivial K hK
noncomputable def v69 (n : Nd) : AV := .bool (validM n)
noncomputable def o69 (n : Nd) : Prop := True
noncomputable def F69 : List AV → QR
  | [.st [.int .i64 n_0, .int .i64 n_1, .str n_2, .ps .str n_3, .ps .node n_4]] => some (none, v69 ⟨n_0, n_1, n_2, n_3, n_4⟩)
  | _ => none
noncomputable def E69 : Ctx := mkE tab [(82, .pure F82)]
noncomputable def O69 : Nat → List DI := ordL []
theorem a69 (n : Nd) (hb : BdAs [.st (ndC n)]) (ho : o69 n) (K : AV → List AV → Prop) (hK : K (v69 n) []) : abody E69 O69 .ps Try.f69 (Try.f69.body.getD .skip) [.st (ndC n)] K := by
  simp only [BdAs, BdA, BdL, BdC, MX, ndC, shC, itC, stC, opC, chC, nwC, flC, rqC, rsC, enc, List.cons_append, List.nil_append, and_true, true_and] at hb
  unfold v69 at hK
  conv => whnf
  repeat' first
    | (refine Cnd.mk (fun h => ?_) (fun h => ?_) <;> (try simp [etas, elDef, -List.getD_eq_getElem?_getD] at h) <;> conv => whnf)
    | (refine Obl.mk (by first | omega | rfl | exact inK_byte _ | (simp only [inK, Int.toNat_natCast, etas, elDef, o82, m82] <;> first | omega | grind) | grind [inK, o82, m82]) ?_ <;> conv => whnf)
    | (refine OblG.mk (by conv => whnf
                          repeat (first | (refine Bx.mk ?_) | (intro h; (try simp [etas, elDef, -List.getD_eq_getElem?_getD] at h); conv => whnf))
                          first | omega | rfl | exact inK_byte _ | (simp only [inK, Int.toNat_natCast, etas, elDef, o82, m82] <;> first | omega | grind) | grind [inK, o82, m82]) ?_ <;> conv => whnf)
    | (refine Gd.mk (fun h => ?_) <;> (try simp [etas, elDef, -List.getD_eq_getElem?_getD] at h) <;> conv => whnf)
    | (refine And.intro ?_ ?_ <;> conv => whnf)
    | exact True.intro
    | (intro; conv => whnf)
  exact leafB hK (by simp only [validM, nd_eta]; grind)
theorem s69 : (CtrOK Try.prog 69 (.pure F69) ∧ Callable Try.prog 69) := by
  refine pure_ok (E := E69) (mkE_cons s82 (mkE_nil tab_ok)) mix (O := O69) (F := F69) Try.func69 rfl (by rfl) (by kernel_rfl) (fun args o v h => ?_) (fun args o v h => ?_) (fun args o v h hbd hp K hK => ?_)
  · unfold F69 at h; split at h <;> cases h; first | trivial | (simp [v69, Scalar, Scalar2, Scalar1, stC, ndC, itC, chC, nwC])
  · unfold F69 at h; split at h <;> cases h; exact Nat.le_of_ble_eq_true rfl
  · unfold F69 at h; split at h
    case h_2 => cases h
    cases h
    exact a69 ⟨_, _, _, _, _⟩ (by exact hbd) trivial K hK
noncomputable def v48 (s : Sto) : AV := .bool (storeM s)
noncomputable def o48 (s : Sto) : Prop := True
noncomputable def F48 : List AV → QR
  | [.st [.ps .item s_0, .int .i64 s_1]] => some (none, v48 ⟨s_0, s_1⟩)
  | _ => none
noncomputable def E48 : Ctx := mkE tab [(68, .pure F68), (69, .pure F69)]
noncomputable def O48 : Nat → List DI := ordL [(6, [.q 0, .q 1, .q 2, .q 3, .q 4, .q 5, .q 6, .q 7, .q 8, .q 9, .q 10, .q 11, .q 12, .q 13, .q 14, .q 15, .q 16, .q 17, .q 18, .q 19])]
theorem a48 (s : Sto) (hb : BdAs [.st (stC s)]) (ho : o48 s) (K : AV → List AV → Prop) (hK : K (v48 s) []) : abody E48 O48 .ps Try.f48 (Try.f48.body.getD .skip) [.st (stC s)] K := by
  simp only [BdAs, BdA, BdL, BdC, MX, ndC, shC, itC, stC, opC, chC, nwC, flC, rqC, rsC, enc, List.cons_append, List.nil_append, and_true, true_and] at hb
  unfold v48 at hK
  conv => whnf
  repeat' first
    | (refine Cnd.mk (fun h => ?_) (fun h => ?_) <;> (try simp [etas, elDef, -List.getD_eq_getElem?_getD] at h) <;> conv => whnf)
    | (refine Obl.mk (by first | omega | rfl | exact inK_byte _ | (simp only [inK, Int.toNat_natCast, etas, elDef] <;> first | omega | grind) | grind [inK]) ?_ <;> conv => whnf)
    | (refine OblG.mk (by conv => whnf
                          repeat (first | (refine Bx.mk ?_) | (intro h; (try simp [etas, elDef, -List.getD_eq_getElem?_getD] at h); conv => whnf))
                          first | omega | rfl | exact inK_byte _ | (simp only [inK, Int.toNat_natCast, etas, elDef] <;> first | omega | grind) | grind [inK]) ?_ <;> conv => whnf)
    | (refine Gd.mk (fun h => ?_) <;> (try simp [etas, elDef, -List.getD_eq_getElem?_getD] at h) <;> conv => whnf)
    | (refine And.intro ?_ ?_ <;> conv => whnf)
    | exact True.intro
    | (intro; conv => whnf)
  · exact leafB hK (by grind [storeM])
  refine aloop_intro Nat (fun k => k ≤ s.items.length ∧ ∀ j, j < k → itemOk s j = true) (fun k => s.items.length - k) (fun k => [(22, .int .i64 k)]) (fun k => []) [1] 0 [] [] ?_ ?_ (by exact sgOk_of (by rfl)) ?_
  · first | (simp; done) | (simp; assumption)
  · (conv => whnf); (repeat' (first | exact trivial | rfl | (refine nilEq ?_; first | rfl | (simp only [*]; done) | (simp [*]; done) | grind) | apply And.intro | ((first | refine intEq ?_ | refine boolEq ?_ | refine strEq ?_ | refine psEq ?_ | refine nilEq ?_ | refine arrEq ?_); (try simp only [Int.toNat_natCast, etas, elDef]); first | done | omega | grind | (simp only [*]; done) | (simp [*]; done)))); (all_goals (conv => whnf)); (repeat' (first | exact trivial | rfl | (refine nilEq ?_; first | rfl | (simp only [*]; done) | (simp [*]; done) | grind) | apply And.intro | ((first | refine intEq ?_ | refine boolEq ?_ | refine strEq ?_ | refine psEq ?_ | refine nilEq ?_ | refine arrEq ?_); (try simp only [Int.toNat_natCast, etas, elDef]); first | done | omega | grind | (simp only [*]; done) | (simp [*]; done)) | ((try simp only [Int.toNat_natCast, etas, elDef]); first | done | omega | grind | (simp only [*]; done) | (simp [*]; done))))
  rintro i ⟨hi, hj⟩
  conv => whnf
  repeat' first
    | (refine Cnd.mk (fun h => ?_) (fun h => ?_) <;> (try simp [etas, elDef, -List.getD_eq_getElem?_getD] at h) <;> conv => whnf)
    | (refine Obl.mk (by first | omega | rfl | exact inK_byte _ | (simp only [inK, Int.toNat_natCast, etas, elDef] <;> first | omega | grind) | grind [inK]) ?_ <;> conv => whnf)
    | (refine OblG.mk (by conv => whnf
                          repeat (first | (refine Bx.mk ?_) | (intro h; (try simp [etas, elDef, -List.getD_eq_getElem?_getD] at h); conv => whnf))
                          first | omega | rfl | exact inK_byte _ | (simp only [inK, Int.toNat_natCast, etas, elDef] <;> first | omega | grind) | grind [inK]) ?_ <;> conv => whnf)
    | (refine Gd.mk (fun h => ?_) <;> (try simp [etas, elDef, -List.getD_eq_getElem?_getD] at h) <;> conv => whnf)
    | (refine And.intro ?_ ?_ <;> conv => whnf)
    | exact True.intro
    | (intro; conv => whnf)
  · have : itemOk s i = false := by grind [itemOk]
    exact leafB hK (by grind [storeM, itemsM_no])
  · have : itemOk s i = false := by grind [itemOk]
    exact leafB hK (by grind [storeM, itemsM_no])
  · have : itemOk s i = true := by grind [itemOk]
    exact ⟨i + 1, [], [], ⟨by omega, by grind⟩, by omega, by (conv => whnf); (repeat' (first | exact trivial | rfl | (refine nilEq ?_; first | rfl | (simp only [*]; done) | (simp [*]; done) | grind) | apply And.intro | ((first | refine intEq ?_ | refine boolEq ?_ | refine strEq ?_ | refine psEq ?_ | refine nilEq ?_ | refine arrEq ?_); (try simp only [Int.toNat_natCast, etas, elDef]); first | done | omega | grind | (simp only [*]; done) | (simp [*]; done)))); (all_goals (conv => whnf)); (repeat' (first | exact trivial | rfl | (refine nilEq ?_; first | rfl | (simp only [*]; done) | (simp [*]; done) | grind) | apply And.intro | ((first | refine intEq ?_ | refine boolEq ?_ | refine strEq ?_ | refine psEq ?_ | refine nilEq ?_ | refine arrEq ?_); (try simp only [Int.toNat_natCast, etas, elDef]); first | done | omega | grind | (simp only [*]; done) | (simp [*]; done)) | ((try simp only [Int.toNat_natCast, etas, elDef]); first | done | omega | grind | (simp only [*]; done) | (simp [*]; done)))), (by exact sgOk_of (by rfl))⟩
  · have : itemsM s = true := (itemsM_iff s).2 (by grind)
    exact leafB hK (by grind [storeM])
theorem s48 : (CtrOK Try.prog 48 (.pure F48) ∧ Callable Try.prog 48) := by
  refine pure_ok (E := E48) (mkE_cons s68 (mkE_cons s69 (mkE_nil tab_ok))) mix (O := O48) (F := F48) Try.func48 rfl (by rfl) (by kernel_rfl) (fun args o v h => ?_) (fun args o v h => ?_) (fun args o v h hbd hp K hK => ?_)
  · unfold F48 at h; split at h <;> cases h; first | trivial | (simp [v48, Scalar, Scalar2, Scalar1, stC, ndC, itC, chC, nwC])
  · unfold F48 at h; split at h <;> cases h; exact Nat.le_of_ble_eq_true rfl
  · unfold F48 at h; split at h
    case h_2 => cases h
    cases h
    exact a48 ⟨_, _⟩ (by exact hbd) trivial K hK
noncomputable def v44 (c : Chg) : AV := .bool (changeM c)
noncomputable def o44 (c : Chg) : Prop := True
noncomputable def F44 : List AV → QR
  | [.st [.str c_0, .bool c_1, .int .i64 c_2_0, .int .i64 c_2_1, .str c_2_2, .ps .str c_2_3, .ps .node c_2_4]] => some (none, v44 ⟨c_0, c_1, ⟨c_2_0, c_2_1, c_2_2, c_2_3, c_2_4⟩⟩)
  | _ => none
noncomputable def E44 : Ctx := mkE tab [(61, .pure F61), (62, .pure F62)]
noncomputable def O44 : Nat → List DI := ordL []
theorem a44 (c : Chg) (hb : BdAs [.st (chC c)]) (ho : o44 c) (K : AV → List AV → Prop) (hK : K (v44 c) []) : abody E44 O44 .ps Try.f44 (Try.f44.body.getD .skip) [.st (chC c)] K := by
  simp only [BdAs, BdA, BdL, BdC, MX, ndC, shC, itC, stC, opC, chC, nwC, flC, rqC, rsC, enc, List.cons_append, List.nil_append, and_true, true_and] at hb
  unfold v44 at hK
  conv => whnf
  repeat' first
    | (refine Cnd.mk (fun h => ?_) (fun h => ?_) <;> (try simp [etas, elDef, -List.getD_eq_getElem?_getD] at h) <;> conv => whnf)
    | (refine Obl.mk (by first | omega | rfl | exact inK_byte _ | (simp only [inK, Int.toNat_natCast, etas, elDef] <;> first | omega | grind) | grind [inK]) ?_ <;> conv => whnf)
    | (refine OblG.mk (by conv => whnf
                          repeat (first | (refine Bx.mk ?_) | (intro h; (try simp [etas, elDef, -List.getD_eq_getElem?_getD] at h); conv => whnf))
                          first | omega | rfl | exact inK_byte _ | (simp only [inK, Int.toNat_natCast, etas, elDef] <;> first | omega | grind) | grind [inK]) ?_ <;> conv => whnf)
    | (refine Gd.mk (fun h => ?_) <;> (try simp [etas, elDef, -List.getD_eq_getElem?_getD] at h) <;> conv => whnf)
    | (refine And.intro ?_ ?_ <;> conv => whnf)
    | exact True.intro
    | (intro; conv => whnf)
  all_goals exact leafB hK (by simp only [changeM, nd_eta])
theorem s44 : (CtrOK Try.prog 44 (.pure F44) ∧ Callable Try.prog 44) := by
  refine pure_ok (E := E44) (mkE_cons s61 (mkE_cons s62 (mkE_nil tab_ok))) mix (O := O44) (F := F44) Try.func44 rfl (by rfl) (by kernel_rfl) (fun args o v h => ?_) (fun args o v h => ?_) (fun args o v h hbd hp K hK => ?_)
  · unfold F44 at h; split at h <;> cases h; first | trivial | (simp [v44, Scalar, Scalar2, Scalar1, stC, ndC, itC, chC, nwC])
  · unfold F44 at h; split at h <;> cases h; exact Nat.le_of_ble_eq_true rfl
  · unfold F44 at h; split at h
    case h_2 => cases h
    cases h
    exact a44 ⟨_, _, ⟨_, _, _, _, _⟩⟩ (by exact hbd) trivial K hK
noncomputable def v49 (c : Chg) : AV := .bool (changeM c)
noncomputable def o49 (c : Chg) : Prop := True
noncomputable def F49 : List AV → QR
  | [.st [.str c_0, .bool c_1, .int .i64 c_2_0, .int .i64 c_2_1, .str c_2_2, .ps .str c_2_3, .ps .node c_2_4]] => some (none, v49 ⟨c_0, c_1, ⟨c_2_0, c_2_1, c_2_2, c_2_3, c_2_4⟩⟩)
  | _ => none
noncomputable def E49 : Ctx := mkE tab [(68, .pure F68), (69, .pure F69)]
noncomputable def O49 : Nat → List DI := ordL []
theorem a49 (c : Chg) (hb : BdAs [.st (chC c)]) (ho : o49 c) (K : AV → List AV → Prop) (hK : K (v49 c) []) : abody E49 O49 .ps Try.f49 (Try.f49.body.getD .skip) [.st (chC c)] K := by
  simp only [BdAs, BdA, BdL, BdC, MX, ndC, shC, itC, stC, opC, chC, nwC, flC, rqC, rsC, enc, List.cons_append, List.nil_append, and_true, true_and] at hb
  unfold v49 at hK
  conv => whnf
  repeat' first
    | (refine Cnd.mk (fun h => ?_) (fun h => ?_) <;> (try simp [etas, elDef, -List.getD_eq_getElem?_getD] at h) <;> conv => whnf)
    | (refine Obl.mk (by first | omega | rfl | exact inK_byte _ | (simp only [inK, Int.toNat_natCast, etas, elDef] <;> first | omega | grind) | grind [inK]) ?_ <;> conv => whnf)
    | (refine OblG.mk (by conv => whnf
                          repeat (first | (refine Bx.mk ?_) | (intro h; (try simp [etas, elDef, -List.getD_eq_getElem?_getD] at h); conv => whnf))
                          first | omega | rfl | exact inK_byte _ | (simp only [inK, Int.toNat_natCast, etas, elDef] <;> first | omega | grind) | grind [inK]) ?_ <;> conv => whnf)
    | (refine Gd.mk (fun h => ?_) <;> (try simp [etas, elDef, -List.getD_eq_getElem?_getD] at h) <;> conv => whnf)
    | (refine And.intro ?_ ?_ <;> conv => whnf)
    | exact True.intro
    | (intro; conv => whnf)
  all_goals exact leafB hK (by simp only [changeM, nd_eta])
theorem s49 : (CtrOK Try.prog 49 (.pure F49) ∧ Callable Try.prog 49) := by
  refine pure_ok (E := E49) (mkE_cons s68 (mkE_cons s69 (mkE_nil tab_ok))) mix (O := O49) (F := F49) Try.func49 rfl (by rfl) (by kernel_rfl) (fun args o v h => ?_) (fun args o v h => ?_) (fun args o v h hbd hp K hK => ?_)
  · unfold F49 at h; split at h <;> cases h; first | trivial | (simp [v49, Scalar, Scalar2, Scalar1, stC, ndC, itC, chC, nwC])
  · unfold F49 at h; split at h <;> cases h; exact Nat.le_of_ble_eq_true rfl
  · unfold F49 at h; split at h
    case h_2 => cases h
    cases h
    exact a49 ⟨_, _, ⟨_, _, _, _, _⟩⟩ (by exact hbd) trivial K hK
end Go.Rs

