import Derived.Test.YtgmilpefnaadmaaDoorDG
import Derived.Test.YtgmilpefnaadmaaDoorME
set_option linter.all false
namespace Go.Rs
open Go.Proofs
set_option maxRecDepth 100000
set_option linter.unusedVariables false
set_option linter.unusedSimpArgs false
noncomputable def v53 (n : Nd) : AV := .bool (plainM n)
noncomputable def o53 (n : Nd) : Prop := True
noncomputable def m53 (n : Nd) : Nat := SizeOf.sizeOf n
noncomputable def F53 : List AV → QR
  | [.st [.int .i64 n_0, .int .i64 n_1, .str n_2, .ps .str n_3, .ps .node n_4]] => some (none, v53 ⟨n_0, n_1, n_2, n_3, n_4⟩)
  | _ => none
noncomputable def Fk53 (k : Nat) : List AV → QR
  | [.st [.int .i64 n_0, .int .i64 n_1, .str n_2, .ps .str n_3, .ps .node n_4]] => some (some (m53 ⟨n_0, n_1, n_2, n_3, n_4⟩ < k ∧ o53 ⟨n_0, n_1, n_2, n_3, n_4⟩), v53 ⟨n_0, n_1, n_2, n_3, n_4⟩)
  | _ => none
noncomputable def E53 (k : Nat) : Ctx := mkE tab [(53, .pure (Fk53 k))]
noncomputable def O53 : Nat → List DI := ordL []
theorem a53 (k : Nat) (n : Nd) (hm : m53 n < k + 1) (hb : BdAs [.st (ndC n)]) (ho : o53 n) (K : AV → List AV → Prop) (hK : K (v53 n) []) : abody (E53 k) O53 .ps Tryd.f53 (Tryd.f53.body.getD .skip) [.st (ndC n)] K := by
  simp only [BdAs, BdA, BdL, BdC, MX, ndC, shC, itC, stC, opC, chC, nwC, flC, rqC, rsC, enc, List.cons_append, List.nil_append, and_true, true_and] at hb
  unfold v53 at hK
  unfold m53 at hm
  have hkid := fun j (h : j < n.kids.length) => kid_size h
  conv => whnf
  refine aloop_intro Nat (fun k => k ≤ n.kids.length ∧ ∀ j, j < k → n.kind = 4 → plainK (n.kids.getD j default) = true) (fun k => n.kids.length - k) (fun k => [(3, .int .i64 k)]) (fun k => []) [1] 0 [] [] ?_ ?_ (by exact sgOk_of (by rfl)) ?_
  · first | (simp; done) | (simp; assumption)
  · (conv => whnf); (repeat' (first | exact trivial | rfl | (refine nilEq ?_; first | rfl | (simp only [*]; done) | (simp [*]; done) | grind) | apply And.intro | ((first | refine intEq ?_ | refine boolEq ?_ | refine strEq ?_ | refine psEq ?_ | refine nilEq ?_ | refine arrEq ?_); (try simp only [Int.toNat_natCast, etas, elDef]); first | done | omega | grind | (simp only [*]; done) | (simp [*]; done)))); (all_goals (conv => whnf)); (repeat' (first | exact trivial | rfl | (refine nilEq ?_; first | rfl | (simp only [*]; done) | (simp [*]; done) | grind) | apply And.intro | ((first | refine intEq ?_ | refine boolEq ?_ | refine strEq ?_ | refine psEq ?_ | refine nilEq ?_ | refine arrEq ?_); (try simp only [Int.toNat_natCast, etas, elDef]); first | done | omega | grind | (simp only [*]; done) | (simp [*]; done)) | ((try simp only [Int.toNat_natCast, etas, elDef]); first | done | omega | grind | (simp only [*]; done) | (simp [*]; done))))
  rintro i ⟨hi, hj⟩
  conv => whnf
  have hki := hkid i
  repeat' first
    | (refine Cnd.mk (fun h => ?_) (fun h => ?_) <;> (try simp [etas, elDef, -List.getD_eq_getElem?_getD] at h) <;> conv => whnf)
    | (refine Obl.mk (by first | omega | rfl | exact inK_byte _ | (simp only [inK, Int.toNat_natCast, etas, elDef, m53, o53, m53] <;> first | omega | grind) | grind [inK, m53, o53, m53]) ?_ <;> conv => whnf)
    | (refine OblG.mk (by conv => whnf
                          repeat (first | (refine Bx.mk ?_) | (intro h; (try simp [etas, elDef, -List.getD_eq_getElem?_getD] at h); conv => whnf))
                          first | omega | rfl | exact inK_byte _ | (simp only [inK, Int.toNat_natCast, etas, elDef, m53, o53, m53] <;> first | omega | grind) | grind [inK, m53, o53, m53]) ?_ <;> conv => whnf)
    | (refine Gd.mk (fun h => ?_) <;> (try simp [etas, elDef, -List.getD_eq_getElem?_getD] at h) <;> conv => whnf)
    | (refine And.intro ?_ ?_ <;> conv => whnf)
    | exact True.intro
    | (intro; conv => whnf)
  · rename_i hi9
    have hk4 : n.kind = 4 := h.elim (fun h => h.1) fun h => h.1
    exact leafB hK (plain_no hk4 hi9 (plainK_no (h.imp (fun h => of_decide_eq_true h.2) fun h => h.2)))
  · rename_i hi9
    exact ⟨i + 1, [], [], ⟨by omega, fun j hj9 hk4 => (Nat.lt_or_eq_of_le (Nat.le_of_lt_succ hj9)).elim (fun h2 => hj j h2 hk4) fun e => by rw [e]; exact plainK_iff.2 ⟨of_decide_eq_false (h.1 hk4), h.2 hk4⟩⟩, by omega, by (conv => whnf); (repeat' (first | exact trivial | rfl | (refine nilEq ?_; first | rfl | (simp only [*]; done) | (simp [*]; done) | grind) | apply And.intro | ((first | refine intEq ?_ | refine boolEq ?_ | refine strEq ?_ | refine psEq ?_ | refine nilEq ?_ | refine arrEq ?_); (try simp only [Int.toNat_natCast, etas, elDef]); first | done | omega | grind | (simp only [*]; done) | (simp [*]; done)))); (all_goals (conv => whnf)); (repeat' (first | exact trivial | rfl | (refine nilEq ?_; first | rfl | (simp only [*]; done) | (simp [*]; done) | grind) | apply And.intro | ((first | refine intEq ?_ | refine boolEq ?_ | refine strEq ?_ | refine psEq ?_ | refine nilEq ?_ | refine arrEq ?_); (try simp only [Int.toNat_natCast, etas, elDef]); first | done | omega | grind | (simp only [*]; done) | (simp [*]; done)) | ((try simp only [Int.toNat_natCast, etas, elDef]); first | done | omega | grind | (simp only [*]; done) | (simp [*]; done)))), (by exact sgOk_of (by rfl))⟩
  · refine leafB hK ?_
    by_cases hk4 : n.kind = 4
    · exact (plain_get hk4).2 fun j hj9 => hj j (by omega) hk4
    · exact plain_leaf hk4
theorem r53 : ∀ k, (CtrOK Tryd.prog 53 (.pure (Fk53 k)) ∧ Callable Tryd.prog 53) := by
  intro k
  induction k with
  | zero =>
    exact ⟨⟨fun args o v h => by unfold Fk53 at h; split at h <;> cases h; first | trivial | (simp [v53, Scalar, Scalar2, Scalar1, stC, ndC, itC, chC, nwC]), fun args K h => by
        unfold pureC Fk53 at h; split at h
        · rename_i h1; split at h1 <;> cases h1; exact absurd (h.1 _ rfl).1 (Nat.not_lt_zero _)
        · exact h.elim⟩, callable Tryd.func53 rfl (by rfl)⟩
  | succ k ih =>
    refine pure_ok (E := E53 k) (mkE_cons ih (mkE_nil tab_ok)) mix (O := O53) (F := (Fk53 (k + 1))) Tryd.func53 rfl (by rfl) (by kernel_rfl) (fun args o v h => ?_) (fun args o v h => ?_) (fun args o v h hbd hp K hK => ?_)
    · unfold Fk53 at h; split at h <;> cases h; first | trivial | (simp [v53, Scalar, Scalar2, Scalar1, stC, ndC, itC, chC, nwC])
    · unfold Fk53 at h; split at h <;> cases h; exact Nat.le_of_ble_eq_true rfl
    · unfold Fk53 at h; split at h
      case h_2 => cases h
      cases h
      exact a53 k ⟨_, _, _, _, _⟩ (hp _ rfl).1 (by exact hbd) (hp _ rfl).2 K hK
theorem s53 : (CtrOK Tryd.prog 53 (.pure F53) ∧ Callable Tryd.prog 53) := by
  refine ⟨⟨fun args o v h => ?_, fun args K h => ?_⟩, (r53 0).2⟩
  · unfold F53 at h; split at h <;> cases h; first | trivial | (simp [v53, Scalar, Scalar2, Scalar1, stC, ndC, itC, chC, nwC])
  · unfold pureC F53 at h; split at h
    · rename_i h1; split at h1 <;> cases h1
      exact (r53 (m53 ⟨_, _, _, _, _⟩ + 1)).1.2 _ K ⟨fun p hp => by cases hp; exact ⟨Nat.lt_succ_self _, trivial⟩, h.2⟩
    · exact h.elim
noncomputable def v77 (n : Nd) : AV := .bool (plainM n)
noncomputable def o77 (n : Nd) : Prop := True
noncomputable def m77 (n : Nd) : Nat := SizeOf.sizeOf n
noncomputable def F77 : List AV → QR
  | [.st [.int .i64 n_0, .int .i64 n_1, .str n_2, .ps .str n_3, .ps .node n_4]] => some (none, v77 ⟨n_0, n_1, n_2, n_3, n_4⟩)
  | _ => none
noncomputable def Fk77 (k : Nat) : List AV → QR
  | [.st [.int .i64 n_0, .int .i64 n_1, .str n_2, .ps .str n_3, .ps .node n_4]] => some (some (m77 ⟨n_0, n_1, n_2, n_3, n_4⟩ < k ∧ o77 ⟨n_0, n_1, n_2, n_3, n_4⟩), v77 ⟨n_0, n_1, n_2, n_3, n_4⟩)
  | _ => none
noncomputable def E77 (k : Nat) : Ctx := mkE tab [(77, .pure (Fk77 k))]
noncomputable def O77 : Nat → List DI := ordL []
theorem a77 (k : Nat) (n : Nd) (hm : m77 n < k + 1) (hb : BdAs [.st (ndC n)]) (ho : o77 n) (K : AV → List AV → Prop) (hK : K (v77 n) []) : abody (E77 k) O77 .ps Tryd.f77 (Tryd.f77.body.getD .skip) [.st (ndC n)] K := by
  simp only [BdAs, BdA, BdL, BdC, MX, ndC, shC, itC, stC, opC, chC, nwC, flC, rqC, rsC, enc, List.cons_append, List.nil_append, and_true, true_and] at hb
  unfold v77 at hK
  unfold m77 at hm
  have hkid := fun j (h : j < n.kids.length) => kid_size h
  conv => whnf
  repeat' first
    | (refine Cnd.mk (fun h => ?_) (fun h => ?_) <;> (try simp [etas, elDef, -List.getD_eq_getElem?_getD] at h) <;> conv => whnf)
    | (refine Obl.mk (by first | omega | rfl | exact inK_byte _ | (simp only [inK, Int.toNat_natCast, etas, elDef, m77, o77, m77] <;> first | omega | grind) | grind [inK, m77, o77, m77]) ?_ <;> conv => whnf)
    | (refine OblG.mk (by conv => whnf
                          repeat (first | (refine Bx.mk ?_) | (intro h; (try simp [etas, elDef, -List.getD_eq_getElem?_getD] at h); conv => whnf))
                          first | omega | rfl | exact inK_byte _ | (simp only [inK, Int.toNat_natCast, etas, elDef, m77, o77, m77] <;> first | omega | grind) | grind [inK, m77, o77, m77]) ?_ <;> conv => whnf)
    | (refine Gd.mk (fun h => ?_) <;> (try simp [etas, elDef, -List.getD_eq_getElem?_getD] at h) <;> conv => whnf)
    | (refine And.intro ?_ ?_ <;> conv => whnf)
    | exact True.intro
    | (intro; conv => whnf)
  · exact leafB hK (plain_leaf h)
  refine aloop_intro Nat (fun k => k ≤ n.kids.length ∧ ∀ j, j < k → plainK (n.kids.getD j default) = true) (fun k => n.kids.length - k) (fun k => [(11, .int .i64 k)]) (fun k => []) [1] 0 [] [] ?_ ?_ (by exact sgOk_of (by rfl)) ?_
  · first | (simp; done) | (simp; assumption)
  · (conv => whnf); (repeat' (first | exact trivial | rfl | (refine nilEq ?_; first | rfl | (simp only [*]; done) | (simp [*]; done) | grind) | apply And.intro | ((first | refine intEq ?_ | refine boolEq ?_ | refine strEq ?_ | refine psEq ?_ | refine nilEq ?_ | refine arrEq ?_); (try simp only [Int.toNat_natCast, etas, elDef]); first | done | omega | grind | (simp only [*]; done) | (simp [*]; done)))); (all_goals (conv => whnf)); (repeat' (first | exact trivial | rfl | (refine nilEq ?_; first | rfl | (simp only [*]; done) | (simp [*]; done) | grind) | apply And.intro | ((first | refine intEq ?_ | refine boolEq ?_ | refine strEq ?_ | refine psEq ?_ | refine nilEq ?_ | refine arrEq ?_); (try simp only [Int.toNat_natCast, etas, elDef]); first | done | omega | grind | (simp only [*]; done) | (simp [*]; done)) | ((try simp only [Int.toNat_natCast, etas, elDef]); first | done | omega | grind | (simp only [*]; done) | (simp [*]; done))))
  rintro i ⟨hi, hj⟩
  conv => whnf
  have hki := hkid i
  repeat' first
    | (refine Cnd.mk (fun h => ?_) (fun h => ?_) <;> (try simp [etas, elDef, -List.getD_eq_getElem?_getD] at h) <;> conv => whnf)
    | (refine Obl.mk (by first | omega | rfl | exact inK_byte _ | (simp only [inK, Int.toNat_natCast, etas, elDef, m77, o77, m77] <;> first | omega | grind) | grind [inK, m77, o77, m77]) ?_ <;> conv => whnf)
    | (refine OblG.mk (by conv => whnf
                          repeat (first | (refine Bx.mk ?_) | (intro h; (try simp [etas, elDef, -List.getD_eq_getElem?_getD] at h); conv => whnf))
                          first | omega | rfl | exact inK_byte _ | (simp only [inK, Int.toNat_natCast, etas, elDef, m77, o77, m77] <;> first | omega | grind) | grind [inK, m77, o77, m77]) ?_ <;> conv => whnf)
    | (refine Gd.mk (fun h => ?_) <;> (try simp [etas, elDef, -List.getD_eq_getElem?_getD] at h) <;> conv => whnf)
    | (refine And.intro ?_ ?_ <;> conv => whnf)
    | exact True.intro
    | (intro; conv => whnf)
  · rename_i hi9
    exact leafB hK (plain_no (by assumption) hi9 (plainK_no (h.imp of_decide_eq_true id)))
  · rename_i hi9
    exact ⟨i + 1, [], [], ⟨by omega, fun j hj9 => (Nat.lt_or_eq_of_le (Nat.le_of_lt_succ hj9)).elim (fun h2 => hj j h2) fun e => by rw [e]; exact plainK_iff.2 ⟨of_decide_eq_false h.1, h.2⟩⟩, by omega, by (conv => whnf); (repeat' (first | exact trivial | rfl | (refine nilEq ?_; first | rfl | (simp only [*]; done) | (simp [*]; done) | grind) | apply And.intro | ((first | refine intEq ?_ | refine boolEq ?_ | refine strEq ?_ | refine psEq ?_ | refine nilEq ?_ | refine arrEq ?_); (try simp only [Int.toNat_natCast, etas, elDef]); first | done | omega | grind | (simp only [*]; done) | (simp [*]; done)))); (all_goals (conv => whnf)); (repeat' (first | exact trivial | rfl | (refine nilEq ?_; first | rfl | (simp only [*]; done) | (simp [*]; done) | grind) | apply And.intro | ((first | refine intEq ?_ | refine boolEq ?_ | refine strEq ?_ | refine psEq ?_ | refine nilEq ?_ | refine arrEq ?_); (try simp only [Int.toNat_natCast, etas, elDef]); first | done | omega | grind | (simp only [*]; done) | (simp [*]; done)) | ((try simp only [Int.toNat_natCast, etas, elDef]); first | done | omega | grind | (simp only [*]; done) | (simp [*]; done)))), (by exact sgOk_of (by rfl))⟩
  · exact leafB hK ((plain_get (by assumption)).2 fun j hj9 => hj j (by omega))
theorem r77 : ∀ k, (CtrOK Tryd.prog 77 (.pure (Fk77 k)) ∧ Callable Tryd.prog 77) := by
  intro k
  induction k with
  | zero =>
    exact ⟨⟨fun args o v h => by unfold Fk77 at h; split at h <;> cases h; first | trivial | (simp [v77, Scalar, Scalar2, Scalar1, stC, ndC, itC, chC, nwC]), fun args K h => by
        unfold pureC Fk77 at h; split at h
        · rename_i h1; split at h1 <;> cases h1; exact absurd (h.1 _ rfl).1 (Nat.not_lt_zero _)
        · exact h.elim⟩, callable Tryd.func77 rfl (by rfl)⟩
  | succ k ih =>
    refine pure_ok (E := E77 k) (mkE_cons ih (mkE_nil tab_ok)) mix (O := O77) (F := (Fk77 (k + 1))) Tryd.func77 rfl (by rfl) (by kernel_rfl) (fun args o v h => ?_) (fun args o v h => ?_) (fun args o v h hbd hp K hK => ?_)
    · unfold Fk77 at h; split at h <;> cases h; first | trivial | (simp [v77, Scalar, Scalar2, Scalar1, stC, ndC, itC, chC, nwC])
    · unfold Fk77 at h; split at h <;> cases h; exact Nat.le_of_ble_eq_true rfl
    · unfold Fk77 at h; split at h
      case h_2 => cases h
      cases h
      exact a77 k ⟨_, _, _, _, _⟩ (hp _ rfl).1 (by exact hbd) (hp _ rfl).2 K hK
theorem s77 : (CtrOK Tryd.prog 77 (.pure F77) ∧ Callable Tryd.prog 77) := by
  refine ⟨⟨fun args o v h => ?_, fun args K h => ?_⟩, (r77 0).2⟩
  · unfold F77 at h; split at h <;> cases h; first | trivial | (simp [v77, Scalar, Scalar2, Scalar1, stC, ndC, itC, chC, nwC])
  · unfold pureC F77 at h; split at h
    · rename_i h1; split at h1 <;> cases h1
      exact (r77 (m77 ⟨_, _, _, _, _⟩ + 1)).1.2 _ K ⟨fun p hp => by cases hp; exact ⟨Nat.lt_succ_self _, trivial⟩, h.2⟩
    · exact h.elim
noncomputable def v51 (n : Nd) : AV := .bool (validM n && plainM n)
noncomputable def o51 (n : Nd) : Prop := True
noncomputable def F51 : List AV → QR
  | [.st [.int .i64 n_0, .int .i64 n_1, .str n_2, .ps .str n_3, .ps .node n_4]] => some (none, v51 ⟨n_0, n_1, n_2, n_3, n_4⟩)
  | _ => none
noncomputable def E51 : Ctx := mkE tab [(19, .pure F19), (77, .pure F77)]
noncomputable def O51 : Nat → List DI := ordL []
theorem a51 (n : Nd) (hb : BdAs [.st (ndC n)]) (ho : o51 n) (K : AV → List AV → Prop) (hK : K (v51 n) []) : abody E51 O51 .ps Tryd.f51 (Tryd.f51.body.getD .skip) [.st (ndC n)] K := by
  simp only [BdAs, BdA, BdL, BdC, MX, ndC, shC, itC, stC, opC, chC, nwC, flC, rqC, rsC, enc, List.cons_append, List.nil_append, and_true, true_and] at hb
  unfold v51 at hK
  conv => whnf
  repeat' first
    | (refine Cnd.mk (fun h => ?_) (fun h => ?_) <;> (try simp [etas, elDef, -List.getD_eq_getElem?_getD] at h) <;> conv => whnf)
    | (refine Obl.mk (by first | omega | rfl | exact inK_byte _ | (simp only [inK, Int.toNat_natCast, etas, elDef, o77, m77] <;> first | omega | grind) | grind [inK, o77, m77]) ?_ <;> conv => whnf)
    | (refine OblG.mk (by conv => whnf
                          repeat (first | (refine Bx.mk ?_) | (intro h; (try simp [etas, elDef, -List.getD_eq_getElem?_getD] at h); conv => whnf))
                          first | omega | rfl | exact inK_byte _ | (simp only [inK, Int.toNat_natCast, etas, elDef, o77, m77] <;> first | omega | grind) | grind [inK, o77, m77]) ?_ <;> conv => whnf)
    | (refine Gd.mk (fun h => ?_) <;> (try simp [etas, elDef, -List.getD_eq_getElem?_getD] at h) <;> conv => whnf)
    | (refine And.intro ?_ ?_ <;> conv => whnf)
    | exact True.intro
    | (intro; conv => whnf)
  exact leafB hK (by simp only [nd_eta])
theorem s51 : (CtrOK Tryd.prog 51 (.pure F51) ∧ Callable Tryd.prog 51) := by
  refine pure_ok (E := E51) (mkE_cons s19 (mkE_cons s77 (mkE_nil tab_ok))) mix (O := O51) (F := F51) Tryd.func51 rfl (by rfl) (by kernel_rfl) (fun args o v h => ?_) (fun args o v h => ?_) (fun args o v h hbd hp K hK => ?_)
  · unfold F51 at h; split at h <;> cases h; first | trivial | (simp [v51, Scalar, Scalar2, Scalar1, stC, ndC, itC, chC, nwC])
  · unfold F51 at h; split at h <;> cases h; exact Nat.le_of_ble_eq_true rfl
  · unfold F51 at h; split at h
    case h_2 => cases h
    cases h
    exact a51 ⟨_, _, _, _, _⟩ (by exact hbd) trivial K hK
def loN (f : Bool) (l : List It) : List (Nat × LC) := match f with
  | true => [(5, .box [.int .i64 4, .int .i64 0, .str [], .nils .str, .nils .node])]
  | false => [(5, .box [.int .i64 4, .int .i64 0, .str [], .ls 902, .ls 903]), (902, .arr .str (l.map (·.name))), (903, .arr .node (l.map (·.node)))]
noncomputable def c52 (a : Nd) (b : Nd) (K : AV → List AV → Prop) : Prop :=
    Obl (okN a ∧ okN b) (K (.st (ndC (patM a b))) [])
noncomputable def m52 (a : Nd) (b : Nd) : Nat := SizeOf.sizeOf a
noncomputable def C52 : List AV → (AV → List AV → Prop) → Prop
  | [.st [.int .i64 a_0, .int .i64 a_1, .str a_2, .ps .str a_3, .ps .node a_4], .st [.int .i64 b_0, .int .i64 b_1, .str b_2, .ps .str b_3, .ps .node b_4]], K => c52 ⟨a_0, a_1, a_2, a_3, a_4⟩ ⟨b_0, b_1, b_2, b_3, b_4⟩ K
  | _, _ => False
noncomputable def Ck52 (k : Nat) : List AV → (AV → List AV → Prop) → Prop
  | [.st [.int .i64 a_0, .int .i64 a_1, .str a_2, .ps .str a_3, .ps .node a_4], .st [.int .i64 b_0, .int .i64 b_1, .str b_2, .ps .str b_3, .ps .node b_4]], K => Obl (m52 ⟨a_0, a_1, a_2, a_3, a_4⟩ ⟨b_0, b_1, b_2, b_3, b_4⟩ < k) (c52 ⟨a_0, a_1, a_2, a_3, a_4⟩ ⟨b_0, b_1, b_2, b_3, b_4⟩ K)
  | _, _ => False
noncomputable def E52 (k : Nat) : Ctx := mkE tab [(28, .gen .ow C28), (52, .gen .ps (Ck52 k)), (56, .pure F56), (64, .gen .ps C64), (78, .pure F78)]
noncomputable def O52 : Nat → List DI := ordL [(10, [.q 0, .q 1, .q 2, .q 3, .q 4, .q 5, .q 6, .q 7, .q 8, .q 9, .q 10, .q 11, .q 12]), (11, [.q 0, .q 1, .q 2, .q 3, .q 4, .q 5, .q 6, .q 7, .q 8, .q 9, .q 10, .l 11 [], .l 12 []])]
theorem a52 (k : Nat) (a : Nd) (b : Nd) (hm : m52 a b < k + 1) (hb : BdAs [.st (ndC a), .st (ndC b)]) (K : AV → List AV → Prop) (h : c52 a b K) : abody (E52 k) O52 .ps Tryd.f52 (Tryd.f52.body.getD .skip) [.st (ndC a), .st (ndC b)] K := by
  simp only [BdAs, BdA, BdL, BdC, MX, ndC, shC, itC, stC, opC, chC, nwC, flC, rqC, rsC, enc, List.cons_append, List.nil_append, and_true, true_and] at hb
  unfold c52 at h
  unfold m52 at hm
  obtain ⟨⟨ha, hb⟩, hK⟩ := h
  have hsb := hb.sm
  have hme := patM_eq a b
  conv => whnf
  repeat' first
    | (refine Cnd.mk (fun h => ?_) (fun h => ?_) <;> (try simp [etas, elDef, -List.getD_eq_getElem?_getD] at h) <;> conv => whnf)
    | (refine Obl.mk (by first | omega | rfl | exact inK_byte _ | (simp only [inK, Int.toNat_natCast, etas, elDef, m52, m28, m52, o56, o78] <;> first | omega | grind) | grind [inK, m52, m28, m52, o56, o78]) ?_ <;> conv => whnf)
    | (refine OblG.mk (by conv => whnf
                          repeat (first | (refine Bx.mk ?_) | (intro h; (try simp [etas, elDef, -List.getD_eq_getElem?_getD] at h); conv => whnf))
                          first | omega | rfl | exact inK_byte _ | (simp only [inK, Int.toNat_natCast, etas, elDef, m52, m28, m52, o56, o78] <;> first | omega | grind) | grind [inK, m52, m28, m52, o56, o78]) ?_ <;> conv => whnf)
    | (refine Gd.mk (fun h => ?_) <;> (try simp [etas, elDef, -List.getD_eq_getElem?_getD] at h) <;> conv => whnf)
    | (refine And.intro ?_ ?_ <;> conv => whnf)
    | exact True.intro
    | (intro; conv => whnf)
  · rw [hme, if_neg (by omega)] at hK
    exact leafV hK rfl
  have hla := (okN_names ha).2.1 h.1
  have hlb := (okN_names hb).2.1 h.2
  have hk1 := h.1
  have hk2 := h.2
  have h6 := (okN_names ha).1
  have h7 := (okN_names hb).1
  replace hme := patM_map ha hk1 hk2
  clear h
  refine aloop_intro (Nat × Bool) (fun q => q.1 ≤ a.names.length ∧ (q.2 = true → accA a b q.1 = [])) (fun q => a.names.length - q.1) (fun q => [(28, .int .i64 q.1)]) (fun q => loM q.2 (accA a b q.1)) [2, 3, 4] (0, true) [] [] ⟨Nat.zero_le _, fun _ => accA_zero a b⟩ ?_ (by exact sgOk_of (by rfl)) ?_
  · (conv => whnf); (repeat' (first | exact trivial | rfl | (refine nilEq ?_; first | rfl | (simp only [*]; done) | (simp [*]; done) | grind) | apply And.intro | ((first | refine intEq ?_ | refine boolEq ?_ | refine strEq ?_ | refine psEq ?_ | refine nilEq ?_ | refine arrEq ?_); (try simp only [Int.toNat_natCast, etas, elDef]); first | done | omega | grind | (simp only [*]; done) | (simp [*]; done)))); (all_goals (conv => whnf)); (repeat' (first | exact trivial | rfl | (refine nilEq ?_; first | rfl | (simp only [*]; done) | (simp [*]; done) | grind) | apply And.intro | ((first | refine intEq ?_ | refine boolEq ?_ | refine strEq ?_ | refine psEq ?_ | refine nilEq ?_ | refine arrEq ?_); (try simp only [Int.toNat_natCast, etas, elDef]); first | done | omega | grind | (simp only [*]; done) | (simp [*]; done)) | ((try simp only [Int.toNat_natCast, etas, elDef]); first | done | omega | grind | (simp only [*]; done) | (simp [*]; done))))
  rintro ⟨i, _ | _⟩ ⟨hi, hj⟩
  · dsimp only at hi hj
    have hf := accA_facts (a := a) (b := b) (i := i) hi (by omega)
    have hkm := kid_map (b := a.names.getD i []) hb hk2
    have hflt := fun h => found_lt (ns := b.names) (b := a.names.getD i []) h
    have hsb2 := okN_sorted hb hk2
    have hkoA := fun (h : i < a.kids.length) => okN_kid ha h
    have hkoB := fun (h : lbI (nmI b.names) (a.names.getD i []) < b.kids.length) => okN_kid hb h
    have hks := fun (h : i < a.kids.length) => kid_size h
    have hsu := fun (h : i < a.names.length) => accA_succ (b := b) h (show i < a.kids.length by omega)
    have ez := zip_back hf.2.1
    have hso := sorted_nm.2 hf.1
    have hl1 : ((accA a b i).map (·.name)).length = ((accA a b i).map (·.node)).length := by simp
    have hl2 : ((accA a b i).map (·.name)).length ≤ 100000 := by simp; omega
    conv => whnf
    repeat' first
      | (refine Cnd.mk (fun h => ?_) (fun h => ?_) <;> (try simp [etas, elDef, -List.getD_eq_getElem?_getD] at h) <;> conv => whnf)
      | (refine Obl.mk (by first | omega | rfl | exact inK_byte _ | (simp only [inK, Int.toNat_natCast, etas, elDef, m52, m28, m52, o56, o78] <;> first | omega | grind) | grind [inK, m52, m28, m52, o56, o78]) ?_ <;> conv => whnf)
      | (refine OblG.mk (by conv => whnf
                            repeat (first | (refine Bx.mk ?_) | (intro h; (try simp [etas, elDef, -List.getD_eq_getElem?_getD] at h); conv => whnf))
                            first | omega | rfl | exact inK_byte _ | (simp only [inK, Int.toNat_natCast, etas, elDef, m52, m28, m52, o56, o78] <;> first | omega | grind) | grind [inK, m52, m28, m52, o56, o78]) ?_ <;> conv => whnf)
      | (refine Gd.mk (fun h => ?_) <;> (try simp [etas, elDef, -List.getD_eq_getElem?_getD] at h) <;> conv => whnf)
      | (refine And.intro ?_ ?_ <;> conv => whnf)
      | exact True.intro
      | (intro; conv => whnf)
    · rename_i h1
      have h2 : placeM b (a.names.getD i []) < 0 := by have := hkm.1; rw [h] at this; simpa using this
      have e9 : accA a b (i + 1) = putL (accA a b i) ⟨a.names.getD i [], 0, ⟨0, 0, [], [], []⟩⟩ := by rw [hsu h1]; unfold stepP; rw [if_pos h2]; rfl
      exact ⟨(i + 1, false), [(900, 46000), (901, 46001)], [], ⟨by omega, fun h => by cases h⟩, by show a.names.length - (i + 1) < a.names.length - i; omega, by (conv => whnf); (repeat' (first | exact trivial | rfl | (refine nilEq ?_; first | rfl | (simp only [*]; done) | (simp [*]; done) | grind) | apply And.intro | ((first | refine intEq ?_ | refine boolEq ?_ | refine strEq ?_ | refine psEq ?_ | refine nilEq ?_ | refine arrEq ?_); (try simp only [Int.toNat_natCast, etas, elDef]); first | done | omega | (simp only [e9, ez])))); (all_goals (conv => whnf)); (repeat' (first | exact trivial | rfl | (refine nilEq ?_; first | rfl | (simp only [*]; done) | (simp [*]; done) | grind) | apply And.intro | ((first | refine intEq ?_ | refine boolEq ?_ | refine strEq ?_ | refine psEq ?_ | refine nilEq ?_ | refine arrEq ?_); (try simp only [Int.toNat_natCast, etas, elDef]); first | done | omega | (simp only [e9, ez])) | ((try simp only [Int.toNat_natCast, etas, elDef]); first | done | omega | (simp only [e9, ez])))), (by exact sgOk_of (by rfl))⟩
    · rename_i h1 h2
      have h3 := hkm.2 h2
      have e9 : accA a b (i + 1) = putL (accA a b i) ⟨a.names.getD i [], 0, patM (a.kids.getD i default) (b.kids.getD (lbI (nmI b.names) (a.names.getD i [])) default)⟩ := by rw [hsu h1]; unfold stepP; rw [if_neg (by omega), h3, Int.toNat_natCast, if_neg h]
      exact ⟨(i + 1, false), [(900, 72000), (901, 72001)], [], ⟨by omega, fun h => by cases h⟩, by show a.names.length - (i + 1) < a.names.length - i; omega, by (conv => whnf); (repeat' (first | exact trivial | rfl | (refine nilEq ?_; first | rfl | (simp only [*]; done) | (simp [*]; done) | grind) | apply And.intro | ((first | refine intEq ?_ | refine boolEq ?_ | refine strEq ?_ | refine psEq ?_ | refine nilEq ?_ | refine arrEq ?_); (try simp only [Int.toNat_natCast, etas, elDef]); first | done | omega | (simp only [e9, ez])))); (all_goals (conv => whnf)); (repeat' (first | exact trivial | rfl | (refine nilEq ?_; first | rfl | (simp only [*]; done) | (simp [*]; done) | grind) | apply And.intro | ((first | refine intEq ?_ | refine boolEq ?_ | refine strEq ?_ | refine psEq ?_ | refine nilEq ?_ | refine arrEq ?_); (try simp only [Int.toNat_natCast, etas, elDef]); first | done | omega | (simp only [e9, ez])) | ((try simp only [Int.toNat_natCast, etas, elDef]); first | done | omega | (simp only [e9, ez])))), (by exact sgOk_of (by rfl))⟩
    · rename_i h1 h2
      have h3 := hkm.2 h2
      have e9 : accA a b (i + 1) = (accA a b i) := by rw [hsu h1]; unfold stepP; rw [if_neg (by omega), h3, Int.toNat_natCast, if_pos h]
      exact ⟨(i + 1, false), [], [], ⟨by omega, fun h => by cases h⟩, by show a.names.length - (i + 1) < a.names.length - i; omega, by (conv => whnf); (repeat' (first | exact trivial | rfl | (refine nilEq ?_; first | rfl | (simp only [*]; done) | (simp [*]; done) | grind) | apply And.intro | ((first | refine intEq ?_ | refine boolEq ?_ | refine strEq ?_ | refine psEq ?_ | refine nilEq ?_ | refine arrEq ?_); (try simp only [Int.toNat_natCast, etas, elDef]); first | done | omega | (simp only [e9])))); (all_goals (conv => whnf)); (repeat' (first | exact trivial | rfl | (refine nilEq ?_; first | rfl | (simp only [*]; done) | (simp [*]; done) | grind) | apply And.intro | ((first | refine intEq ?_ | refine boolEq ?_ | refine strEq ?_ | refine psEq ?_ | refine nilEq ?_ | refine arrEq ?_); (try simp only [Int.toNat_natCast, etas, elDef]); first | done | omega | (simp only [e9])) | ((try simp only [Int.toNat_natCast, etas, elDef]); first | done | omega | (simp only [e9])))), (by exact sgOk_of (by rfl))⟩
    have hall : accA a b a.names.length = accA a b i := by rw [show a.names.length = i by omega]
    refine aloop_intro (Nat × Bool) (fun q => q.1 ≤ b.names.length ∧ (q.2 = true → accB a b q.1 = [])) (fun q => b.names.length - q.1) (fun q => [(76, .int .i64 q.1)]) (fun q => loN q.2 (accB a b q.1)) [2, 3, 4] (0, false) [(902, 900), (903, 901)] [] ⟨Nat.zero_le _, fun h => by cases h⟩ ?_ (by exact sgOk_of (by rfl)) ?_
    · (conv => whnf); (repeat' (first | exact trivial | rfl | (refine nilEq ?_; first | rfl | (simp only [*]; done) | (simp [*]; done) | grind) | apply And.intro | ((first | refine intEq ?_ | refine boolEq ?_ | refine strEq ?_ | refine psEq ?_ | refine nilEq ?_ | refine arrEq ?_); (try simp only [Int.toNat_natCast, etas, elDef]); first | done | omega | (simp only [accB_zero, hall])))); (all_goals (conv => whnf)); (repeat' (first | exact trivial | rfl | (refine nilEq ?_; first | rfl | (simp only [*]; done) | (simp [*]; done) | grind) | apply And.intro | ((first | refine intEq ?_ | refine boolEq ?_ | refine strEq ?_ | refine psEq ?_ | refine nilEq ?_ | refine arrEq ?_); (try simp only [Int.toNat_natCast, etas, elDef]); first | done | omega | (simp only [accB_zero, hall])) | ((try simp only [Int.toNat_natCast, etas, elDef]); first | done | omega | (simp only [accB_zero, hall]))))
    rintro ⟨j, _ | _⟩ ⟨hj, hj9⟩
    · dsimp only at hj hj9
      have hf := accB_facts (b := b) hla j
      have hkm := kid_map (b := b.names.getD j []) ha hk1
      have hsa2 := okN_sorted ha hk1
      have hkoB := fun (h : j < b.kids.length) => (okN_kid hb h).sm
      have hsu := accB_succ a b j
      have ez := zip_back hf.2.1
      have hso := sorted_nm.2 hf.1
      have hl1 : ((accB a b j).map (·.name)).length = ((accB a b j).map (·.node)).length := by simp
      have hl2 : ((accB a b j).map (·.name)).length ≤ 100000 := by simp; omega
      conv => whnf
      repeat' first
        | (refine Cnd.mk (fun h => ?_) (fun h => ?_) <;> (try simp [etas, elDef, -List.getD_eq_getElem?_getD] at h) <;> conv => whnf)
        | (refine Obl.mk (by first | omega | rfl | exact inK_byte _ | (simp only [inK, Int.toNat_natCast, etas, elDef, m52, m28, m52, o56, o78] <;> first | omega | grind) | grind [inK, m52, m28, m52, o56, o78]) ?_ <;> conv => whnf)
        | (refine OblG.mk (by conv => whnf
                              repeat (first | (refine Bx.mk ?_) | (intro h; (try simp [etas, elDef, -List.getD_eq_getElem?_getD] at h); conv => whnf))
                              first | omega | rfl | exact inK_byte _ | (simp only [inK, Int.toNat_natCast, etas, elDef, m52, m28, m52, o56, o78] <;> first | omega | grind) | grind [inK, m52, m28, m52, o56, o78]) ?_ <;> conv => whnf)
        | (refine Gd.mk (fun h => ?_) <;> (try simp [etas, elDef, -List.getD_eq_getElem?_getD] at h) <;> conv => whnf)
        | (refine And.intro ?_ ?_ <;> conv => whnf)
        | exact True.intro
        | (intro; conv => whnf)
      · rename_i h1
        have h2 : placeM a (b.names.getD j []) < 0 := by have := hkm.1; rw [h] at this; simpa using this
        have e9 : accB a b (j + 1) = putL (accB a b j) ⟨b.names.getD j [], 0, b.kids.getD j default⟩ := by rw [hsu, if_pos h2]
        exact ⟨(j + 1, false), [(902, 98000), (903, 98001)], [], ⟨by omega, fun h => by cases h⟩, by show b.names.length - (j + 1) < b.names.length - j; omega, by (conv => whnf); (repeat' (first | exact trivial | rfl | (refine nilEq ?_; first | rfl | (simp only [*]; done) | (simp [*]; done) | grind) | apply And.intro | ((first | refine intEq ?_ | refine boolEq ?_ | refine strEq ?_ | refine psEq ?_ | refine nilEq ?_ | refine arrEq ?_); (try simp only [Int.toNat_natCast, etas, elDef]); first | done | omega | (simp only [e9, ez])))); (all_goals (conv => whnf)); (repeat' (first | exact trivial | rfl | (refine nilEq ?_; first | rfl | (simp only [*]; done) | (simp [*]; done) | grind) | apply And.intro | ((first | refine intEq ?_ | refine boolEq ?_ | refine strEq ?_ | refine psEq ?_ | refine nilEq ?_ | refine arrEq ?_); (try simp only [Int.toNat_natCast, etas, elDef]); first | done | omega | (simp only [e9, ez])) | ((try simp only [Int.toNat_natCast, etas, elDef]); first | done | omega | (simp only [e9, ez])))), (by exact sgOk_of (by rfl))⟩
      · rename_i h1
        have h2 := hkm.2 h
        have e9 : accB a b (j + 1) = (accB a b j) := by rw [hsu, if_neg (by omega)]
        exact ⟨(j + 1, false), [], [], ⟨by omega, fun h => by cases h⟩, by show b.names.length - (j + 1) < b.names.length - j; omega, by (conv => whnf); (repeat' (first | exact trivial | rfl | (refine nilEq ?_; first | rfl | (simp only [*]; done) | (simp [*]; done) | grind) | apply And.intro | ((first | refine intEq ?_ | refine boolEq ?_ | refine strEq ?_ | refine psEq ?_ | refine nilEq ?_ | refine arrEq ?_); (try simp only [Int.toNat_natCast, etas, elDef]); first | done | omega | (simp only [e9])))); (all_goals (conv => whnf)); (repeat' (first | exact trivial | rfl | (refine nilEq ?_; first | rfl | (simp only [*]; done) | (simp [*]; done) | grind) | apply And.intro | ((first | refine intEq ?_ | refine boolEq ?_ | refine strEq ?_ | refine psEq ?_ | refine nilEq ?_ | refine arrEq ?_); (try simp only [Int.toNat_natCast, etas, elDef]); first | done | omega | (simp only [e9])) | ((try simp only [Int.toNat_natCast, etas, elDef]); first | done | omega | (simp only [e9])))), (by exact sgOk_of (by rfl))⟩
      · rename_i h1
        have e9 : patM a b = ndOf (accB a b j) := by rw [hme, show b.names.length = j by omega]
        exact leafV hK (by rw [e9]; rfl)
    · dsimp only at hj hj9
      replace hj9 := hj9 rfl
      have hf := accB_facts (b := b) hla j
      have hkm := kid_map (b := b.names.getD j []) ha hk1
      have hsa2 := okN_sorted ha hk1
      have hkoB := fun (h : j < b.kids.length) => (okN_kid hb h).sm
      have hsu := accB_succ a b j
      have ez : zipI [] [] = [] := rfl
      have hsn0 : sortedI (nmI []) := by intro a b _ h; simp [nmI] at h
      rw [hj9] at hsu
      conv => whnf
      repeat' first
        | (refine Cnd.mk (fun h => ?_) (fun h => ?_) <;> (try simp [etas, elDef, -List.getD_eq_getElem?_getD] at h) <;> conv => whnf)
        | (refine Obl.mk (by first | omega | rfl | exact inK_byte _ | (simp only [inK, Int.toNat_natCast, etas, elDef, m52, m28, m52, o56, o78] <;> first | omega | grind) | grind [inK, m52, m28, m52, o56, o78]) ?_ <;> conv => whnf)
        | (refine OblG.mk (by conv => whnf
                              repeat (first | (refine Bx.mk ?_) | (intro h; (try simp [etas, elDef, -List.getD_eq_getElem?_getD] at h); conv => whnf))
                              first | omega | rfl | exact inK_byte _ | (simp only [inK, Int.toNat_natCast, etas, elDef, m52, m28, m52, o56, o78] <;> first | omega | grind) | grind [inK, m52, m28, m52, o56, o78]) ?_ <;> conv => whnf)
        | (refine Gd.mk (fun h => ?_) <;> (try simp [etas, elDef, -List.getD_eq_getElem?_getD] at h) <;> conv => whnf)
        | (refine And.intro ?_ ?_ <;> conv => whnf)
        | exact True.intro
        | (intro; conv => whnf)
      · rename_i h1
        have h2 : placeM a (b.names.getD j []) < 0 := by have := hkm.1; rw [h] at this; simpa using this
        have e9 : accB a b (j + 1) = putL [] ⟨b.names.getD j [], 0, b.kids.getD j default⟩ := by rw [hsu, if_pos h2]
        exact ⟨(j + 1, false), [(902, 98000), (903, 98001)], [], ⟨by omega, fun h => by cases h⟩, by show b.names.length - (j + 1) < b.names.length - j; omega, by (conv => whnf); (repeat' (first | exact trivial | rfl | (refine nilEq ?_; first | rfl | (simp only [*]; done) | (simp [*]; done) | grind) | apply And.intro | ((first | refine intEq ?_ | refine boolEq ?_ | refine strEq ?_ | refine psEq ?_ | refine nilEq ?_ | refine arrEq ?_); (try simp only [Int.toNat_natCast, etas, elDef]); first | done | omega | (simp only [e9, ez])))); (all_goals (conv => whnf)); (repeat' (first | exact trivial | rfl | (refine nilEq ?_; first | rfl | (simp only [*]; done) | (simp [*]; done) | grind) | apply And.intro | ((first | refine intEq ?_ | refine boolEq ?_ | refine strEq ?_ | refine psEq ?_ | refine nilEq ?_ | refine arrEq ?_); (try simp only [Int.toNat_natCast, etas, elDef]); first | done | omega | (simp only [e9, ez])) | ((try simp only [Int.toNat_natCast, etas, elDef]); first | done | omega | (simp only [e9, ez])))), (by exact sgOk_of (by rfl))⟩
      · rename_i h1
        have h2 := hkm.2 h
        have e9 : accB a b (j + 1) = [] := by rw [hsu, if_neg (by omega)]
        exact ⟨(j + 1, true), [], [], ⟨by omega, fun _ => e9⟩, by show b.names.length - (j + 1) < b.names.length - j; omega, by (conv => whnf); (repeat' (first | exact trivial | rfl | (refine nilEq ?_; first | rfl | (simp only [*]; done) | (simp [*]; done) | grind) | apply And.intro | ((first | refine intEq ?_ | refine boolEq ?_ | refine strEq ?_ | refine psEq ?_ | refine nilEq ?_ | refine arrEq ?_); (try simp only [Int.toNat_natCast, etas, elDef]); first | done | omega | (simp only [e9])))); (all_goals (conv => whnf)); (repeat' (first | exact trivial | rfl | (refine nilEq ?_; first | rfl | (simp only [*]; done) | (simp [*]; done) | grind) | apply And.intro | ((first | refine intEq ?_ | refine boolEq ?_ | refine strEq ?_ | refine psEq ?_ | refine nilEq ?_ | refine arrEq ?_); (try simp only [Int.toNat_natCast, etas, elDef]); first | done | omega | (simp only [e9])) | ((try simp only [Int.toNat_natCast, etas, elDef]); first | done | omega | (simp only [e9])))), (by exact sgOk_of (by rfl))⟩
      · rename_i h1
        have e9 : patM a b = ndOf [] := by rw [hme, show b.names.length = j by omega, hj9]
        exact leafV hK (by rw [e9]; rfl)
  · dsimp only at hi hj
    have h00 := hj rfl
    have hf := accA_facts (a := a) (b := b) (i := i) hi (by omega)
    have hkm := kid_map (b := a.names.getD i []) hb hk2
    have hflt := fun h => found_lt (ns := b.names) (b := a.names.getD i []) h
    have hsb2 := okN_sorted hb hk2
    have hkoA := fun (h : i < a.kids.length) => okN_kid ha h
    have hkoB := fun (h : lbI (nmI b.names) (a.names.getD i []) < b.kids.length) => okN_kid hb h
    have hks := fun (h : i < a.kids.length) => kid_size h
    have hsu := fun (h : i < a.names.length) => accA_succ (b := b) h (show i < a.kids.length by omega)
    have ez : zipI [] [] = [] := rfl
    have hsn0 : sortedI (nmI []) := by intro a b _ h; simp [nmI] at h
    rw [h00] at hsu
    conv => whnf
    repeat' first
      | (refine Cnd.mk (fun h => ?_) (fun h => ?_) <;> (try simp [etas, elDef, -List.getD_eq_getElem?_getD] at h) <;> conv => whnf)
      | (refine Obl.mk (by first | omega | rfl | exact inK_byte _ | (simp only [inK, Int.toNat_natCast, etas, elDef, m52, m28, m52, o56, o78] <;> first | omega | grind) | grind [inK, m52, m28, m52, o56, o78]) ?_ <;> conv => whnf)
      | (refine OblG.mk (by conv => whnf
                            repeat (first | (refine Bx.mk ?_) | (intro h; (try simp [etas, elDef, -List.getD_eq_getElem?_getD] at h); conv => whnf))
                            first | omega | rfl | exact inK_byte _ | (simp only [inK, Int.toNat_natCast, etas, elDef, m52, m28, m52, o56, o78] <;> first | omega | grind) | grind [inK, m52, m28, m52, o56, o78]) ?_ <;> conv => whnf)
      | (refine Gd.mk (fun h => ?_) <;> (try simp [etas, elDef, -List.getD_eq_getElem?_getD] at h) <;> conv => whnf)
      | (refine And.intro ?_ ?_ <;> conv => whnf)
      | exact True.intro
      | (intro; conv => whnf)
    · rename_i h1
      have h2 : placeM b (a.names.getD i []) < 0 := by have := hkm.1; rw [h] at this; simpa using this
      have e9 : accA a b (i + 1) = putL [] ⟨a.names.getD i [], 0, ⟨0, 0, [], [], []⟩⟩ := by rw [hsu h1]; unfold stepP; rw [if_pos h2]; rfl
      exact ⟨(i + 1, false), [(900, 46000), (901, 46001)], [], ⟨by omega, fun h => by cases h⟩, by show a.names.length - (i + 1) < a.names.length - i; omega, by (conv => whnf); (repeat' (first | exact trivial | rfl | (refine nilEq ?_; first | rfl | (simp only [*]; done) | (simp [*]; done) | grind) | apply And.intro | ((first | refine intEq ?_ | refine boolEq ?_ | refine strEq ?_ | refine psEq ?_ | refine nilEq ?_ | refine arrEq ?_); (try simp only [Int.toNat_natCast, etas, elDef]); first | done | omega | (simp only [e9, ez])))); (all_goals (conv => whnf)); (repeat' (first | exact trivial | rfl | (refine nilEq ?_; first | rfl | (simp only [*]; done) | (simp [*]; done) | grind) | apply And.intro | ((first | refine intEq ?_ | refine boolEq ?_ | refine strEq ?_ | refine psEq ?_ | refine nilEq ?_ | refine arrEq ?_); (try simp only [Int.toNat_natCast, etas, elDef]); first | done | omega | (simp only [e9, ez])) | ((try simp only [Int.toNat_natCast, etas, elDef]); first | done | omega | (simp only [e9, ez])))), (by exact sgOk_of (by rfl))⟩
    · rename_i h1 h2
      have h3 := hkm.2 h2
      have e9 : accA a b (i + 1) = putL [] ⟨a.names.getD i [], 0, patM (a.kids.getD i default) (b.kids.getD (lbI (nmI b.names) (a.names.getD i [])) default)⟩ := by rw [hsu h1]; unfold stepP; rw [if_neg (by omega), h3, Int.toNat_natCast, if_neg h]
      exact ⟨(i + 1, false), [(900, 72000), (901, 72001)], [], ⟨by omega, fun h => by cases h⟩, by show a.names.length - (i + 1) < a.names.length - i; omega, by (conv => whnf); (repeat' (first | exact trivial | rfl | (refine nilEq ?_; first | rfl | (simp only [*]; done) | (simp [*]; done) | grind) | apply And.intro | ((first | refine intEq ?_ | refine boolEq ?_ | refine strEq ?_ | refine psEq ?_ | refine nilEq ?_ | refine arrEq ?_); (try simp only [Int.toNat_natCast, etas, elDef]); first | done | omega | (simp only [e9, ez])))); (all_goals (conv => whnf)); (repeat' (first | exact trivial | rfl | (refine nilEq ?_; first | rfl | (simp only [*]; done) | (simp [*]; done) | grind) | apply And.intro | ((first | refine intEq ?_ | refine boolEq ?_ | refine strEq ?_ | refine psEq ?_ | refine nilEq ?_ | refine arrEq ?_); (try simp only [Int.toNat_natCast, etas, elDef]); first | done | omega | (simp only [e9, ez])) | ((try simp only [Int.toNat_natCast, etas, elDef]); first | done | omega | (simp only [e9, ez])))), (by exact sgOk_of (by rfl))⟩
    · rename_i h1 h2
      have h3 := hkm.2 h2
      have e9 : accA a b (i + 1) = [] := by rw [hsu h1]; unfold stepP; rw [if_neg (by omega), h3, Int.toNat_natCast, if_pos h]
      exact ⟨(i + 1, true), [], [], ⟨by omega, fun _ => e9⟩, by show a.names.length - (i + 1) < a.names.length - i; omega, by (conv => whnf); (repeat' (first | exact trivial | rfl | (refine nilEq ?_; first | rfl | (simp only [*]; done) | (simp [*]; done) | grind) | apply And.intro | ((first | refine intEq ?_ | refine boolEq ?_ | refine strEq ?_ | refine psEq ?_ | refine nilEq ?_ | refine arrEq ?_); (try simp only [Int.toNat_natCast, etas, elDef]); first | done | omega | (simp only [e9])))); (all_goals (conv => whnf)); (repeat' (first | exact trivial | rfl | (refine nilEq ?_; first | rfl | (simp only [*]; done) | (simp [*]; done) | grind) | apply And.intro | ((first | refine intEq ?_ | refine boolEq ?_ | refine strEq ?_ | refine psEq ?_ | refine nilEq ?_ | refine arrEq ?_); (try simp only [Int.toNat_natCast, etas, elDef]); first | done | omega | (simp only [e9])) | ((try simp only [Int.toNat_natCast, etas, elDef]); first | done | omega | (simp only [e9])))), (by exact sgOk_of (by rfl))⟩
    have hall : accA a b a.names.length = [] := by rw [show a.names.length = i by omega, h00]
    refine aloop_intro (Nat × Bool) (fun q => q.1 ≤ b.names.length ∧ (q.2 = true → accB a b q.1 = [])) (fun q => b.names.length - q.1) (fun q => [(76, .int .i64 q.1)]) (fun q => loN q.2 (accB a b q.1)) [2, 3, 4] (0, true) [] [] ⟨Nat.zero_le _, fun _ => by rw [accB_zero, hall]⟩ ?_ (by exact sgOk_of (by rfl)) ?_
    · (conv => whnf); (repeat' (first | exact trivial | rfl | (refine nilEq ?_; first | rfl | (simp only [*]; done) | (simp [*]; done) | grind) | apply And.intro | ((first | refine intEq ?_ | refine boolEq ?_ | refine strEq ?_ | refine psEq ?_ | refine nilEq ?_ | refine arrEq ?_); (try simp only [Int.toNat_natCast, etas, elDef]); first | done | omega | (simp only [accB_zero, hall])))); (all_goals (conv => whnf)); (repeat' (first | exact trivial | rfl | (refine nilEq ?_; first | rfl | (simp only [*]; done) | (simp [*]; done) | grind) | apply And.intro | ((first | refine intEq ?_ | refine boolEq ?_ | refine strEq ?_ | refine psEq ?_ | refine nilEq ?_ | refine arrEq ?_); (try simp only [Int.toNat_natCast, etas, elDef]); first | done | omega | (simp only [accB_zero, hall])) | ((try simp only [Int.toNat_natCast, etas, elDef]); first | done | omega | (simp only [accB_zero, hall]))))
    rintro ⟨j, _ | _⟩ ⟨hj, hj9⟩
    · dsimp only at hj hj9
      have hf := accB_facts (b := b) hla j
      have hkm := kid_map (b := b.names.getD j []) ha hk1
      have hsa2 := okN_sorted ha hk1
      have hkoB := fun (h : j < b.kids.length) => (okN_kid hb h).sm
      have hsu := accB_succ a b j
      have ez := zip_back hf.2.1
      have hso := sorted_nm.2 hf.1
      have hl1 : ((accB a b j).map (·.name)).length = ((accB a b j).map (·.node)).length := by simp
      have hl2 : ((accB a b j).map (·.name)).length ≤ 100000 := by simp; omega
      conv => whnf
      repeat' first
        | (refine Cnd.mk (fun h => ?_) (fun h => ?_) <;> (try simp [etas, elDef, -List.getD_eq_getElem?_getD] at h) <;> conv => whnf)
        | (refine Obl.mk (by first | omega | rfl | exact inK_byte _ | (simp only [inK, Int.toNat_natCast, etas, elDef, m52, m28, m52, o56, o78] <;> first | omega | grind) | grind [inK, m52, m28, m52, o56, o78]) ?_ <;> conv => whnf)
        | (refine OblG.mk (by conv => whnf
                              repeat (first | (refine Bx.mk ?_) | (intro h; (try simp [etas, elDef, -List.getD_eq_getElem?_getD] at h); conv => whnf))
                              first | omega | rfl | exact inK_byte _ | (simp only [inK, Int.toNat_natCast, etas, elDef, m52, m28, m52, o56, o78] <;> first | omega | grind) | grind [inK, m52, m28, m52, o56, o78]) ?_ <;> conv => whnf)
        | (refine Gd.mk (fun h => ?_) <;> (try simp [etas, elDef, -List.getD_eq_getElem?_getD] at h) <;> conv => whnf)
        | (refine And.intro ?_ ?_ <;> conv => whnf)
        | exact True.intro
        | (intro; conv => whnf)
      · rename_i h1
        have h2 : placeM a (b.names.getD j []) < 0 := by have := hkm.1; rw [h] at this; simpa using this
        have e9 : accB a b (j + 1) = putL (accB a b j) ⟨b.names.getD j [], 0, b.kids.getD j default⟩ := by rw [hsu, if_pos h2]
        exact ⟨(j + 1, false), [(902, 98000), (903, 98001)], [], ⟨by omega, fun h => by cases h⟩, by show b.names.length - (j + 1) < b.names.length - j; omega, by (conv => whnf); (repeat' (first | exact trivial | rfl | (refine nilEq ?_; first | rfl | (simp only [*]; done) | (simp [*]; done) | grind) | apply And.intro | ((first | refine intEq ?_ | refine boolEq ?_ | refine strEq ?_ | refine psEq ?_ | refine nilEq ?_ | refine arrEq ?_); (try simp only [Int.toNat_natCast, etas, elDef]); first | done | omega | (simp only [e9, ez])))); (all_goals (conv => whnf)); (repeat' (first | exact trivial | rfl | (refine nilEq ?_; first | rfl | (simp only [*]; done) | (simp [*]; done) | grind) | apply And.intro | ((first | refine intEq ?_ | refine boolEq ?_ | refine strEq ?_ | refine psEq ?_ | refine nilEq ?_ | refine arrEq ?_); (try simp only [Int.toNat_natCast, etas, elDef]); first | done | omega | (simp only [e9, ez])) | ((try simp only [Int.toNat_natCast, etas, elDef]); first | done | omega | (simp only [e9, ez])))), (by exact sgOk_of (by rfl))⟩
      · rename_i h1
        have h2 := hkm.2 h
        have e9 : accB a b (j + 1) = (accB a b j) := by rw [hsu, if_neg (by omega)]
        exact ⟨(j + 1, false), [], [], ⟨by omega, fun h => by cases h⟩, by show b.names.length - (j + 1) < b.names.length - j; omega, by (conv => whnf); (repeat' (first | exact trivial | rfl | (refine nilEq ?_; first | rfl | (simp only [*]; done) | (simp [*]; done) | grind) | apply And.intro | ((first | refine intEq ?_ | refine boolEq ?_ | refine strEq ?_ | refine psEq ?_ | refine nilEq ?_ | refine arrEq ?_); (try simp only [Int.toNat_natCast, etas, elDef]); first | done | omega | (simp only [e9])))); (all_goals (conv => whnf)); (repeat' (first | exact trivial | rfl | (refine nilEq ?_; first | rfl | (simp only [*]; done) | (simp [*]; done) | grind) | apply And.intro | ((first | refine intEq ?_ | refine boolEq ?_ | refine strEq ?_ | refine psEq ?_ | refine nilEq ?_ | refine arrEq ?_); (try simp only [Int.toNat_natCast, etas, elDef]); first | done | omega | (simp only [e9])) | ((try simp only [Int.toNat_natCast, etas, elDef]); first | done | omega | (simp only [e9])))), (by exact sgOk_of (by rfl))⟩
      · rename_i h1
        have e9 : patM a b = ndOf (accB a b j) := by rw [hme, show b.names.length = j by omega]
        exact leafV hK (by rw [e9]; rfl)
    · dsimp only at hj hj9
      replace hj9 := hj9 rfl
      have hf := accB_facts (b := b) hla j
      have hkm := kid_map (b := b.names.getD j []) ha hk1
      have hsa2 := okN_sorted ha hk1
      have hkoB := fun (h : j < b.kids.length) => (okN_kid hb h).sm
      have hsu := accB_succ a b j
      have ez : zipI [] [] = [] := rfl
      have hsn0 : sortedI (nmI []) := by intro a b _ h; simp [nmI] at h
      rw [hj9] at hsu
      conv => whnf
      repeat' first
        | (refine Cnd.mk (fun h => ?_) (fun h => ?_) <;> (try simp [etas, elDef, -List.getD_eq_getElem?_getD] at h) <;> conv => whnf)
        | (refine Obl.mk (by first | omega | rfl | exact inK_byte _ | (simp only [inK, Int.toNat_natCast, etas, elDef, m52, m28, m52, o56, o78] <;> first | omega | grind) | grind [inK, m52, m28, m52, o56, o78]) ?_ <;> conv => whnf)
        | (refine OblG.mk (by conv => whnf
                              repeat (first | (refine Bx.mk ?_) | (intro h; (try simp [etas, elDef, -List.getD_eq_getElem?_getD] at h); conv => whnf))
                              first | omega | rfl | exact inK_byte _ | (simp only [inK, Int.toNat_natCast, etas, elDef, m52, m28, m52, o56, o78] <;> first | omega | grind) | grind [inK, m52, m28, m52, o56, o78]) ?_ <;> conv => whnf)
        | (refine Gd.mk (fun h => ?_) <;> (try simp [etas, elDef, -List.getD_eq_getElem?_getD] at h) <;> conv => whnf)
        | (refine And.intro ?_ ?_ <;> conv => whnf)
        | exact True.intro
        | (intro; conv => whnf)
      · rename_i h1
        have h2 : placeM a (b.names.getD j []) < 0 := by have := hkm.1; rw [h] at this; simpa using this
        have e9 : accB a b (j + 1) = putL [] ⟨b.names.getD j [], 0, b.kids.getD j default⟩ := by rw [hsu, if_pos h2]
        exact ⟨(j + 1, false), [(902, 98000), (903, 98001)], [], ⟨by omega, fun h => by cases h⟩, by show b.names.length - (j + 1) < b.names.length - j; omega, by (conv => whnf); (repeat' (first | exact trivial | rfl | (refine nilEq ?_; first | rfl | (simp only [*]; done) | (simp [*]; done) | grind) | apply And.intro | ((first | refine intEq ?_ | refine boolEq ?_ | refine strEq ?_ | refine psEq ?_ | refine nilEq ?_ | refine arrEq ?_); (try simp only [Int.toNat_natCast, etas, elDef]); first | done | omega | (simp only [e9, ez])))); (all_goals (conv => whnf)); (repeat' (first | exact trivial | rfl | (refine nilEq ?_; first | rfl | (simp only [*]; done) | (simp [*]; done) | grind) | apply And.intro | ((first | refine intEq ?_ | refine boolEq ?_ | refine strEq ?_ | refine psEq ?_ | refine nilEq ?_ | refine arrEq ?_); (try simp only [Int.toNat_natCast, etas, elDef]); first | done | omega | (simp only [e9, ez])) | ((try simp only [Int.toNat_natCast, etas, elDef]); first | done | omega | (simp only [e9, ez])))), (by exact sgOk_of (by rfl))⟩
      · rename_i h1
        have h2 := hkm.2 h
        have e9 : accB a b (j + 1) = [] := by rw [hsu, if_neg (by omega)]
        exact ⟨(j + 1, true), [], [], ⟨by omega, fun _ => e9⟩, by show b.names.length - (j + 1) < b.names.length - j; omega, by (conv => whnf); (repeat' (first | exact trivial | rfl | (refine nilEq ?_; first | rfl | (simp only [*]; done) | (simp [*]; done) | grind) | apply And.intro | ((first | refine intEq ?_ | refine boolEq ?_ | refine strEq ?_ | refine psEq ?_ | refine nilEq ?_ | refine arrEq ?_); (try simp only [Int.toNat_natCast, etas, elDef]); first | done | omega | (simp only [e9])))); (all_goals (conv => whnf)); (repeat' (first | exact trivial | rfl | (refine nilEq ?_; first | rfl | (simp only [*]; done) | (simp [*]; done) | grind) | apply And.intro | ((first | refine intEq ?_ | refine boolEq ?_ | refine strEq ?_ | refine psEq ?_ | refine nilEq ?_ | refine arrEq ?_); (try simp only [Int.toNat_natCast, etas, elDef]); first | done | omega | (simp only [e9])) | ((try simp only [Int.toNat_natCast, etas, elDef]); first | done | omega | (simp only [e9])))), (by exact sgOk_of (by rfl))⟩
      · rename_i h1
        have e9 : patM a b = ndOf [] := by rw [hme, show b.names.length = j by omega, hj9]
        exact leafV hK (by rw [e9]; rfl)
theorem r52 : ∀ k, (CtrOK Tryd.prog 52 (.gen .ps (Ck52 k)) ∧ Callable Tryd.prog 52) := by
  intro k
  induction k with
  | zero =>
    exact ⟨fun args K h => by
        unfold Ck52 at h; split at h
        · exact absurd h.o (Nat.not_lt_zero _)
        · exact h.elim, callable Tryd.func52 rfl (by rfl)⟩
  | succ k ih =>
    refine gen_ok (E := E52 k) (mkE_cons s28 (mkE_cons ih (mkE_cons s56 (mkE_cons s64 (mkE_cons s78 (mkE_nil tab_ok)))))) mix (O := O52) (C := (Ck52 (k + 1))) (own := .ps) Tryd.func52 rfl (by rfl) (by kernel_rfl) (fun args K h hbd => ?_)
    unfold Ck52 at h; split at h
    case h_2 => exact h.elim
    exact ⟨Nat.le_of_ble_eq_true rfl, a52 k ⟨_, _, _, _, _⟩ ⟨_, _, _, _, _⟩ h.o (by exact hbd) _ h.k⟩
theorem s52 : (CtrOK Tryd.prog 52 (.gen .ps C52) ∧ Callable Tryd.prog 52) := by
  refine ⟨fun args K h => ?_, (r52 0).2⟩
  unfold C52 at h; split at h
  · exact (r52 (m52 ⟨_, _, _, _, _⟩ ⟨_, _, _, _, _⟩ + 1)).1 _ K ⟨Nat.lt_succ_self _, h⟩
  · exact h.elim
noncomputable def c21 (a : Nd) (b : Nd) (K : AV → List AV → Prop) : Prop :=
    K (optN (mergeForM a b)) []
noncomputable def C21 : List AV → (AV → List AV → Prop) → Prop
  | [.st [.int .i64 a_0, .int .i64 a_1, .str a_2, .ps .str a_3, .ps .node a_4], .st [.int .i64 b_0, .int .i64 b_1, .str b_2, .ps .str b_3, .ps .node b_4]], K => c21 ⟨a_0, a_1, a_2, a_3, a_4⟩ ⟨b_0, b_1, b_2, b_3, b_4⟩ K
  | _, _ => False
noncomputable def E21 : Ctx := mkE tab [(19, .pure F19), (38, .gen .ps C38), (51, .pure F51), (52, .gen .ps C52)]
noncomputable def O21 : Nat → List DI := ordL []
theorem a21 (a : Nd) (b : Nd) (hb : BdAs [.st (ndC a), .st (ndC b)]) (K : AV → List AV → Prop) (h : c21 a b K) : abody E21 O21 .ps Tryd.f21 (Tryd.f21.body.getD .skip) [.st (ndC a), .st (ndC b)] K := by
  simp only [BdAs, BdA, BdL, BdC, MX, ndC, shC, itC, stC, opC, chC, nwC, flC, rqC, rsC, enc, List.cons_append, List.nil_append, and_true, true_and] at hb
  unfold c21 at h
  have hK9 := h
  have h1 := fun h => validM_ok (n := a) h
  have h2 := fun h => validM_ok (n := b) h
  conv => whnf
  repeat' first
    | (refine Cnd.mk (fun h => ?_) (fun h => ?_) <;> (try simp [etas, elDef, -List.getD_eq_getElem?_getD] at h) <;> conv => whnf)
    | (refine Obl.mk (by first | omega | rfl | exact inK_byte _ | (simp only [inK, Int.toNat_natCast, etas, elDef, m52] <;> first | omega | grind) | grind [inK, m52]) ?_ <;> conv => whnf)
    | (refine OblG.mk (by conv => whnf
                          repeat (first | (refine Bx.mk ?_) | (intro h; (try simp [etas, elDef, -List.getD_eq_getElem?_getD] at h); conv => whnf))
                          first | omega | rfl | exact inK_byte _ | (simp only [inK, Int.toNat_natCast, etas, elDef, m52] <;> first | omega | grind) | grind [inK, m52]) ?_ <;> conv => whnf)
    | (refine Gd.mk (fun h => ?_) <;> (try simp [etas, elDef, -List.getD_eq_getElem?_getD] at h) <;> conv => whnf)
    | (refine And.intro ?_ ?_ <;> conv => whnf)
    | exact True.intro
    | (intro; conv => whnf)
  · have e : mergeForM a b = none := by unfold mergeForM; rw [if_neg (by grind)]
    exact leafV hK9 (by rw [e]; rfl)
  · have e : mergeForM a b = if true && validM (patM a b) then some (patM a b) else none := by
      unfold mergeForM
      rw [if_pos (by grind), Bool.true_and]
    refine leafV hK9 ?_
    rw [e]
    simp only [optN, nd_eta]; try rfl
theorem s21 : (CtrOK Tryd.prog 21 (.gen .ps C21) ∧ Callable Tryd.prog 21) := by
  refine gen_ok (E := E21) (mkE_cons s19 (mkE_cons s38 (mkE_cons s51 (mkE_cons s52 (mkE_nil tab_ok))))) mix (O := O21) (C := C21) (own := .ps) Tryd.func21 rfl (by rfl) (by kernel_rfl) (fun args K h hbd => ?_)
  unfold C21 at h; split at h
  case h_2 => exact h.elim
  exact ⟨Nat.le_of_ble_eq_true rfl, a21 ⟨_, _, _, _, _⟩ ⟨_, _, _, _, _⟩ (by exact hbd) _ h⟩
set_option maxHeartbeats 400000
noncomputable def c54 (a : Nd) (b : Nd) (K : AV → List AV → Prop) : Prop :=
    Obl (okN a ∧ okN b) (K (.st (ndC (patM a b))) [])
noncomputable def m54 (a : Nd) (b : Nd) : Nat := SizeOf.sizeOf a
noncomputable def C54 : List AV → (AV → List AV → Prop) → Prop
  | [.st [.int .i64 a_0, .int .i64 a_1, .str a_2, .ps .str a_3, .ps .node a_4], .st [.int .i64 b_0, .int .i64 b_1, .str b_2, .ps .str b_3, .ps .node b_4]], K => c54 ⟨a_0, a_1, a_2, a_3, a_4⟩ ⟨b_0, b_1, b_2, b_3, b_4⟩ K
  | _, _ => False
noncomputable def Ck54 (k : Nat) : List AV → (AV → List AV → Prop) → Prop
  | [.st [.int .i64 a_0, .int .i64 a_1, .str a_2, .ps .str a_3, .ps .node a_4], .st [.int .i64 b_0, .int .i64 b_1, .str b_2, .ps .str b_3, .ps .node b_4]], K => Obl (m54 ⟨a_0, a_1, a_2, a_3, a_4⟩ ⟨b_0, b_1, b_2, b_3, b_4⟩ < k) (c54 ⟨a_0, a_1, a_2, a_3, a_4⟩ ⟨b_0, b_1, b_2, b_3, b_4⟩ K)
  | _, _ => False
noncomputable def E54 (k : Nat) : Ctx := mkE tab [(54, .gen .ps (Ck54 k)), (62, .pure F62), (69, .gen .ps C69), (74, .gen .ps C74k), (79, .pure F79)]
noncomputable def O54 : Nat → List DI := ordL [(7, [.q 0, .q 1, .q 2, .q 3, .q 4, .q 5, .q 6, .q 7]), (9, [.q 0, .q 1, .q 2, .q 3, .q 4, .q 5, .q 6, .l 7 [], .q 8, .q 9, .q 10, .l 11 []]), (10, [.q 0, .q 1, .q 2, .q 3, .q 4, .q 5, .q 6, .q 7, .q 8, .q 9, .q 10, .q 11, .q 12]), (11, [.q 0, .q 1, .q 2, .q 3, .q 4, .q 5, .q 6, .q 7, .q 8, .q 9, .q 10, .q 11, .q 12, .q 13, .q 14, .q 15, .l 16 [0, 2, 4, 5], .l 17 [], .q 18, .q 19, .q 20, .l 21 []]), (15, [.q 0, .q 1, .q 2, .q 3, .q 4, .q 5, .q 6, .q 7]), (16, [.q 0, .q 1, .q 2, .q 3, .q 4, .q 5, .q 6, .q 7, .q 8, .q 9, .q 10, .l 11 [], .q 12, .q 13, .q 14, .l 15 []])]
theorem a54 (k : Nat) (a : Nd) (b : Nd) (hm : m54 a b < k + 1) (hb : BdAs [.st (ndC a), .st (ndC b)]) (K : AV → List AV → Prop) (h : c54 a b K) : abody (E54 k) O54 .ps Tryd.f54 (Tryd.f54.body.getD .skip) [.st (ndC a), .st (ndC b)] K := by
  simp only [BdAs, BdA, BdL, BdC, MX, ndC, shC, itC, stC, opC, chC, nwC, flC, rqC, rsC, enc, List.cons_append, List.nil_append, and_true, true_and] at hb
  unfold c54 at h
  unfold m54 at hm
  obtain ⟨⟨ha, hb⟩, hK⟩ := h
  have hsb := hb.sm
  have hme := patM_eq a b
  conv => whnf
  repeat' first
    | (refine Cnd.mk (fun h => ?_) (fun h => ?_) <;> (try simp [etas, elDef, -List.getD_eq_getElem?_getD] at h) <;> conv => whnf)
    | (refine Obl.mk (by first | omega | rfl | exact inK_byte _ | (simp only [inK, Int.toNat_natCast, etas, elDef, m54, m54, o62, m69, o79] <;> first | omega | grind) | grind [inK, m54, m54, o62, m69, o79]) ?_ <;> conv => whnf)
    | (refine OblG.mk (by conv => whnf
                          repeat (first | (refine Bx.mk ?_) | (intro h; (try simp [etas, elDef, -List.getD_eq_getElem?_getD] at h); conv => whnf))
                          first | omega | rfl | exact inK_byte _ | (simp only [inK, Int.toNat_natCast, etas, elDef, m54, m54, o62, m69, o79] <;> first | omega | grind) | grind [inK, m54, m54, o62, m69, o79]) ?_ <;> conv => whnf)
    | (refine Gd.mk (fun h => ?_) <;> (try simp [etas, elDef, -List.getD_eq_getElem?_getD] at h) <;> conv => whnf)
    | (refine And.intro ?_ ?_ <;> conv => whnf)
    | exact True.intro
    | (intro; conv => whnf)
  · rw [hme, if_neg (by omega)] at hK
    exact leafV hK rfl
  have hla := (okN_names ha).2.1 h.1
  have hlb := (okN_names hb).2.1 h.2
  have hk1 := h.1
  have hk2 := h.2
  have h6 := (okN_names ha).1
  have h7 := (okN_names hb).1
  replace hme := patM_map ha hk1 hk2
  clear h
  have h00 : ndOf [] = ndOf (accA a b 0) := by rw [accA_zero]
  refine aloop_intro (Nat × Nd) (fun q => q.1 ≤ a.kids.length ∧ q.2 = ndOf (accA a b q.1)) (fun q => a.kids.length - q.1) (fun q => [(6, .int .i64 q.1)]) (fun q => [(5, .box (ndC q.2))]) [2, 3, 4] (0, ndOf []) [] [19, 20] ⟨Nat.zero_le _, h00⟩ ?_ (by exact sgOk_of (by rfl)) ?_
  · (conv => whnf); (repeat' (first | exact trivial | rfl | (refine nilEq ?_; first | rfl | (simp only [*]; done) | (simp [*]; done) | grind) | apply And.intro | ((first | refine intEq ?_ | refine boolEq ?_ | refine strEq ?_ | refine psEq ?_ | refine nilEq ?_ | refine arrEq ?_); (try simp only [Int.toNat_natCast, etas, elDef]); first | done | omega | grind | (simp only [*]; done) | (simp [*]; done)))); (all_goals (conv => whnf)); (repeat' (first | exact trivial | rfl | (refine nilEq ?_; first | rfl | (simp only [*]; done) | (simp [*]; done) | grind) | apply And.intro | ((first | refine intEq ?_ | refine boolEq ?_ | refine strEq ?_ | refine psEq ?_ | refine nilEq ?_ | refine arrEq ?_); (try simp only [Int.toNat_natCast, etas, elDef]); first | done | omega | grind | (simp only [*]; done) | (simp [*]; done)) | ((try simp only [Int.toNat_natCast, etas, elDef]); first | done | omega | grind | (simp only [*]; done) | (simp [*]; done))))
  rintro ⟨i, m⟩ ⟨hi, hm⟩
  dsimp only at hi hm
  obtain ⟨m1, m2, m3, m4, m5⟩ := for_now1 ha hb hk1 hk2 hi hm
  have hpl := placeM_ge b (a.names.getD i [])
  have hko := fun (h : i < a.kids.length) => okN_kid ha h
  have hks := fun (h : i < a.kids.length) => kid_size h
  have hst := fun (h : i < a.kids.length) => for_step1 ha hb hk1 h hm rfl rfl rfl
  have hz := okN_zero.sm
  unfold zeroN at hz hst
  conv => whnf
  repeat' first
    | (refine Cnd.mk (fun h => ?_) (fun h => ?_) <;> (try simp [etas, elDef, -List.getD_eq_getElem?_getD] at h) <;> conv => whnf)
    | (refine Obl.mk (by first | omega | rfl | exact inK_byte _ | (simp only [inK, Int.toNat_natCast, etas, elDef, m54, m54, o62, m69, o79] <;> first | omega | grind) | grind [inK, m54, m54, o62, m69, o79]) ?_ <;> conv => whnf)
    | (refine OblG.mk (by conv => whnf
                          repeat (first | (refine Bx.mk ?_) | (intro h; (try simp [etas, elDef, -List.getD_eq_getElem?_getD] at h); conv => whnf))
                          first | omega | rfl | exact inK_byte _ | (simp only [inK, Int.toNat_natCast, etas, elDef, m54, m54, o62, m69, o79] <;> first | omega | grind) | grind [inK, m54, m54, o62, m69, o79]) ?_ <;> conv => whnf)
    | (refine Gd.mk (fun h => ?_) <;> (try simp [etas, elDef, -List.getD_eq_getElem?_getD] at h) <;> conv => whnf)
    | (refine And.intro ?_ ?_ <;> conv => whnf)
    | exact True.intro
    | (intro; conv => whnf)
  · rename_i h1
    have e9 := (hst h1).1 h
    exact ⟨(i + 1, (addHereM m (a.names.getD i []) ⟨0, 0, [], [], []⟩).getD default), [], [], ⟨by simp only; omega, by rw [e9]; rfl⟩, by simp only; omega, by (conv => whnf); (repeat' (first | exact trivial | rfl | (refine nilEq ?_; first | rfl | (simp only [*]; done) | (simp [*]; done) | grind) | apply And.intro | ((first | refine intEq ?_ | refine boolEq ?_ | refine strEq ?_ | refine psEq ?_ | refine nilEq ?_ | refine arrEq ?_); (try simp only [Int.toNat_natCast, etas, elDef]); first | done | omega | grind | (simp only [*]; done) | (simp [*]; done)))); (all_goals (conv => whnf)); (repeat' (first | exact trivial | rfl | (refine nilEq ?_; first | rfl | (simp only [*]; done) | (simp [*]; done) | grind) | apply And.intro | ((first | refine intEq ?_ | refine boolEq ?_ | refine strEq ?_ | refine psEq ?_ | refine nilEq ?_ | refine arrEq ?_); (try simp only [Int.toNat_natCast, etas, elDef]); first | done | omega | grind | (simp only [*]; done) | (simp [*]; done)) | ((try simp only [Int.toNat_natCast, etas, elDef]); first | done | omega | grind | (simp only [*]; done) | (simp [*]; done)))), (by exact sgOk_of (by rfl))⟩
  · rename_i h1 h2
    have e9 := (hst h1).2.2.2 h2 h
    exact ⟨(i + 1, (addHereM m (a.names.getD i []) (patM (a.kids.getD i default) (b.kids.getD (placeM b (a.names.getD i [])).toNat default))).getD default), [], [], ⟨by simp only; omega, by rw [e9]; rfl⟩, by simp only; omega, by (conv => whnf); (repeat' (first | exact trivial | rfl | (refine nilEq ?_; first | rfl | (simp only [*]; done) | (simp [*]; done) | grind) | apply And.intro | ((first | refine intEq ?_ | refine boolEq ?_ | refine strEq ?_ | refine psEq ?_ | refine nilEq ?_ | refine arrEq ?_); (try simp only [Int.toNat_natCast, etas, elDef]); first | done | omega | grind | (simp only [*]; done) | (simp [*]; done)))); (all_goals (conv => whnf)); (repeat' (first | exact trivial | rfl | (refine nilEq ?_; first | rfl | (simp only [*]; done) | (simp [*]; done) | grind) | apply And.intro | ((first | refine intEq ?_ | refine boolEq ?_ | refine strEq ?_ | refine psEq ?_ | refine nilEq ?_ | refine arrEq ?_); (try simp only [Int.toNat_natCast, etas, elDef]); first | done | omega | grind | (simp only [*]; done) | (simp [*]; done)) | ((try simp only [Int.toNat_natCast, etas, elDef]); first | done | omega | grind | (simp only [*]; done) | (simp [*]; done)))), (by exact sgOk_of (by rfl))⟩
  · rename_i h1 h2
    have e9 := (hst h1).2.2.1 h2 h
    exact ⟨(i + 1, m), [], [], ⟨by simp only; omega, e9⟩, by simp only; omega, by (conv => whnf); (repeat' (first | exact trivial | rfl | (refine nilEq ?_; first | rfl | (simp only [*]; done) | (simp [*]; done) | grind) | apply And.intro | ((first | refine intEq ?_ | refine boolEq ?_ | refine strEq ?_ | refine psEq ?_ | refine nilEq ?_ | refine arrEq ?_); (try simp only [Int.toNat_natCast, etas, elDef]); first | done | omega | grind | (simp only [*]; done) | (simp [*]; done)))); (all_goals (conv => whnf)); (repeat' (first | exact trivial | rfl | (refine nilEq ?_; first | rfl | (simp only [*]; done) | (simp [*]; done) | grind) | apply And.intro | ((first | refine intEq ?_ | refine boolEq ?_ | refine strEq ?_ | refine psEq ?_ | refine nilEq ?_ | refine arrEq ?_); (try simp only [Int.toNat_natCast, etas, elDef]); first | done | omega | grind | (simp only [*]; done) | (simp [*]; done)) | ((try simp only [Int.toNat_natCast, etas, elDef]); first | done | omega | grind | (simp only [*]; done) | (simp [*]; done)))), (by exact sgOk_of (by rfl))⟩
  · have h01 : m = ndOf (accB a b 0) := by rw [accB_zero, hm, show a.names.length = i by omega]
    clear hst hpl hko hks
    refine aloop_intro (Nat × Nd) (fun q => q.1 ≤ b.kids.length ∧ q.2 = ndOf (accB a b q.1)) (fun q => b.kids.length - q.1) (fun q => [(8, .int .i64 q.1)]) (fun q => [(5, .box (ndC q.2))]) [2, 3, 4] (0, m) [] [] ⟨Nat.zero_le _, h01⟩ ?_ (by exact sgOk_of (by rfl)) ?_
    · (conv => whnf); (repeat' (first | exact trivial | rfl | (refine nilEq ?_; first | rfl | (simp only [*]; done) | (simp [*]; done) | grind) | apply And.intro | ((first | refine intEq ?_ | refine boolEq ?_ | refine strEq ?_ | refine psEq ?_ | refine nilEq ?_ | refine arrEq ?_); (try simp only [Int.toNat_natCast, etas, elDef]); first | done | omega | grind | (simp only [*]; done) | (simp [*]; done)))); (all_goals (conv => whnf)); (repeat' (first | exact trivial | rfl | (refine nilEq ?_; first | rfl | (simp only [*]; done) | (simp [*]; done) | grind) | apply And.intro | ((first | refine intEq ?_ | refine boolEq ?_ | refine strEq ?_ | refine psEq ?_ | refine nilEq ?_ | refine arrEq ?_); (try simp only [Int.toNat_natCast, etas, elDef]); first | done | omega | grind | (simp only [*]; done) | (simp [*]; done)) | ((try simp only [Int.toNat_natCast, etas, elDef]); first | done | omega | grind | (simp only [*]; done) | (simp [*]; done))))
    clear m1 m2 m3 m4 m5
    rintro ⟨j, m'⟩ ⟨hj, hm'⟩
    dsimp only at hj hm'
    obtain ⟨m1, m2, m3, m4, m5⟩ := for_now2 ha hb hk1 hk2 hj hm'
    have hpl := placeM_ge a (b.names.getD j [])
    have hko := fun (h : j < b.kids.length) => (okN_kid hb h).sm
    have hst := for_step2 ha hk1 hm'
    conv => whnf
    repeat' first
      | (refine Cnd.mk (fun h => ?_) (fun h => ?_) <;> (try simp [etas, elDef, -List.getD_eq_getElem?_getD] at h) <;> conv => whnf)
      | (refine Obl.mk (by first | omega | rfl | exact inK_byte _ | (simp only [inK, Int.toNat_natCast, etas, elDef, m54, m54, o62, m69, o79] <;> first | omega | grind) | grind [inK, m54, m54, o62, m69, o79]) ?_ <;> conv => whnf)
      | (refine OblG.mk (by conv => whnf
                            repeat (first | (refine Bx.mk ?_) | (intro h; (try simp [etas, elDef, -List.getD_eq_getElem?_getD] at h); conv => whnf))
                            first | omega | rfl | exact inK_byte _ | (simp only [inK, Int.toNat_natCast, etas, elDef, m54, m54, o62, m69, o79] <;> first | omega | grind) | grind [inK, m54, m54, o62, m69, o79]) ?_ <;> conv => whnf)
      | (refine Gd.mk (fun h => ?_) <;> (try simp [etas, elDef, -List.getD_eq_getElem?_getD] at h) <;> conv => whnf)
      | (refine And.intro ?_ ?_ <;> conv => whnf)
      | exact True.intro
      | (intro; conv => whnf)
    · rename_i h1
      have e9 := hst.1 h
      exact ⟨(j + 1, (addHereM m' (b.names.getD j []) (b.kids.getD j default)).getD default), [], [], ⟨by simp only; omega, by rw [e9]; rfl⟩, by simp only; omega, by (conv => whnf); (repeat' (first | exact trivial | rfl | (refine nilEq ?_; first | rfl | (simp only [*]; done) | (simp [*]; done) | grind) | apply And.intro | ((first | refine intEq ?_ | refine boolEq ?_ | refine strEq ?_ | refine psEq ?_ | refine nilEq ?_ | refine arrEq ?_); (try simp only [Int.toNat_natCast, etas, elDef]); first | done | omega | grind | (simp only [*]; done) | (simp [*]; done)))); (all_goals (conv => whnf)); (repeat' (first | exact trivial | rfl | (refine nilEq ?_; first | rfl | (simp only [*]; done) | (simp [*]; done) | grind) | apply And.intro | ((first | refine intEq ?_ | refine boolEq ?_ | refine strEq ?_ | refine psEq ?_ | refine nilEq ?_ | refine arrEq ?_); (try simp only [Int.toNat_natCast, etas, elDef]); first | done | omega | grind | (simp only [*]; done) | (simp [*]; done)) | ((try simp only [Int.toNat_natCast, etas, elDef]); first | done | omega | grind | (simp only [*]; done) | (simp [*]; done)))), (by exact sgOk_of (by rfl))⟩
    · rename_i h1
      have e9 := hst.2 h
      exact ⟨(j + 1, m'), [], [], ⟨by simp only; omega, e9⟩, by simp only; omega, by (conv => whnf); (repeat' (first | exact trivial | rfl | (refine nilEq ?_; first | rfl | (simp only [*]; done) | (simp [*]; done) | grind) | apply And.intro | ((first | refine intEq ?_ | refine boolEq ?_ | refine strEq ?_ | refine psEq ?_ | refine nilEq ?_ | refine arrEq ?_); (try simp only [Int.toNat_natCast, etas, elDef]); first | done | omega | grind | (simp only [*]; done) | (simp [*]; done)))); (all_goals (conv => whnf)); (repeat' (first | exact trivial | rfl | (refine nilEq ?_; first | rfl | (simp only [*]; done) | (simp [*]; done) | grind) | apply And.intro | ((first | refine intEq ?_ | refine boolEq ?_ | refine strEq ?_ | refine psEq ?_ | refine nilEq ?_ | refine arrEq ?_); (try simp only [Int.toNat_natCast, etas, elDef]); first | done | omega | grind | (simp only [*]; done) | (simp [*]; done)) | ((try simp only [Int.toNat_natCast, etas, elDef]); first | done | omega | grind | (simp only [*]; done) | (simp [*]; done)))), (by exact sgOk_of (by rfl))⟩
    · rw [hme, show b.names.length = j by omega, ← hm'] at hK
      exact hK
theorem r54 : ∀ k, (CtrOK Tryd.prog 54 (.gen .ps (Ck54 k)) ∧ Callable Tryd.prog 54) := by
  intro k
  induction k with
  | zero =>
    exact ⟨fun args K h => by
        unfold Ck54 at h; split at h
        · exact absurd h.o (Nat.not_lt_zero _)
        · exact h.elim, callable Tryd.func54 rfl (by rfl)⟩
  | succ k ih =>
    refine gen_ok (E := E54 k) (mkE_cons ih (mkE_cons s62 (mkE_cons s69 (mkE_cons s74k (mkE_cons s79 (mkE_nil tab_ok)))))) mix (O := O54) (C := (Ck54 (k + 1))) (own := .ps) Tryd.func54 rfl (by rfl) (by kernel_rfl) (fun args K h hbd => ?_)
    unfold Ck54 at h; split at h
    case h_2 => exact h.elim
    exact ⟨Nat.le_of_ble_eq_true rfl, a54 k ⟨_, _, _, _, _⟩ ⟨_, _, _, _, _⟩ h.o (by exact hbd) _ h.k⟩
theorem s54 : (CtrOK Tryd.prog 54 (.gen .ps C54) ∧ Callable Tryd.prog 54) := by
  refine ⟨fun args K h => ?_, (r54 0).2⟩
  unfold C54 at h; split at h
  · exact (r54 (m54 ⟨_, _, _, _, _⟩ ⟨_, _, _, _, _⟩ + 1)).1 _ K ⟨Nat.lt_succ_self _, h⟩
  · exact h.elim
noncomputable def c22 (a : Nd) (b : Nd) (K : AV → List AV → Prop) : Prop :=
    K (optN (mergeForM a b)) []
noncomputable def C22 : List AV → (AV → List AV → Prop) → Prop
  | [.st [.int .i64 a_0, .int .i64 a_1, .str a_2, .ps .str a_3, .ps .node a_4], .st [.int .i64 b_0, .int .i64 b_1, .str b_2, .ps .str b_3, .ps .node b_4]], K => c22 ⟨a_0, a_1, a_2, a_3, a_4⟩ ⟨b_0, b_1, b_2, b_3, b_4⟩ K
  | _, _ => False
noncomputable def E22 : Ctx := mkE tab [(31, .pure F31), (33, .gen .ps C33), (53, .pure F53), (54, .gen .ps C54)]
noncomputable def O22 : Nat → List DI := ordL []
theorem a22 (a : Nd) (b : Nd) (hb : BdAs [.st (ndC a), .st (ndC b)]) (K : AV → List AV → Prop) (h : c22 a b K) : abody E22 O22 .ps Tryd.f22 (Tryd.f22.body.getD .skip) [.st (ndC a), .st (ndC b)] K := by
  simp only [BdAs, BdA, BdL, BdC, MX, ndC, shC, itC, stC, opC, chC, nwC, flC, rqC, rsC, enc, List.cons_append, List.nil_append, and_true, true_and] at hb
  unfold c22 at h
  have hK9 := h
  have h1 := fun h => validM_ok (n := a) h
  have h2 := fun h => validM_ok (n := b) h
  conv => whnf
  repeat' first
    | (refine Cnd.mk (fun h => ?_) (fun h => ?_) <;> (try simp [etas, elDef, -List.getD_eq_getElem?_getD] at h) <;> conv => whnf)
    | (refine Obl.mk (by first | omega | rfl | exact inK_byte _ | (simp only [inK, Int.toNat_natCast, etas, elDef, o53, m53, m54] <;> first | omega | grind) | grind [inK, o53, m53, m54]) ?_ <;> conv => whnf)
    | (refine OblG.mk (by conv => whnf
                          repeat (first | (refine Bx.mk ?_) | (intro h; (try simp [etas, elDef, -List.getD_eq_getElem?_getD] at h); conv => whnf))
                          first | omega | rfl | exact inK_byte _ | (simp only [inK, Int.toNat_natCast, etas, elDef, o53, m53, m54] <;> first | omega | grind) | grind [inK, o53, m53, m54]) ?_ <;> conv => whnf)
    | (refine Gd.mk (fun h => ?_) <;> (try simp [etas, elDef, -List.getD_eq_getElem?_getD] at h) <;> conv => whnf)
    | (refine And.intro ?_ ?_ <;> conv => whnf)
    | exact True.intro
    | (intro; conv => whnf)
  · have e : mergeForM a b = none := by unfold mergeForM; rw [if_neg (by grind)]
    exact leafV hK9 (by rw [e]; rfl)
  · have e : mergeForM a b = if true && validM (patM a b) then some (patM a b) else none := by
      unfold mergeForM
      rw [if_pos (by grind), Bool.true_and]
    refine leafV hK9 ?_
    rw [e]
    simp only [optN, nd_eta]; try rfl
theorem s22 : (CtrOK Tryd.prog 22 (.gen .ps C22) ∧ Callable Tryd.prog 22) := by
  refine gen_ok (E := E22) (mkE_cons s31 (mkE_cons s33 (mkE_cons s53 (mkE_cons s54 (mkE_nil tab_ok))))) mix (O := O22) (C := C22) (own := .ps) Tryd.func22 rfl (by rfl) (by kernel_rfl) (fun args K h hbd => ?_)
  unfold C22 at h; split at h
  case h_2 => exact h.elim
  exact ⟨Nat.le_of_ble_eq_true rfl, a22 ⟨_, _, _, _, _⟩ ⟨_, _, _, _, _⟩ (by exact hbd) _ h⟩
noncomputable def c20 (code : List Int) (K : AV → List AV → Prop) : Prop :=
    Obl (byOk code) (∀ (a b : Nd), K (.tup [.st (ndC a), .st (ndC b)]) [])
noncomputable def C20 : List AV → (AV → List AV → Prop) → Prop
  | [.ps .u8 code], K => c20 code K
  | _, _ => False
noncomputable def E20 : Ctx := mkE tab [(31, .pure F31), (42, .gen .ow C42), (45, .gen .ps C45), (49, .gen .ps C49), (50, .gen .ps C50)]
noncomputable def O20 : Nat → List DI := ordL [(5, [.q 0, .q 1, .l 2 [1], .l 3 []])]
theorem a20 (code : List Int) (hb : BdAs [.ps .u8 code]) (K : AV → List AV → Prop) (h : c20 code K) : abody E20 O20 .ps Tryd.f20 (Tryd.f20.body.getD .skip) [.ps .u8 code] K := by
  simp only [BdAs, BdA, BdL, BdC, MX, ndC, shC, itC, stC, opC, chC, nwC, flC, rqC, rsC, enc, List.cons_append, List.nil_append, and_true, true_and] at hb
  unfold c20 at h
  obtain ⟨ho, hK⟩ := h
  have hz := okN_zero
  unfold zeroN at hz
  have hv := fun n h => validM_ok (n := n) h
  conv => whnf
  repeat' first
    | (refine Cnd.mk (fun h => ?_) (fun h => ?_) <;> (try simp [etas, elDef, -List.getD_eq_getElem?_getD] at h) <;> conv => whnf)
    | (refine Obl.mk (by first | omega | rfl | exact inK_byte _ | (simp only [inK, Int.toNat_natCast, etas, elDef, m50] <;> first | omega | grind) | grind [inK, m50]) ?_ <;> conv => whnf)
    | (refine OblG.mk (by conv => whnf
                          repeat (first | (refine Bx.mk ?_) | (intro h; (try simp [etas, elDef, -List.getD_eq_getElem?_getD] at h); conv => whnf))
                          first | omega | rfl | exact inK_byte _ | (simp only [inK, Int.toNat_natCast, etas, elDef, m50] <;> first | omega | grind) | grind [inK, m50]) ?_ <;> conv => whnf)
    | (refine Gd.mk (fun h => ?_) <;> (try simp [etas, elDef, -List.getD_eq_getElem?_getD] at h) <;> conv => whnf)
    | (refine And.intro ?_ ?_ <;> conv => whnf)
    | exact True.intro
    | (intro; conv => whnf)
  all_goals exact hK ⟨_, _, _, _, _⟩ ⟨_, _, _, _, _⟩
theorem s20 : (CtrOK Tryd.prog 20 (.gen .ps C20) ∧ Callable Tryd.prog 20) := by
  refine gen_ok (E := E20) (mkE_cons s31 (mkE_cons s42 (mkE_cons s45 (mkE_cons s49 (mkE_cons s50 (mkE_nil tab_ok)))))) mix (O := O20) (C := C20) (own := .ps) Tryd.func20 rfl (by rfl) (by kernel_rfl) (fun args K h hbd => ?_)
  unfold C20 at h; split at h
  case h_2 => exact h.elim
  exact ⟨Nat.le_of_ble_eq_true rfl, a20 _ (by exact hbd) _ h⟩
end Go.Rs

