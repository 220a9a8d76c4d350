import Derived.Test.YtcmdkiolbhccgaaBase
import Derived.Test.YtcmdkiolbhccgaaMA
set_option linter.all false
namespace Go.Rs
open Go.Proofs
set_option maxRecDepth 100000
set_option linter.unusedVariables false
set_option linter.unusedSimpArgs false
noncomputable def v18 (n : Int) (a : Int) (b : Int) : AV := .bool (decide (a ≤ n) && decide (n ≤ b))
noncomputable def o18 (n : Int) (a : Int) (b : Int) : Prop := True
noncomputable def F18 : List AV → QR
  | [.int .i64 n, .int .i64 a, .int .i64 b] => some (none, v18 n a b)
  | _ => none
noncomputable def E18 : Ctx := mkE tab []
noncomputable def O18 : Nat → List DI := ordL []
theorem a18 (n : Int) (a : Int) (b : Int) (hb : BdAs [.int .i64 n, .int .i64 a, .int .i64 b]) (ho : o18 n a b) (K : AV → List AV → Prop) (hK : K (v18 n a b) []) : abody E18 O18 .ps Try.f18 (Try.f18.body.getD .skip) [.int .i64 n, .int .i64 a, .int .i64 b] K := by
  simp only [BdAs, BdA, BdL, BdC, MX, ndC, shC, itC, stC, opC, chC, nwC, flC, rqC, rsC, enc, List.cons_append, List.nil_append, and_true, true_and] at hb
  unfold v18 at hK
  conv => whnf
  exact hK
theorem s18 : (CtrOK Try.prog 18 (.pure F18) ∧ Callable Try.prog 18) := by
  refine pure_ok (E := E18) (mkE_nil tab_ok) mix (O := O18) (F := F18) Try.func18 rfl (by rfl) (by kernel_rfl) (fun args o v h => ?_) (fun args o v h => ?_) (fun args o v h hbd hp K hK => ?_)
  · unfold F18 at h; split at h <;> cases h; first | trivial | (simp [v18, Scalar, Scalar2, Scalar1, stC, ndC, itC, chC, nwC])
  · unfold F18 at h; split at h <;> cases h; exact Nat.le_of_ble_eq_true rfl
  · unfold F18 at h; split at h
    case h_2 => cases h
    cases h
    exact a18 _ _ _ (by exact hbd) trivial K hK
noncomputable def v84 (s : Bs) : AV := .bool (txtM s)
noncomputable def o84 (s : Bs) : Prop := True
noncomputable def F84 : List AV → QR
  | [.str s] => some (none, v84 s)
  | _ => none
noncomputable def E84 : Ctx := mkE tab [(18, .pure F18)]
noncomputable def O84 : Nat → List DI := ordL []
theorem a84 (s : Bs) (hb : BdAs [.str s]) (ho : o84 s) (K : AV → List AV → Prop) (hK : K (v84 s) []) : abody E84 O84 .ps Try.f84 (Try.f84.body.getD .skip) [.str s] K := by
  simp only [BdAs, BdA, BdL, BdC, MX, ndC, shC, itC, stC, opC, chC, nwC, flC, rqC, rsC, enc, List.cons_append, List.nil_append, and_true, true_and] at hb
  unfold v84 at hK
  conv => whnf
  refine aloop_intro Nat (fun k => k ≤ s.length ∧ ∀ j, j < k → chrOk (s.getD j 0) = true) (fun k => s.length - k) (fun k => [(3, .int .i64 k)]) (fun _ => []) [] 0 [] [] ⟨by simp, by simp⟩ ?_ (by exact sgOk_of (by rfl)) ?_
  · (conv => whnf); (repeat' (first | exact trivial | rfl | (refine nilEq ?_; first | rfl | (simp only [*]; done) | (simp [*]; done) | grind) | apply And.intro | ((first | refine intEq ?_ | refine boolEq ?_ | refine strEq ?_ | refine psEq ?_ | refine nilEq ?_ | refine arrEq ?_); (try simp only [Int.toNat_natCast, etas, elDef]); first | done | omega | grind | (simp only [*]; done) | (simp [*]; done)))); (all_goals (conv => whnf)); (repeat' (first | exact trivial | rfl | (refine nilEq ?_; first | rfl | (simp only [*]; done) | (simp [*]; done) | grind) | apply And.intro | ((first | refine intEq ?_ | refine boolEq ?_ | refine strEq ?_ | refine psEq ?_ | refine nilEq ?_ | refine arrEq ?_); (try simp only [Int.toNat_natCast, etas, elDef]); first | done | omega | grind | (simp only [*]; done) | (simp [*]; done)) | ((try simp only [Int.toNat_natCast, etas, elDef]); first | done | omega | grind | (simp only [*]; done) | (simp [*]; done))))
  rintro k ⟨hk, hj⟩
  conv => whnf
  repeat' first
    | (refine Cnd.mk (fun h => ?_) (fun h => ?_) <;> (try simp [etas, elDef, -List.getD_eq_getElem?_getD] at h) <;> conv => whnf)
    | (refine Obl.mk (by first | omega | rfl | exact inK_byte _ | (simp only [inK, Int.toNat_natCast, etas, elDef] <;> first | omega | grind) | grind [inK]) ?_ <;> conv => whnf)
    | (refine OblG.mk (by conv => whnf
                          repeat (first | (refine Bx.mk ?_) | (intro h; (try simp [etas, elDef, -List.getD_eq_getElem?_getD] at h); conv => whnf))
                          first | omega | rfl | exact inK_byte _ | (simp only [inK, Int.toNat_natCast, etas, elDef] <;> first | omega | grind) | grind [inK]) ?_ <;> conv => whnf)
    | (refine Gd.mk (fun h => ?_) <;> (try simp [etas, elDef, -List.getD_eq_getElem?_getD] at h) <;> conv => whnf)
    | (refine And.intro ?_ ?_ <;> conv => whnf)
    | exact True.intro
    | (intro; conv => whnf)
  · have : chrOk (s.getD k 0) = false := by grind [chrOk]
    exact leafB hK (by grind [txtM, all_no])
  · refine ⟨k + 1, [], [], ⟨by omega, fun j hjl => ?_⟩, by omega, ?_, (by exact sgOk_of (by rfl))⟩
    · have : chrOk (s.getD k 0) = true := by grind [chrOk]
      grind
    · (conv => whnf); (repeat' (first | exact trivial | rfl | (refine nilEq ?_; first | rfl | (simp only [*]; done) | (simp [*]; done) | grind) | apply And.intro | ((first | refine intEq ?_ | refine boolEq ?_ | refine strEq ?_ | refine psEq ?_ | refine nilEq ?_ | refine arrEq ?_); (try simp only [Int.toNat_natCast, etas, elDef]); first | done | omega | grind | (simp only [*]; done) | (simp [*]; done)))); (all_goals (conv => whnf)); (repeat' (first | exact trivial | rfl | (refine nilEq ?_; first | rfl | (simp only [*]; done) | (simp [*]; done) | grind) | apply And.intro | ((first | refine intEq ?_ | refine boolEq ?_ | refine strEq ?_ | refine psEq ?_ | refine nilEq ?_ | refine arrEq ?_); (try simp only [Int.toNat_natCast, etas, elDef]); first | done | omega | grind | (simp only [*]; done) | (simp [*]; done)) | ((try simp only [Int.toNat_natCast, etas, elDef]); first | done | omega | grind | (simp only [*]; done) | (simp [*]; done))))
  · have : s.all chrOk = true := (all_iff s _).2 (by grind)
    exact leafB hK (by grind [txtM])
theorem s84 : (CtrOK Try.prog 84 (.pure F84) ∧ Callable Try.prog 84) := by
  refine pure_ok (E := E84) (mkE_cons s18 (mkE_nil tab_ok)) mix (O := O84) (F := F84) Try.func84 rfl (by rfl) (by kernel_rfl) (fun args o v h => ?_) (fun args o v h => ?_) (fun args o v h hbd hp K hK => ?_)
  · unfold F84 at h; split at h <;> cases h; first | trivial | (simp [v84, Scalar, Scalar2, Scalar1, stC, ndC, itC, chC, nwC])
  · unfold F84 at h; split at h <;> cases h; exact Nat.le_of_ble_eq_true rfl
  · unfold F84 at h; split at h
    case h_2 => cases h
    cases h
    exact a84 _ (by exact hbd) trivial K hK
noncomputable def v76 (s : Bs) : AV := .bool (txtM s)
noncomputable def o76 (s : Bs) : Prop := True
noncomputable def F76 : List AV → QR
  | [.str s] => some (none, v76 s)
  | _ => none
noncomputable def E76 : Ctx := mkE tab []
noncomputable def O76 : Nat → List DI := ordL []
theorem a76 (s : Bs) (hb : BdAs [.str s]) (ho : o76 s) (K : AV → List AV → Prop) (hK : K (v76 s) []) : abody E76 O76 .ps Try.f76 (Try.f76.body.getD .skip) [.str s] K := by
  simp only [BdAs, BdA, BdL, BdC, MX, ndC, shC, itC, stC, opC, chC, nwC, flC, rqC, rsC, enc, List.cons_append, List.nil_append, and_true, true_and] at hb
  unfold v76 at hK
  conv => whnf
  repeat' first
    | (refine Cnd.mk (fun h => ?_) (fun h => ?_) <;> (try simp [etas, elDef, -List.getD_eq_getElem?_getD] at h) <;> conv => whnf)
    | (refine Obl.mk (by first | omega | rfl | exact inK_byte _ | (simp only [inK, Int.toNat_natCast, etas, elDef] <;> first | omega | grind) | grind [inK]) ?_ <;> conv => whnf)
    | (refine OblG.mk (by conv => whnf
                          repeat (first | (refine Bx.mk ?_) | (intro h; (try simp [etas, elDef, -List.getD_eq_getElem?_getD] at h); conv => whnf))
                          first | omega | rfl | exact inK_byte _ | (simp only [inK, Int.toNat_natCast, etas, elDef] <;> first | omega | grind) | grind [inK]) ?_ <;> conv => whnf)
    | (refine Gd.mk (fun h => ?_) <;> (try simp [etas, elDef, -List.getD_eq_getElem?_getD] at h) <;> conv => whnf)
    | (refine And.intro ?_ ?_ <;> conv => whnf)
    | exact True.intro
    | (intro; conv => whnf)
  · exact leafB hK (by grind [txtM])
  refine aloop_intro Nat (fun k => k ≤ s.length ∧ ∀ j, j < k → chrOk (s.getD j 0) = true) (fun k => s.length - k) (fun k => [(3, .int .i64 k)]) (fun _ => []) [] 0 [] [] ⟨by simp, by simp⟩ ?_ (by exact sgOk_of (by rfl)) ?_
  · (conv => whnf); (repeat' (first | exact trivial | rfl | (refine nilEq ?_; first | rfl | (simp only [*]; done) | (simp [*]; done) | grind) | apply And.intro | ((first | refine intEq ?_ | refine boolEq ?_ | refine strEq ?_ | refine psEq ?_ | refine nilEq ?_ | refine arrEq ?_); (try simp only [Int.toNat_natCast, etas, elDef]); first | done | omega | grind | (simp only [*]; done) | (simp [*]; done)))); (all_goals (conv => whnf)); (repeat' (first | exact trivial | rfl | (refine nilEq ?_; first | rfl | (simp only [*]; done) | (simp [*]; done) | grind) | apply And.intro | ((first | refine intEq ?_ | refine boolEq ?_ | refine strEq ?_ | refine psEq ?_ | refine nilEq ?_ | refine arrEq ?_); (try simp only [Int.toNat_natCast, etas, elDef]); first | done | omega | grind | (simp only [*]; done) | (simp [*]; done)) | ((try simp only [Int.toNat_natCast, etas, elDef]); first | done | omega | grind | (simp only [*]; done) | (simp [*]; done))))
  rintro k ⟨hk, hj⟩
  conv => whnf
  repeat' first
    | (refine Cnd.mk (fun h => ?_) (fun h => ?_) <;> (try simp [etas, elDef, -List.getD_eq_getElem?_getD] at h) <;> conv => whnf)
    | (refine Obl.mk (by first | omega | rfl | exact inK_byte _ | (simp only [inK, Int.toNat_natCast, etas, elDef] <;> first | omega | grind) | grind [inK]) ?_ <;> conv => whnf)
    | (refine OblG.mk (by conv => whnf
                          repeat (first | (refine Bx.mk ?_) | (intro h; (try simp [etas, elDef, -List.getD_eq_getElem?_getD] at h); conv => whnf))
                          first | omega | rfl | exact inK_byte _ | (simp only [inK, Int.toNat_natCast, etas, elDef] <;> first | omega | grind) | grind [inK]) ?_ <;> conv => whnf)
    | (refine Gd.mk (fun h => ?_) <;> (try simp [etas, elDef, -List.getD_eq_getElem?_getD] at h) <;> conv => whnf)
    | (refine And.intro ?_ ?_ <;> conv => whnf)
    | exact True.intro
    | (intro; conv => whnf)
  · have : chrOk (s.getD k 0) = false := by grind [chrOk]
    exact leafB hK (by grind [txtM, all_no])
  · refine ⟨k + 1, [], [], ⟨by omega, fun j hjl => ?_⟩, by omega, ?_, (by exact sgOk_of (by rfl))⟩
    · have : chrOk (s.getD k 0) = true := by grind [chrOk]
      grind
    · (conv => whnf); (repeat' (first | exact trivial | rfl | (refine nilEq ?_; first | rfl | (simp only [*]; done) | (simp [*]; done) | grind) | apply And.intro | ((first | refine intEq ?_ | refine boolEq ?_ | refine strEq ?_ | refine psEq ?_ | refine nilEq ?_ | refine arrEq ?_); (try simp only [Int.toNat_natCast, etas, elDef]); first | done | omega | grind | (simp only [*]; done) | (simp [*]; done)))); (all_goals (conv => whnf)); (repeat' (first | exact trivial | rfl | (refine nilEq ?_; first | rfl | (simp only [*]; done) | (simp [*]; done) | grind) | apply And.intro | ((first | refine intEq ?_ | refine boolEq ?_ | refine strEq ?_ | refine psEq ?_ | refine nilEq ?_ | refine arrEq ?_); (try simp only [Int.toNat_natCast, etas, elDef]); first | done | omega | grind | (simp only [*]; done) | (simp [*]; done)) | ((try simp only [Int.toNat_natCast, etas, elDef]); first | done | omega | grind | (simp only [*]; done) | (simp [*]; done))))
  · have : s.all chrOk = true := (all_iff s _).2 (by grind)
    exact leafB hK (by grind [txtM])
theorem s76 : (CtrOK Try.prog 76 (.pure F76) ∧ Callable Try.prog 76) := by
  refine pure_ok (E := E76) (mkE_nil tab_ok) mix (O := O76) (F := F76) Try.func76 rfl (by rfl) (by kernel_rfl) (fun args o v h => ?_) (fun args o v h => ?_) (fun args o v h hbd hp K hK => ?_)
  · unfold F76 at h; split at h <;> cases h; first | trivial | (simp [v76, Scalar, Scalar2, Scalar1, stC, ndC, itC, chC, nwC])
  · unfold F76 at h; split at h <;> cases h; exact Nat.le_of_ble_eq_true rfl
  · unfold F76 at h; split at h
    case h_2 => cases h
    cases h
    exact a76 _ (by exact hbd) trivial K hK
noncomputable def v77 (l : List Bs) : AV := .bool (areNamesM l)
noncomputable def o77 (l : List Bs) : Prop := True
noncomputable def F77 : List AV → QR
  | [.ps .str l] => some (none, v77 l)
  | _ => none
noncomputable def E77 : Ctx := mkE tab [(76, .pure F76)]
noncomputable def O77 : Nat → List DI := ordL []
theorem a77 (l : List Bs) (hb : BdAs [.ps .str l]) (ho : o77 l) (K : AV → List AV → Prop) (hK : K (v77 l) []) : abody E77 O77 .ps Try.f77 (Try.f77.body.getD .skip) [.ps .str l] K := by
  simp only [BdAs, BdA, BdL, BdC, MX, ndC, shC, itC, stC, opC, chC, nwC, flC, rqC, rsC, enc, List.cons_append, List.nil_append, and_true, true_and] at hb
  unfold v77 at hK
  conv => whnf
  repeat' first
    | (refine Cnd.mk (fun h => ?_) (fun h => ?_) <;> (try simp [etas, elDef, -List.getD_eq_getElem?_getD] at h) <;> conv => whnf)
    | (refine Obl.mk (by first | omega | rfl | exact inK_byte _ | (simp only [inK, Int.toNat_natCast, etas, elDef] <;> first | omega | grind) | grind [inK]) ?_ <;> conv => whnf)
    | (refine OblG.mk (by conv => whnf
                          repeat (first | (refine Bx.mk ?_) | (intro h; (try simp [etas, elDef, -List.getD_eq_getElem?_getD] at h); conv => whnf))
                          first | omega | rfl | exact inK_byte _ | (simp only [inK, Int.toNat_natCast, etas, elDef] <;> first | omega | grind) | grind [inK]) ?_ <;> conv => whnf)
    | (refine Gd.mk (fun h => ?_) <;> (try simp [etas, elDef, -List.getD_eq_getElem?_getD] at h) <;> conv => whnf)
    | (refine And.intro ?_ ?_ <;> conv => whnf)
    | exact True.intro
    | (intro; conv => whnf)
  · exact leafB hK (by grind [areNamesM])
  refine aloop_intro Nat (fun k => k ≤ l.length ∧ ∀ j, j < k → nameOk l j = true) (fun k => l.length - k) (fun k => [(10, .int .i64 k)]) (fun _ => []) [] 0 [] [] ⟨by simp, by simp⟩ ?_ (by exact sgOk_of (by rfl)) ?_
  · (conv => whnf); (repeat' (first | exact trivial | rfl | (refine nilEq ?_; first | rfl | (simp only [*]; done) | (simp [*]; done) | grind) | apply And.intro | ((first | refine intEq ?_ | refine boolEq ?_ | refine strEq ?_ | refine psEq ?_ | refine nilEq ?_ | refine arrEq ?_); (try simp only [Int.toNat_natCast, etas, elDef]); first | done | omega | grind | (simp only [*]; done) | (simp [*]; done)))); (all_goals (conv => whnf)); (repeat' (first | exact trivial | rfl | (refine nilEq ?_; first | rfl | (simp only [*]; done) | (simp [*]; done) | grind) | apply And.intro | ((first | refine intEq ?_ | refine boolEq ?_ | refine strEq ?_ | refine psEq ?_ | refine nilEq ?_ | refine arrEq ?_); (try simp only [Int.toNat_natCast, etas, elDef]); first | done | omega | grind | (simp only [*]; done) | (simp [*]; done)) | ((try simp only [Int.toNat_natCast, etas, elDef]); first | done | omega | grind | (simp only [*]; done) | (simp [*]; done))))
  rintro k ⟨hk, hj⟩
  conv => whnf
  repeat' first
    | (refine Cnd.mk (fun h => ?_) (fun h => ?_) <;> (try simp [etas, elDef, -List.getD_eq_getElem?_getD] at h) <;> conv => whnf)
    | (refine Obl.mk (by first | omega | rfl | exact inK_byte _ | (simp only [inK, Int.toNat_natCast, etas, elDef] <;> first | omega | grind) | grind [inK]) ?_ <;> conv => whnf)
    | (refine OblG.mk (by conv => whnf
                          repeat (first | (refine Bx.mk ?_) | (intro h; (try simp [etas, elDef, -List.getD_eq_getElem?_getD] at h); conv => whnf))
                          first | omega | rfl | exact inK_byte _ | (simp only [inK, Int.toNat_natCast, etas, elDef] <;> first | omega | grind) | grind [inK]) ?_ <;> conv => whnf)
    | (refine Gd.mk (fun h => ?_) <;> (try simp [etas, elDef, -List.getD_eq_getElem?_getD] at h) <;> conv => whnf)
    | (refine And.intro ?_ ?_ <;> conv => whnf)
    | exact True.intro
    | (intro; conv => whnf)
  · have : nameOk l k = false := by grind [nameOk]
    exact leafB hK (by grind [areNamesM, namesM_no])
  · refine ⟨k + 1, [], [], ⟨by omega, fun j hjl => ?_⟩, by omega, ?_, (by exact sgOk_of (by rfl))⟩
    · have : nameOk l k = true := by grind [nameOk]
      grind
    · (conv => whnf); (repeat' (first | exact trivial | rfl | (refine nilEq ?_; first | rfl | (simp only [*]; done) | (simp [*]; done) | grind) | apply And.intro | ((first | refine intEq ?_ | refine boolEq ?_ | refine strEq ?_ | refine psEq ?_ | refine nilEq ?_ | refine arrEq ?_); (try simp only [Int.toNat_natCast, etas, elDef]); first | done | omega | grind | (simp only [*]; done) | (simp [*]; done)))); (all_goals (conv => whnf)); (repeat' (first | exact trivial | rfl | (refine nilEq ?_; first | rfl | (simp only [*]; done) | (simp [*]; done) | grind) | apply And.intro | ((first | refine intEq ?_ | refine boolEq ?_ | refine strEq ?_ | refine psEq ?_ | refine nilEq ?_ | refine arrEq ?_); (try simp only [Int.toNat_natCast, etas, elDef]); first | done | omega | grind | (simp only [*]; done) | (simp [*]; done)) | ((try simp only [Int.toNat_natCast, etas, elDef]); first | done | omega | grind | (simp only [*]; done) | (simp [*]; done))))
  · have : namesM l = true := (namesM_iff l).2 (by grind)
    exact leafB hK (by grind [areNamesM])
theorem s77 : (CtrOK Try.prog 77 (.pure F77) ∧ Callable Try.prog 77) := by
  refine pure_ok (E := E77) (mkE_cons s76 (mkE_nil tab_ok)) mix (O := O77) (F := F77) Try.func77 rfl (by rfl) (by kernel_rfl) (fun args o v h => ?_) (fun args o v h => ?_) (fun args o v h hbd hp K hK => ?_)
  · unfold F77 at h; split at h <;> cases h; first | trivial | (simp [v77, Scalar, Scalar2, Scalar1, stC, ndC, itC, chC, nwC])
  · unfold F77 at h; split at h <;> cases h; exact Nat.le_of_ble_eq_true rfl
  · unfold F77 at h; split at h
    case h_2 => cases h
    cases h
    exact a77 _ (by exact hbd) trivial K hK
noncomputable def v86 (l : List Bs) : AV := .bool (namesM l)
noncomputable def o86 (l : List Bs) : Prop := True
noncomputable def F86 : List AV → QR
  | [.ps .str l] => some (none, v86 l)
  | _ => none
noncomputable def E86 : Ctx := mkE tab [(84, .pure F84)]
noncomputable def O86 : Nat → List DI := ordL [(4, [.q 0, .q 1, .q 2, .q 3, .q 4, .q 5, .q 6, .q 7, .q 8, .q 9, .q 10, .q 11, .q 12, .q 13, .q 14, .q 15, .q 16, .q 17, .q 18, .q 19, .q 20, .q 21])]
theorem a86 (l : List Bs) (hb : BdAs [.ps .str l]) (ho : o86 l) (K : AV → List AV → Prop) (hK : K (v86 l) []) : abody E86 O86 .ps Try.f86 (Try.f86.body.getD .skip) [.ps .str l] K := by
  simp only [BdAs, BdA, BdL, BdC, MX, ndC, shC, itC, stC, opC, chC, nwC, flC, rqC, rsC, enc, List.cons_append, List.nil_append, and_true, true_and] at hb
  unfold v86 at hK
  conv => whnf
  refine aloop_intro Nat (fun k => k ≤ l.length ∧ ∀ j, j < k → nameOk l j = true) (fun k => l.length - k) (fun k => [(3, .int .i64 k)]) (fun _ => []) [] 0 [] [] ⟨by simp, by simp⟩ ?_ (by exact sgOk_of (by rfl)) ?_
  · (conv => whnf); (repeat' (first | exact trivial | rfl | (refine nilEq ?_; first | rfl | (simp only [*]; done) | (simp [*]; done) | grind) | apply And.intro | ((first | refine intEq ?_ | refine boolEq ?_ | refine strEq ?_ | refine psEq ?_ | refine nilEq ?_ | refine arrEq ?_); (try simp only [Int.toNat_natCast, etas, elDef]); first | done | omega | grind | (simp only [*]; done) | (simp [*]; done)))); (all_goals (conv => whnf)); (repeat' (first | exact trivial | rfl | (refine nilEq ?_; first | rfl | (simp only [*]; done) | (simp [*]; done) | grind) | apply And.intro | ((first | refine intEq ?_ | refine boolEq ?_ | refine strEq ?_ | refine psEq ?_ | refine nilEq ?_ | refine arrEq ?_); (try simp only [Int.toNat_natCast, etas, elDef]); first | done | omega | grind | (simp only [*]; done) | (simp [*]; done)) | ((try simp only [Int.toNat_natCast, etas, elDef]); first | done | omega | grind | (simp only [*]; done) | (simp [*]; done))))
  rintro k ⟨hk, hj⟩
  conv => whnf
  repeat' first
    | (refine Cnd.mk (fun h => ?_) (fun h => ?_) <;> (try simp [etas, elDef, -List.getD_eq_getElem?_getD] at h) <;> conv => whnf)
    | (refine Obl.mk (by first | omega | rfl | exact inK_byte _ | (simp only [inK, Int.toNat_natCast, etas, elDef] <;> first | omega | grind) | grind [inK]) ?_ <;> conv => whnf)
    | (refine OblG.mk (by conv => whnf
                          repeat (first | (refine Bx.mk ?_) | (intro h; (try simp [etas, elDef, -List.getD_eq_getElem?_getD] at h); conv => whnf))
                          first | omega | rfl | exact inK_byte _ | (simp only [inK, Int.toNat_natCast, etas, elDef] <;> first | omega | grind) | grind [inK]) ?_ <;> conv => whnf)
    | (refine Gd.mk (fun h => ?_) <;> (try simp [etas, elDef, -List.getD_eq_getElem?_getD] at h) <;> conv => whnf)
    | (refine And.intro ?_ ?_ <;> conv => whnf)
    | exact True.intro
    | (intro; conv => whnf)
  · have : nameOk l k = false := by grind [nameOk]
    exact leafB hK (by grind [namesM_no])
  · refine ⟨k + 1, [], [], ⟨by omega, fun j hjl => ?_⟩, by omega, ?_, (by exact sgOk_of (by rfl))⟩
    · have : nameOk l k = true := by grind [nameOk]
      grind
    · (conv => whnf); (repeat' (first | exact trivial | rfl | (refine nilEq ?_; first | rfl | (simp only [*]; done) | (simp [*]; done) | grind) | apply And.intro | ((first | refine intEq ?_ | refine boolEq ?_ | refine strEq ?_ | refine psEq ?_ | refine nilEq ?_ | refine arrEq ?_); (try simp only [Int.toNat_natCast, etas, elDef]); first | done | omega | grind | (simp only [*]; done) | (simp [*]; done)))); (all_goals (conv => whnf)); (repeat' (first | exact trivial | rfl | (refine nilEq ?_; first | rfl | (simp only [*]; done) | (simp [*]; done) | grind) | apply And.intro | ((first | refine intEq ?_ | refine boolEq ?_ | refine strEq ?_ | refine psEq ?_ | refine nilEq ?_ | refine arrEq ?_); (try simp only [Int.toNat_natCast, etas, elDef]); first | done | omega | grind | (simp only [*]; done) | (simp [*]; done)) | ((try simp only [Int.toNat_natCast, etas, elDef]); first | done | omega | grind | (simp only [*]; done) | (simp [*]; done))))
  · have : namesM l = true := (namesM_iff l).2 (by grind)
    exact leafB hK (by grind)
theorem s86 : (CtrOK Try.prog 86 (.pure F86) ∧ Callable Try.prog 86) := by
  refine pure_ok (E := E86) (mkE_cons s84 (mkE_nil tab_ok)) mix (O := O86) (F := F86) Try.func86 rfl (by rfl) (by kernel_rfl) (fun args o v h => ?_) (fun args o v h => ?_) (fun args o v h hbd hp K hK => ?_)
  · unfold F86 at h; split at h <;> cases h; first | trivial | (simp [v86, Scalar, Scalar2, Scalar1, stC, ndC, itC, chC, nwC])
  · unfold F86 at h; split at h <;> cases h; exact Nat.le_of_ble_eq_true rfl
  · unfold F86 at h; split at h
    case h_2 => cases h
    cases h
    exact a86 _ (by exact hbd) trivial K hK
noncomputable def v64 (n : Nd) : AV := .bool (partsM n)
noncomputable def o64 (n : Nd) : Prop := True
noncomputable def F64 : List AV → QR
  | [.st [.int .i64 n_0, .int .i64 n_1, .str n_2, .ps .str n_3, .ps .node n_4]] => some (none, v64 ⟨n_0, n_1, n_2, n_3, n_4⟩)
  | _ => none
noncomputable def E64 : Ctx := mkE tab [(76, .pure F76), (77, .pure F77)]
noncomputable def O64 : Nat → List DI := ordL []
theorem a64 (n : Nd) (hb : BdAs [.st (ndC n)]) (ho : o64 n) (K : AV → List AV → Prop) (hK : K (v64 n) []) : abody E64 O64 .ps Try.f64 (Try.f64.body.getD .skip) [.st (ndC n)] K := by
  simp only [BdAs, BdA, BdL, BdC, MX, ndC, shC, itC, stC, opC, chC, nwC, flC, rqC, rsC, enc, List.cons_append, List.nil_append, and_true, true_and] at hb
  unfold v64 at hK
  conv => whnf
  repeat' first
    | (refine Cnd.mk (fun h => ?_) (fun h => ?_) <;> (try simp [etas, elDef, -List.getD_eq_getElem?_getD] at h) <;> conv => whnf)
    | (refine Obl.mk (by first | omega | rfl | exact inK_byte _ | (simp only [inK, Int.toNat_natCast, etas, elDef] <;> first | omega | grind) | grind [inK]) ?_ <;> conv => whnf)
    | (refine OblG.mk (by conv => whnf
                          repeat (first | (refine Bx.mk ?_) | (intro h; (try simp [etas, elDef, -List.getD_eq_getElem?_getD] at h); conv => whnf))
                          first | omega | rfl | exact inK_byte _ | (simp only [inK, Int.toNat_natCast, etas, elDef] <;> first | omega | grind) | grind [inK]) ?_ <;> conv => whnf)
    | (refine Gd.mk (fun h => ?_) <;> (try simp [etas, elDef, -List.getD_eq_getElem?_getD] at h) <;> conv => whnf)
    | (refine And.intro ?_ ?_ <;> conv => whnf)
    | exact True.intro
    | (intro; conv => whnf)
  all_goals exact leafB hK (by grind [partsM])
theorem s64 : (CtrOK Try.prog 64 (.pure F64) ∧ Callable Try.prog 64) := by
  refine pure_ok (E := E64) (mkE_cons s76 (mkE_cons s77 (mkE_nil tab_ok))) mix (O := O64) (F := F64) Try.func64 rfl (by rfl) (by kernel_rfl) (fun args o v h => ?_) (fun args o v h => ?_) (fun args o v h hbd hp K hK => ?_)
  · unfold F64 at h; split at h <;> cases h; first | trivial | (simp [v64, Scalar, Scalar2, Scalar1, stC, ndC, itC, chC, nwC])
  · unfold F64 at h; split at h <;> cases h; exact Nat.le_of_ble_eq_true rfl
  · unfold F64 at h; split at h
    case h_2 => cases h
    cases h
    exact a64 ⟨_, _, _, _, _⟩ (by exact hbd) trivial K hK
noncomputable def v71 (n : Nd) (d : Int) : AV := .bool (shapeM d.toNat n)
noncomputable def o71 (n : Nd) (d : Int) : Prop := 0 ≤ d ∧ d ≤ 5
noncomputable def m71 (n : Nd) (d : Int) : Nat := 2 * d.toNat
noncomputable def F71 : List AV → QR
  | [.st [.int .i64 n_0, .int .i64 n_1, .str n_2, .ps .str n_3, .ps .node n_4], .int .i64 d] => some (some (o71 ⟨n_0, n_1, n_2, n_3, n_4⟩ d), v71 ⟨n_0, n_1, n_2, n_3, n_4⟩ d)
  | _ => none
noncomputable def Fk71 (k : Nat) : List AV → QR
  | [.st [.int .i64 n_0, .int .i64 n_1, .str n_2, .ps .str n_3, .ps .node n_4], .int .i64 d] => some (some (m71 ⟨n_0, n_1, n_2, n_3, n_4⟩ d < k ∧ o71 ⟨n_0, n_1, n_2, n_3, n_4⟩ d), v71 ⟨n_0, n_1, n_2, n_3, n_4⟩ d)
  | _ => none
noncomputable def v85 (n : Nd) (d : Int) : AV := .bool (n.kids.all (shapeM (d.toNat - 1)))
noncomputable def o85 (n : Nd) (d : Int) : Prop := 1 ≤ d ∧ d ≤ 5
noncomputable def m85 (n : Nd) (d : Int) : Nat := 2 * d.toNat - 1
noncomputable def Fk85 (k : Nat) : List AV → QR
  | [.st [.int .i64 n_0, .int .i64 n_1, .str n_2, .ps .str n_3, .ps .node n_4], .int .i64 d] => some (some (m85 ⟨n_0, n_1, n_2, n_3, n_4⟩ d < k ∧ o85 ⟨n_0, n_1, n_2, n_3, n_4⟩ d), v85 ⟨n_0, n_1, n_2, n_3, n_4⟩ d)
  | _ => none
noncomputable def E71 (k : Nat) : Ctx := mkE tab [(18, .pure F18), (84, .pure F84), (85, .pure (Fk85 k)), (86, .pure F86)]
noncomputable def O71 : Nat → List DI := ordL []
theorem a71 (k : Nat) (n : Nd) (d : Int) (hm : m71 n d < k + 1) (hb : BdAs [.st (ndC n), .int .i64 d]) (ho : o71 n d) (K : AV → List AV → Prop) (hK : K (v71 n d) []) : abody (E71 k) O71 .ps Try.f71 (Try.f71.body.getD .skip) [.st (ndC n), .int .i64 d] K := by
  simp only [BdAs, BdA, BdL, BdC, MX, ndC, shC, itC, stC, opC, chC, nwC, flC, rqC, rsC, enc, List.cons_append, List.nil_append, and_true, true_and] at hb
  unfold o71 at ho
  unfold v71 at hK
  unfold m71 at hm
  have h0 : d = 0 → shapeM d.toNat n = false := fun e => by subst e; rfl
  have h1 : 0 < d → shapeM d.toNat n = (partsM n && n.kids.all (shapeM (d.toNat - 1))) := shapeM_pos n
  conv => whnf
  repeat' first
    | (refine Cnd.mk (fun h => ?_) (fun h => ?_) <;> (try simp [etas, elDef, -List.getD_eq_getElem?_getD] at h) <;> conv => whnf)
    | (refine Obl.mk (by first | omega | rfl | exact inK_byte _ | (simp only [inK, Int.toNat_natCast, etas, elDef, m71, m85, o85, m85] <;> first | omega | grind) | grind [inK, m71, m85, o85, m85]) ?_ <;> conv => whnf)
    | (refine OblG.mk (by conv => whnf
                          repeat (first | (refine Bx.mk ?_) | (intro h; (try simp [etas, elDef, -List.getD_eq_getElem?_getD] at h); conv => whnf))
                          first | omega | rfl | exact inK_byte _ | (simp only [inK, Int.toNat_natCast, etas, elDef, m71, m85, o85, m85] <;> first | omega | grind) | grind [inK, m71, m85, o85, m85]) ?_ <;> conv => whnf)
    | (refine Gd.mk (fun h => ?_) <;> (try simp [etas, elDef, -List.getD_eq_getElem?_getD] at h) <;> conv => whnf)
    | (refine And.intro ?_ ?_ <;> conv => whnf)
    | exact True.intro
    | (intro; conv => whnf)
  all_goals exact leafB hK (by grind (splits := 20) [partsM, areNamesM])
noncomputable def E85 (k : Nat) : Ctx := mkE tab [(71, .pure (Fk71 k))]
noncomputable def O85 : Nat → List DI := ordL []
theorem a85 (k : Nat) (n : Nd) (d : Int) (hm : m85 n d < k + 1) (hb : BdAs [.st (ndC n), .int .i64 d]) (ho : o85 n d) (K : AV → List AV → Prop) (hK : K (v85 n d) []) : abody (E85 k) O85 .ps Try.f85 (Try.f85.body.getD .skip) [.st (ndC n), .int .i64 d] K := by
  simp only [BdAs, BdA, BdL, BdC, MX, ndC, shC, itC, stC, opC, chC, nwC, flC, rqC, rsC, enc, List.cons_append, List.nil_append, and_true, true_and] at hb
  unfold o85 at ho
  unfold v85 at hK
  unfold m85 at hm
  have hd : (d - 1).toNat = d.toNat - 1 := by omega
  conv => whnf
  refine aloop_intro Nat (fun k => k ≤ n.kids.length ∧ ∀ j, j < k → shapeM (d.toNat - 1) (n.kids.getD j default) = true) (fun k => n.kids.length - k) (fun k => [(5, .int .i64 k)]) (fun _ => []) [2] 0 [] [] ⟨by simp, by simp⟩ ?_ (by exact sgOk_of (by rfl)) ?_
  · (conv => whnf); (repeat' (first | exact trivial | rfl | (refine nilEq ?_; first | rfl | (simp only [*]; done) | (simp [*]; done) | grind) | apply And.intro | ((first | refine intEq ?_ | refine boolEq ?_ | refine strEq ?_ | refine psEq ?_ | refine nilEq ?_ | refine arrEq ?_); (try simp only [Int.toNat_natCast, etas, elDef]); first | done | omega | grind | (simp only [*]; done) | (simp [*]; done)))); (all_goals (conv => whnf)); (repeat' (first | exact trivial | rfl | (refine nilEq ?_; first | rfl | (simp only [*]; done) | (simp [*]; done) | grind) | apply And.intro | ((first | refine intEq ?_ | refine boolEq ?_ | refine strEq ?_ | refine psEq ?_ | refine nilEq ?_ | refine arrEq ?_); (try simp only [Int.toNat_natCast, etas, elDef]); first | done | omega | grind | (simp only [*]; done) | (simp [*]; done)) | ((try simp only [Int.toNat_natCast, etas, elDef]); first | done | omega | grind | (simp only [*]; done) | (simp [*]; done))))
  rintro i ⟨hk, hj⟩
  conv => whnf
  repeat' first
    | (refine Cnd.mk (fun h => ?_) (fun h => ?_) <;> (try simp [etas, elDef, -List.getD_eq_getElem?_getD] at h) <;> conv => whnf)
    | (refine Obl.mk (by first | omega | rfl | exact inK_byte _ | (simp only [inK, Int.toNat_natCast, etas, elDef, m71, m85, o71, m71] <;> first | omega | grind) | grind [inK, m71, m85, o71, m71]) ?_ <;> conv => whnf)
    | (refine OblG.mk (by conv => whnf
                          repeat (first | (refine Bx.mk ?_) | (intro h; (try simp [etas, elDef, -List.getD_eq_getElem?_getD] at h); conv => whnf))
                          first | omega | rfl | exact inK_byte _ | (simp only [inK, Int.toNat_natCast, etas, elDef, m71, m85, o71, m71] <;> first | omega | grind) | grind [inK, m71, m85, o71, m71]) ?_ <;> conv => whnf)
    | (refine Gd.mk (fun h => ?_) <;> (try simp [etas, elDef, -List.getD_eq_getElem?_getD] at h) <;> conv => whnf)
    | (refine And.intro ?_ ?_ <;> conv => whnf)
    | exact True.intro
    | (intro; conv => whnf)
  · exact leafB hK (allN_no (j := i) (by omega) (by grind))
  · refine ⟨i + 1, [], [], ⟨by omega, fun j hjl => ?_⟩, by omega, ?_, (by exact sgOk_of (by rfl))⟩
    · have : shapeM (d.toNat - 1) (n.kids.getD i default) = true := by grind
      grind
    · (conv => whnf); (repeat' (first | exact trivial | rfl | (refine nilEq ?_; first | rfl | (simp only [*]; done) | (simp [*]; done) | grind) | apply And.intro | ((first | refine intEq ?_ | refine boolEq ?_ | refine strEq ?_ | refine psEq ?_ | refine nilEq ?_ | refine arrEq ?_); (try simp only [Int.toNat_natCast, etas, elDef]); first | done | omega | grind | (simp only [*]; done) | (simp [*]; done)))); (all_goals (conv => whnf)); (repeat' (first | exact trivial | rfl | (refine nilEq ?_; first | rfl | (simp only [*]; done) | (simp [*]; done) | grind) | apply And.intro | ((first | refine intEq ?_ | refine boolEq ?_ | refine strEq ?_ | refine psEq ?_ | refine nilEq ?_ | refine arrEq ?_); (try simp only [Int.toNat_natCast, etas, elDef]); first | done | omega | grind | (simp only [*]; done) | (simp [*]; done)) | ((try simp only [Int.toNat_natCast, etas, elDef]); first | done | omega | grind | (simp only [*]; done) | (simp [*]; done))))
  · exact leafB hK ((allN_iff _ _).2 (by grind))
theorem r71_85 : ∀ k, (CtrOK Try.prog 71 (.pure (Fk71 k)) ∧ Callable Try.prog 71) ∧ (CtrOK Try.prog 85 (.pure (Fk85 k)) ∧ Callable Try.prog 85) := by
  intro k
  induction k with
  | zero =>
    exact ⟨⟨⟨fun args o v h => by unfold Fk71 at h; split at h <;> cases h; first | trivial | (simp [v71, Scalar, Scalar2, Scalar1, stC, ndC, itC, chC, nwC]), fun args K h => by
        unfold pureC Fk71 at h; split at h
        · rename_i h1; split at h1 <;> cases h1; exact absurd (h.1 _ rfl).1 (Nat.not_lt_zero _)
        · exact h.elim⟩, callable Try.func71 rfl (by rfl)⟩, ⟨⟨fun args o v h => by unfold Fk85 at h; split at h <;> cases h; first | trivial | (simp [v85, Scalar, Scalar2, Scalar1, stC, ndC, itC, chC, nwC]), fun args K h => by
        unfold pureC Fk85 at h; split at h
        · rename_i h1; split at h1 <;> cases h1; exact absurd (h.1 _ rfl).1 (Nat.not_lt_zero _)
        · exact h.elim⟩, callable Try.func85 rfl (by rfl)⟩⟩
  | succ k ih =>
    refine ⟨?_, ?_⟩
    · refine pure_ok (E := E71 k) (mkE_cons s18 (mkE_cons s84 (mkE_cons ih.2 (mkE_cons s86 (mkE_nil tab_ok))))) mix (O := O71) (F := (Fk71 (k + 1))) Try.func71 rfl (by rfl) (by kernel_rfl) (fun args o v h => ?_) (fun args o v h => ?_) (fun args o v h hbd hp K hK => ?_)
      · unfold Fk71 at h; split at h <;> cases h; first | trivial | (simp [v71, Scalar, Scalar2, Scalar1, stC, ndC, itC, chC, nwC])
      · unfold Fk71 at h; split at h <;> cases h; exact Nat.le_of_ble_eq_true rfl
      · unfold Fk71 at h; split at h
        case h_2 => cases h
        cases h
        exact a71 k ⟨_, _, _, _, _⟩ _ (hp _ rfl).1 (by exact hbd) (hp _ rfl).2 K hK
    · refine pure_ok (E := E85 k) (mkE_cons ih.1 (mkE_nil tab_ok)) mix (O := O85) (F := (Fk85 (k + 1))) Try.func85 rfl (by rfl) (by kernel_rfl) (fun args o v h => ?_) (fun args o v h => ?_) (fun args o v h hbd hp K hK => ?_)
      · unfold Fk85 at h; split at h <;> cases h; first | trivial | (simp [v85, Scalar, Scalar2, Scalar1, stC, ndC, itC, chC, nwC])
      · unfold Fk85 at h; split at h <;> cases h; exact Nat.le_of_ble_eq_true rfl
      · unfold Fk85 at h; split at h
        case h_2 => cases h
        cases h
        exact a85 k ⟨_, _, _, _, _⟩ _ (hp _ rfl).1 (by exact hbd) (hp _ rfl).2 K hK
theorem s71 : (CtrOK Try.prog 71 (.pure F71) ∧ Callable Try.prog 71) := by
  refine ⟨⟨fun args o v h => ?_, fun args K h => ?_⟩, (r71_85 0).1.2⟩
  · unfold F71 at h; split at h <;> cases h; first | trivial | (simp [v71, Scalar, Scalar2, Scalar1, stC, ndC, itC, chC, nwC])
  · unfold pureC F71 at h; split at h
    · rename_i h1; split at h1 <;> cases h1
      exact (r71_85 (m71 ⟨_, _, _, _, _⟩ _ + 1)).1.1.2 _ K ⟨fun p hp => by cases hp; exact ⟨Nat.lt_succ_self _, (h.1 _ rfl)⟩, h.2⟩
    · exact h.elim
end Go.Rs

