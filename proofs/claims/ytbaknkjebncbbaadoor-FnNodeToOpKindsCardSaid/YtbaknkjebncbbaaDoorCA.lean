import Derived.Test.YtbaknkjebncbbaaDoorBase
import Derived.Test.YtbaknkjebncbbaaDoorMA
set_option linter.all false
namespace Go.Rs
open Go.Proofs
set_option maxRecDepth 100000
set_option linter.unusedVariables false
set_option linter.unusedSimpArgs false
noncomputable def v61 (n : Int) (a : Int) (b : Int) : AV := .bool (decide (a ≤ n) && decide (n ≤ b))
noncomputable def o61 (n : Int) (a : Int) (b : Int) : Prop := True
noncomputable def F61 : List AV → QR
  | [.int .i64 n, .int .i64 a, .int .i64 b] => some (none, v61 n a b)
  | _ => none
noncomputable def E61 : Ctx := mkE tab []
noncomputable def O61 : Nat → List DI := ordL []
theorem a61 (n : Int) (a : Int) (b : Int) (hb : BdAs [.int .i64 n, .int .i64 a, .int .i64 b]) (ho : o61 n a b) (K : AV → List AV → Prop) (hK : K (v61 n a b) []) : abody E61 O61 .ps Tryd.f61 (Tryd.f61.body.getD .skip) [.int .i64 n, .int .i64 a, .int .i64 b] K := by
  simp only [BdAs, BdA, BdL, BdC, MX, ndC, shC, itC, stC, opC, chC, nwC, flC, rqC, rsC, enc, List.cons_append, List.nil_append, and_true, true_and] at hb
  unfold v61 at hK
  conv => whnf
  exact hK
theorem s61 : (CtrOK Tryd.prog 61 (.pure F61) ∧ Callable Tryd.prog 61) := by
  refine pure_ok (E := E61) (mkE_nil tab_ok) mix (O := O61) (F := F61) Tryd.func61 rfl (by rfl) (by kernel_rfl) (fun args o v h => ?_) (fun args o v h => ?_) (fun args o v h hbd hp K hK => ?_)
  · unfold F61 at h; split at h <;> cases h; first | trivial | (simp [v61, Scalar, Scalar2, Scalar1, stC, ndC, itC, chC, nwC])
  · unfold F61 at h; split at h <;> cases h; exact Nat.le_of_ble_eq_true rfl
  · unfold F61 at h; split at h
    case h_2 => cases h
    cases h
    exact a61 _ _ _ (by exact hbd) trivial K hK
noncomputable def v67 (s : Bs) : AV := .bool (txtM s)
noncomputable def o67 (s : Bs) : Prop := True
noncomputable def F67 : List AV → QR
  | [.str s] => some (none, v67 s)
  | _ => none
noncomputable def E67 : Ctx := mkE tab [(61, .pure F61)]
noncomputable def O67 : Nat → List DI := ordL []
theorem a67 (s : Bs) (hb : BdAs [.str s]) (ho : o67 s) (K : AV → List AV → Prop) (hK : K (v67 s) []) : abody E67 O67 .ps Tryd.f67 (Tryd.f67.body.getD .skip) [.str s] K := by
  simp only [BdAs, BdA, BdL, BdC, MX, ndC, shC, itC, stC, opC, chC, nwC, flC, rqC, rsC, enc, List.cons_append, List.nil_append, and_true, true_and] at hb
  unfold v67 at hK
  conv => whnf
  refine aloop_intro Nat (fun k => k ≤ s.length ∧ ∀ j, j < k → chrOk (s.getD j 0) = true) (fun k => s.length - k) (fun k => [(3, .int .i64 k)]) (fun _ => []) [] 0 [] [] ⟨by simp, by simp⟩ ?_ (by exact sgOk_of (by rfl)) ?_
  · (conv => whnf); (repeat' (first | exact trivial | rfl | (refine nilEq ?_; first | rfl | (simp only [*]; done) | (simp [*]; done) | grind) | apply And.intro | ((first | refine intEq ?_ | refine boolEq ?_ | refine strEq ?_ | refine psEq ?_ | refine nilEq ?_ | refine arrEq ?_); (try simp only [Int.toNat_natCast, etas, elDef]); first | done | omega | grind | (simp only [*]; done) | (simp [*]; done)))); (all_goals (conv => whnf)); (repeat' (first | exact trivial | rfl | (refine nilEq ?_; first | rfl | (simp only [*]; done) | (simp [*]; done) | grind) | apply And.intro | ((first | refine intEq ?_ | refine boolEq ?_ | refine strEq ?_ | refine psEq ?_ | refine nilEq ?_ | refine arrEq ?_); (try simp only [Int.toNat_natCast, etas, elDef]); first | done | omega | grind | (simp only [*]; done) | (simp [*]; done)) | ((try simp only [Int.toNat_natCast, etas, elDef]); first | done | omega | grind | (simp only [*]; done) | (simp [*]; done))))
  rintro k ⟨hk, hj⟩
  conv => whnf
  repeat' first
    | (refine Cnd.mk (fun h => ?_) (fun h => ?_) <;> (try simp [etas, elDef, -List.getD_eq_getElem?_getD] at h) <;> conv => whnf)
    | (refine Obl.mk (by first | omega | rfl | exact inK_byte _ | (simp only [inK, Int.toNat_natCast, etas, elDef] <;> first | omega | grind) | grind [inK]) ?_ <;> conv => whnf)
    | (refine OblG.mk (by conv => whnf
                          repeat (first | (refine Bx.mk ?_) | (intro h; (try simp [etas, elDef, -List.getD_eq_getElem?_getD] at h); conv => whnf))
                          first | omega | rfl | exact inK_byte _ | (simp only [inK, Int.toNat_natCast, etas, elDef] <;> first | omega | grind) | grind [inK]) ?_ <;> conv => whnf)
    | (refine Gd.mk (fun h => ?_) <;> (try simp [etas, elDef, -List.getD_eq_getElem?_getD] at h) <;> conv => whnf)
    | (refine And.intro ?_ ?_ <;> conv => whnf)
    | exact True.intro
    | (intro; conv => whnf)
  · have : chrOk (s.getD k 0) = false := by grind [chrOk]
    exact leafB hK (by grind [txtM, all_no])
  · refine ⟨k + 1, [], [], ⟨by omega, fun j hjl => ?_⟩, by omega, ?_, (by exact sgOk_of (by rfl))⟩
    · have : chrOk (s.getD k 0) = true := by grind [chrOk]
      grind
    · (conv => whnf); (repeat' (first | exact trivial | rfl | (refine nilEq ?_; first | rfl | (simp only [*]; done) | (simp [*]; done) | grind) | apply And.intro | ((first | refine intEq ?_ | refine boolEq ?_ | refine strEq ?_ | refine psEq ?_ | refine nilEq ?_ | refine arrEq ?_); (try simp only [Int.toNat_natCast, etas, elDef]); first | done | omega | grind | (simp only [*]; done) | (simp [*]; done)))); (all_goals (conv => whnf)); (repeat' (first | exact trivial | rfl | (refine nilEq ?_; first | rfl | (simp only [*]; done) | (simp [*]; done) | grind) | apply And.intro | ((first | refine intEq ?_ | refine boolEq ?_ | refine strEq ?_ | refine psEq ?_ | refine nilEq ?_ | refine arrEq ?_); (try simp only [Int.toNat_natCast, etas, elDef]); first | done | omega | grind | (simp only [*]; done) | (simp [*]; done)) | ((try simp only [Int.toNat_natCast, etas, elDef]); first | done | omega | grind | (simp only [*]; done) | (simp [*]; done))))
  · have : s.all chrOk = true := (all_iff s _).2 (by grind)
    exact leafB hK (by grind [txtM])
theorem s67 : (CtrOK Tryd.prog 67 (.pure F67) ∧ Callable Tryd.prog 67) := by
  refine pure_ok (E := E67) (mkE_cons s61 (mkE_nil tab_ok)) mix (O := O67) (F := F67) Tryd.func67 rfl (by rfl) (by kernel_rfl) (fun args o v h => ?_) (fun args o v h => ?_) (fun args o v h hbd hp K hK => ?_)
  · unfold F67 at h; split at h <;> cases h; first | trivial | (simp [v67, Scalar, Scalar2, Scalar1, stC, ndC, itC, chC, nwC])
  · unfold F67 at h; split at h <;> cases h; exact Nat.le_of_ble_eq_true rfl
  · unfold F67 at h; split at h
    case h_2 => cases h
    cases h
    exact a67 _ (by exact hbd) trivial K hK
noncomputable def v50 (s : Bs) : AV := .bool (txtM s)
noncomputable def o50 (s : Bs) : Prop := True
noncomputable def F50 : List AV → QR
  | [.str s] => some (none, v50 s)
  | _ => none
noncomputable def E50 : Ctx := mkE tab []
noncomputable def O50 : Nat → List DI := ordL []
theorem a50 (s : Bs) (hb : BdAs [.str s]) (ho : o50 s) (K : AV → List AV → Prop) (hK : K (v50 s) []) : abody E50 O50 .ps Tryd.f50 (Tryd.f50.body.getD .skip) [.str s] K := by
  simp only [BdAs, BdA, BdL, BdC, MX, ndC, shC, itC, stC, opC, chC, nwC, flC, rqC, rsC, enc, List.cons_append, List.nil_append, and_true, true_and] at hb
  unfold v50 at hK
  conv => whnf
  repeat' first
    | (refine Cnd.mk (fun h => ?_) (fun h => ?_) <;> (try simp [etas, elDef, -List.getD_eq_getElem?_getD] at h) <;> conv => whnf)
    | (refine Obl.mk (by first | omega | rfl | exact inK_byte _ | (simp only [inK, Int.toNat_natCast, etas, elDef] <;> first | omega | grind) | grind [inK]) ?_ <;> conv => whnf)
    | (refine OblG.mk (by conv => whnf
                          repeat (first | (refine Bx.mk ?_) | (intro h; (try simp [etas, elDef, -List.getD_eq_getElem?_getD] at h); conv => whnf))
                          first | omega | rfl | exact inK_byte _ | (simp only [inK, Int.toNat_natCast, etas, elDef] <;> first | omega | grind) | grind [inK]) ?_ <;> conv => whnf)
    | (refine Gd.mk (fun h => ?_) <;> (try simp [etas, elDef, -List.getD_eq_getElem?_getD] at h) <;> conv => whnf)
    | (refine And.intro ?_ ?_ <;> conv => whnf)
    | exact True.intro
    | (intro; conv => whnf)
  · exact leafB hK (by grind [txtM])
  refine aloop_intro Nat (fun k => k ≤ s.length ∧ ∀ j, j < k → chrOk (s.getD j 0) = true) (fun k => s.length - k) (fun k => [(3, .int .i64 k)]) (fun _ => []) [] 0 [] [] ⟨by simp, by simp⟩ ?_ (by exact sgOk_of (by rfl)) ?_
  · (conv => whnf); (repeat' (first | exact trivial | rfl | (refine nilEq ?_; first | rfl | (simp only [*]; done) | (simp [*]; done) | grind) | apply And.intro | ((first | refine intEq ?_ | refine boolEq ?_ | refine strEq ?_ | refine psEq ?_ | refine nilEq ?_ | refine arrEq ?_); (try simp only [Int.toNat_natCast, etas, elDef]); first | done | omega | grind | (simp only [*]; done) | (simp [*]; done)))); (all_goals (conv => whnf)); (repeat' (first | exact trivial | rfl | (refine nilEq ?_; first | rfl | (simp only [*]; done) | (simp [*]; done) | grind) | apply And.intro | ((first | refine intEq ?_ | refine boolEq ?_ | refine strEq ?_ | refine psEq ?_ | refine nilEq ?_ | refine arrEq ?_); (try simp only [Int.toNat_natCast, etas, elDef]); first | done | omega | grind | (simp only [*]; done) | (simp [*]; done)) | ((try simp only [Int.toNat_natCast, etas, elDef]); first | done | omega | grind | (simp only [*]; done) | (simp [*]; done))))
  rintro k ⟨hk, hj⟩
  conv => whnf
  repeat' first
    | (refine Cnd.mk (fun h => ?_) (fun h => ?_) <;> (try simp [etas, elDef, -List.getD_eq_getElem?_getD] at h) <;> conv => whnf)
    | (refine Obl.mk (by first | omega | rfl | exact inK_byte _ | (simp only [inK, Int.toNat_natCast, etas, elDef] <;> first | omega | grind) | grind [inK]) ?_ <;> conv => whnf)
    | (refine OblG.mk (by conv => whnf
                          repeat (first | (refine Bx.mk ?_) | (intro h; (try simp [etas, elDef, -List.getD_eq_getElem?_getD] at h); conv => whnf))
                          first | omega | rfl | exact inK_byte _ | (simp only [inK, Int.toNat_natCast, etas, elDef] <;> first | omega | grind) | grind [inK]) ?_ <;> conv => whnf)
    | (refine Gd.mk (fun h => ?_) <;> (try simp [etas, elDef, -List.getD_eq_getElem?_getD] at h) <;> conv => whnf)
    | (refine And.intro ?_ ?_ <;> conv => whnf)
    | exact True.intro
    | (intro; conv => whnf)
  · have : chrOk (s.getD k 0) = false := by grind [chrOk]
    exact leafB hK (by grind [txtM, all_no])
  · refine ⟨k + 1, [], [], ⟨by omega, fun j hjl => ?_⟩, by omega, ?_, (by exact sgOk_of (by rfl))⟩
    · have : chrOk (s.getD k 0) = true := by grind [chrOk]
      grind
    · (conv => whnf); (repeat' (first | exact trivial | rfl | (refine nilEq ?_; first | rfl | (simp only [*]; done) | (simp [*]; done) | grind) | apply And.intro | ((first | refine intEq ?_ | refine boolEq ?_ | refine strEq ?_ | refine psEq ?_ | refine nilEq ?_ | refine arrEq ?_); (try simp only [Int.toNat_natCast, etas, elDef]); first | done | omega | grind | (simp only [*]; done) | (simp [*]; done)))); (all_goals (conv => whnf)); (repeat' (first | exact trivial | rfl | (refine nilEq ?_; first | rfl | (simp only [*]; done) | (simp [*]; done) | grind) | apply And.intro | ((first | refine intEq ?_ | refine boolEq ?_ | refine strEq ?_ | refine psEq ?_ | refine nilEq ?_ | refine arrEq ?_); (try simp only [Int.toNat_natCast, etas, elDef]); first | done | omega | grind | (simp only [*]; done) | (simp [*]; done)) | ((try simp only [Int.toNat_natCast, etas, elDef]); first | done | omega | grind | (simp only [*]; done) | (simp [*]; done))))
  · have : s.all chrOk = true := (all_iff s _).2 (by grind)
    exact leafB hK (by grind [txtM])
theorem s50 : (CtrOK Tryd.prog 50 (.pure F50) ∧ Callable Tryd.prog 50) := by
  refine pure_ok (E := E50) (mkE_nil tab_ok) mix (O := O50) (F := F50) Tryd.func50 rfl (by rfl) (by kernel_rfl) (fun args o v h => ?_) (fun args o v h => ?_) (fun args o v h hbd hp K hK => ?_)
  · unfold F50 at h; split at h <;> cases h; first | trivial | (simp [v50, Scalar, Scalar2, Scalar1, stC, ndC, itC, chC, nwC])
  · unfold F50 at h; split at h <;> cases h; exact Nat.le_of_ble_eq_true rfl
  · unfold F50 at h; split at h
    case h_2 => cases h
    cases h
    exact a50 _ (by exact hbd) trivial K hK
noncomputable def v75 (l : List Bs) : AV := .bool (areNamesM l)
noncomputable def o75 (l : List Bs) : Prop := True
noncomputable def F75 : List AV → QR
  | [.ps .str l] => some (none, v75 l)
  | _ => none
noncomputable def E75 : Ctx := mkE tab [(50, .pure F50)]
noncomputable def O75 : Nat → List DI := ordL []
theorem a75 (l : List Bs) (hb : BdAs [.ps .str l]) (ho : o75 l) (K : AV → List AV → Prop) (hK : K (v75 l) []) : abody E75 O75 .ps Tryd.f75 (Tryd.f75.body.getD .skip) [.ps .str l] K := by
  simp only [BdAs, BdA, BdL, BdC, MX, ndC, shC, itC, stC, opC, chC, nwC, flC, rqC, rsC, enc, List.cons_append, List.nil_append, and_true, true_and] at hb
  unfold v75 at hK
  conv => whnf
  repeat' first
    | (refine Cnd.mk (fun h => ?_) (fun h => ?_) <;> (try simp [etas, elDef, -List.getD_eq_getElem?_getD] at h) <;> conv => whnf)
    | (refine Obl.mk (by first | omega | rfl | exact inK_byte _ | (simp only [inK, Int.toNat_natCast, etas, elDef] <;> first | omega | grind) | grind [inK]) ?_ <;> conv => whnf)
    | (refine OblG.mk (by conv => whnf
                          repeat (first | (refine Bx.mk ?_) | (intro h; (try simp [etas, elDef, -List.getD_eq_getElem?_getD] at h); conv => whnf))
                          first | omega | rfl | exact inK_byte _ | (simp only [inK, Int.toNat_natCast, etas, elDef] <;> first | omega | grind) | grind [inK]) ?_ <;> conv => whnf)
    | (refine Gd.mk (fun h => ?_) <;> (try simp [etas, elDef, -List.getD_eq_getElem?_getD] at h) <;> conv => whnf)
    | (refine And.intro ?_ ?_ <;> conv => whnf)
    | exact True.intro
    | (intro; conv => whnf)
  · exact leafB hK (by grind [areNamesM])
  refine aloop_intro Nat (fun k => k ≤ l.length ∧ ∀ j, j < k → nameOk l j = true) (fun k => l.length - k) (fun k => [(10, .int .i64 k)]) (fun _ => []) [] 0 [] [] ⟨by simp, by simp⟩ ?_ (by exact sgOk_of (by rfl)) ?_
  · (conv => whnf); (repeat' (first | exact trivial | rfl | (refine nilEq ?_; first | rfl | (simp only [*]; done) | (simp [*]; done) | grind) | apply And.intro | ((first | refine intEq ?_ | refine boolEq ?_ | refine strEq ?_ | refine psEq ?_ | refine nilEq ?_ | refine arrEq ?_); (try simp only [Int.toNat_natCast, etas, elDef]); first | done | omega | grind | (simp only [*]; done) | (simp [*]; done)))); (all_goals (conv => whnf)); (repeat' (first | exact trivial | rfl | (refine nilEq ?_; first | rfl | (simp only [*]; done) | (simp [*]; done) | grind) | apply And.intro | ((first | refine intEq ?_ | refine boolEq ?_ | refine strEq ?_ | refine psEq ?_ | refine nilEq ?_ | refine arrEq ?_); (try simp only [Int.toNat_natCast, etas, elDef]); first | done | omega | grind | (simp only [*]; done) | (simp [*]; done)) | ((try simp only [Int.toNat_natCast, etas, elDef]); first | done | omega | grind | (simp only [*]; done) | (simp [*]; done))))
  rintro k ⟨hk, hj⟩
  conv => whnf
  repeat' first
    | (refine Cnd.mk (fun h => ?_) (fun h => ?_) <;> (try simp [etas, elDef, -List.getD_eq_getElem?_getD] at h) <;> conv => whnf)
    | (refine Obl.mk (by first | omega | rfl | exact inK_byte _ | (simp only [inK, Int.toNat_natCast, etas, elDef] <;> first | omega | grind) | grind [inK]) ?_ <;> conv => whnf)
    | (refine OblG.mk (by conv => whnf
                          repeat (first | (refine Bx.mk ?_) | (intro h; (try simp [etas, elDef, -List.getD_eq_getElem?_getD] at h); conv => whnf))
                          first | omega | rfl | exact inK_byte _ | (simp only [inK, Int.toNat_natCast, etas, elDef] <;> first | omega | grind) | grind [inK]) ?_ <;> conv => whnf)
    | (refine Gd.mk (fun h => ?_) <;> (try simp [etas, elDef, -List.getD_eq_getElem?_getD] at h) <;> conv => whnf)
    | (refine And.intro ?_ ?_ <;> conv => whnf)
    | exact True.intro
    | (intro; conv => whnf)
  · have : nameOk l k = false := by grind [nameOk]
    exact leafB hK (by grind [areNamesM, namesM_no])
  · refine ⟨k + 1, [], [], ⟨by omega, fun j hjl => ?_⟩, by omega, ?_, (by exact sgOk_of (by rfl))⟩
    · have : nameOk l k = true := by grind [nameOk]
      grind
    · (conv => whnf); (repeat' (first | exact trivial | rfl | (refine nilEq ?_; first | rfl | (simp only [*]; done) | (simp [*]; done) | grind) | apply And.intro | ((first | refine intEq ?_ | refine boolEq ?_ | refine strEq ?_ | refine psEq ?_ | refine nilEq ?_ | refine arrEq ?_); (try simp only [Int.toNat_natCast, etas, elDef]); first | done | omega | grind | (simp only [*]; done) | (simp [*]; done)))); (all_goals (conv => whnf)); (repeat' (first | exact trivial | rfl | (refine nilEq ?_; first | rfl | (simp only [*]; done) | (simp [*]; done) | grind) | apply And.intro | ((first | refine intEq ?_ | refine boolEq ?_ | refine strEq ?_ | refine psEq ?_ | refine nilEq ?_ | refine arrEq ?_); (try simp only [Int.toNat_natCast, etas, elDef]); first | done | omega | grind | (simp only [*]; done) | (simp [*]; done)) | ((try simp only [Int.toNat_natCast, etas, elDef]); first | done | omega | grind | (simp only [*]; done) | (simp [*]; done))))
  · have : namesM l = true := (namesM_iff l).2 (by grind)
    exact leafB hK (by grind [areNamesM])
theorem s75 : (CtrOK Tryd.prog 75 (.pure F75) ∧ Callable Tryd.prog 75) := by
  refine pure_ok (E := E75) (mkE_cons s50 (mkE_nil tab_ok)) mix (O := O75) (F := F75) Tryd.func75 rfl (by rfl) (by kernel_rfl) (fun args o v h => ?_) (fun args o v h => ?_) (fun args o v h hbd hp K hK => ?_)
  · unfold F75 at h; split at h <;> cases h; first | trivial | (simp [v75, Scalar, Scalar2, Scalar1, stC, ndC, itC, chC, nwC])
  · unfold F75 at h; split at h <;> cases h; exact Nat.le_of_ble_eq_true rfl
  · unfold F75 at h; split at h
    case h_2 => cases h
    cases h
    exact a75 _ (by exact hbd) trivial K hK
noncomputable def v69 (l : List Bs) : AV := .bool (namesM l)
noncomputable def o69 (l : List Bs) : Prop := True
noncomputable def F69 : List AV → QR
  | [.ps .str l] => some (none, v69 l)
  | _ => none
noncomputable def E69 : Ctx := mkE tab [(67, .pure F67)]
noncomputable def O69 : Nat → List DI := ordL [(4, [.q 0, .q 1, .q 2, .q 3, .q 4, .q 5, .q 6, .q 7, .q 8, .q 9, .q 10, .q 11, .q 12, .q 13, .q 14, .q 15, .q 16, .q 17, .q 18, .q 19, .q 20, .q 21])]
theorem a69 (l : List Bs) (hb : BdAs [.ps .str l]) (ho : o69 l) (K : AV → List AV → Prop) (hK : K (v69 l) []) : abody E69 O69 .ps Tryd.f69 (Tryd.f69.body.getD .skip) [.ps .str l] K := by
  simp only [BdAs, BdA, BdL, BdC, MX, ndC, shC, itC, stC, opC, chC, nwC, flC, rqC, rsC, enc, List.cons_append, List.nil_append, and_true, true_and] at hb
  unfold v69 at hK
  conv => whnf
  refine aloop_intro Nat (fun k => k ≤ l.length ∧ ∀ j, j < k → nameOk l j = true) (fun k => l.length - k) (fun k => [(3, .int .i64 k)]) (fun _ => []) [] 0 [] [] ⟨by simp, by simp⟩ ?_ (by exact sgOk_of (by rfl)) ?_
  · (conv => whnf); (repeat' (first | exact trivial | rfl | (refine nilEq ?_; first | rfl | (simp only [*]; done) | (simp [*]; done) | grind) | apply And.intro | ((first | refine intEq ?_ | refine boolEq ?_ | refine strEq ?_ | refine psEq ?_ | refine nilEq ?_ | refine arrEq ?_); (try simp only [Int.toNat_natCast, etas, elDef]); first | done | omega | grind | (simp only [*]; done) | (simp [*]; done)))); (all_goals (conv => whnf)); (repeat' (first | exact trivial | rfl | (refine nilEq ?_; first | rfl | (simp only [*]; done) | (simp [*]; done) | grind) | apply And.intro | ((first | refine intEq ?_ | refine boolEq ?_ | refine strEq ?_ | refine psEq ?_ | refine nilEq ?_ | refine arrEq ?_); (try simp only [Int.toNat_natCast, etas, elDef]); first | done | omega | grind | (simp only [*]; done) | (simp [*]; done)) | ((try simp only [Int.toNat_natCast, etas, elDef]); first | done | omega | grind | (simp only [*]; done) | (simp [*]; done))))
  rintro k ⟨hk, hj⟩
  conv => whnf
  repeat' first
    | (refine Cnd.mk (fun h => ?_) (fun h => ?_) <;> (try simp [etas, elDef, -List.getD_eq_getElem?_getD] at h) <;> conv => whnf)
    | (refine Obl.mk (by first | omega | rfl | exact inK_byte _ | (simp only [inK, Int.toNat_natCast, etas, elDef] <;> first | omega | grind) | grind [inK]) ?_ <;> conv => whnf)
    | (refine OblG.mk (by conv => whnf
                          repeat (first | (refine Bx.mk ?_) | (intro h; (try simp [etas, elDef, -List.getD_eq_getElem?_getD] at h); conv => whnf))
                          first | omega | rfl | exact inK_byte _ | (simp only [inK, Int.toNat_natCast, etas, elDef] <;> first | omega | grind) | grind [inK]) ?_ <;> conv => whnf)
    | (refine Gd.mk (fun h => ?_) <;> (try simp [etas, elDef, -List.getD_eq_getElem?_getD] at h) <;> conv => whnf)
    | (refine And.intro ?_ ?_ <;> conv => whnf)
    | exact True.intro
    | (intro; conv => whnf)
  · have : nameOk l k = false := by grind [nameOk]
    exact leafB hK (by grind [namesM_no])
  · refine ⟨k + 1, [], [], ⟨by omega, fun j hjl => ?_⟩, by omega, ?_, (by exact sgOk_of (by rfl))⟩
    · have : nameOk l k = true := by grind [nameOk]
      grind
    · (conv => whnf); (repeat' (first | exact trivial | rfl | (refine nilEq ?_; first | rfl | (simp only [*]; done) | (simp [*]; done) | grind) | apply And.intro | ((first | refine intEq ?_ | refine boolEq ?_ | refine strEq ?_ | refine psEq ?_ | refine nilEq ?_ | refine arrEq ?_); (try simp only [Int.toNat_natCast, etas, elDef]); first | done | omega | grind | (simp only [*]; done) | (simp [*]; done)))); (all_goals (conv => whnf)); (repeat' (first | exact trivial | rfl | (refine nilEq ?_; first | rfl | (simp only [*]; done) | (simp [*]; done) | grind) | apply And.intro | ((first | refine intEq ?_ | refine boolEq ?_ | refine strEq ?_ | refine psEq ?_ | refine nilEq ?_ | refine arrEq ?_); (try simp only [Int.toNat_natCast, etas, elDef]); first | done | omega | grind | (simp only [*]; done) | (simp [*]; done)) | ((try simp only [Int.toNat_natCast, etas, elDef]); first | done | omega | grind | (simp only [*]; done) | (simp [*]; done))))
  · have : namesM l = true := (namesM_iff l).2 (by grind)
    exact leafB hK (by grind)
theorem s69 : (CtrOK Tryd.prog 69 (.pure F69) ∧ Callable Tryd.prog 69) := by
  refine pure_ok (E := E69) (mkE_cons s67 (mkE_nil tab_ok)) mix (O := O69) (F := F69) Tryd.func69 rfl (by rfl) (by kernel_rfl) (fun args o v h => ?_) (fun args o v h => ?_) (fun args o v h hbd hp K hK => ?_)
  · unfold F69 at h; split at h <;> cases h; first | trivial | (simp [v69, Scalar, Scalar2, Scalar1, stC, ndC, itC, chC, nwC])
  · unfold F69 at h; split at h <;> cases h; exact Nat.le_of_ble_eq_true rfl
  · unfold F69 at h; split at h
    case h_2 => cases h
    cases h
    exact a69 _ (by exact hbd) trivial K hK
noncomputable def v66 (n : Nd) : AV := .bool (partsM n)
noncomputable def o66 (n : Nd) : Prop := True
noncomputable def F66 : List AV → QR
  | [.st [.int .i64 n_0, .int .i64 n_1, .str n_2, .ps .str n_3, .ps .node n_4]] => some (none, v66 ⟨n_0, n_1, n_2, n_3, n_4⟩)
  | _ => none
noncomputable def E66 : Ctx := mkE tab [(50, .pure F50), (75, .pure F75)]
noncomputable def O66 : Nat → List DI := ordL []
theorem a66 (n : Nd) (hb : BdAs [.st (ndC n)]) (ho : o66 n) (K : AV → List AV → Prop) (hK : K (v66 n) []) : abody E66 O66 .ps Tryd.f66 (Tryd.f66.body.getD .skip) [.st (ndC n)] K := by
  simp only [BdAs, BdA, BdL, BdC, MX, ndC, shC, itC, stC, opC, chC, nwC, flC, rqC, rsC, enc, List.cons_append, List.nil_append, and_true, true_and] at hb
  unfold v66 at hK
  conv => whnf
  repeat' first
    | (refine Cnd.mk (fun h => ?_) (fun h => ?_) <;> (try simp [etas, elDef, -List.getD_eq_getElem?_getD] at h) <;> conv => whnf)
    | (refine Obl.mk (by first | omega | rfl | exact inK_byte _ | (simp only [inK, Int.toNat_natCast, etas, elDef] <;> first | omega | grind) | grind [inK]) ?_ <;> conv => whnf)
    | (refine OblG.mk (by conv => whnf
                          repeat (first | (refine Bx.mk ?_) | (intro h; (try simp [etas, elDef, -List.getD_eq_getElem?_getD] at h); conv => whnf))
                          first | omega | rfl | exact inK_byte _ | (simp only [inK, Int.toNat_natCast, etas, elDef] <;> first | omega | grind) | grind [inK]) ?_ <;> conv => whnf)
    | (refine Gd.mk (fun h => ?_) <;> (try simp [etas, elDef, -List.getD_eq_getElem?_getD] at h) <;> conv => whnf)
    | (refine And.intro ?_ ?_ <;> conv => whnf)
    | exact True.intro
    | (intro; conv => whnf)
  all_goals exact leafB hK (by grind [partsM])
theorem s66 : (CtrOK Tryd.prog 66 (.pure F66) ∧ Callable Tryd.prog 66) := by
  refine pure_ok (E := E66) (mkE_cons s50 (mkE_cons s75 (mkE_nil tab_ok))) mix (O := O66) (F := F66) Tryd.func66 rfl (by rfl) (by kernel_rfl) (fun args o v h => ?_) (fun args o v h => ?_) (fun args o v h hbd hp K hK => ?_)
  · unfold F66 at h; split at h <;> cases h; first | trivial | (simp [v66, Scalar, Scalar2, Scalar1, stC, ndC, itC, chC, nwC])
  · unfold F66 at h; split at h <;> cases h; exact Nat.le_of_ble_eq_true rfl
  · unfold F66 at h; split at h
    case h_2 => cases h
    cases h
    exact a66 ⟨_, _, _, _, _⟩ (by exact hbd) trivial K hK
noncomputable def v48 (n : Nd) (d : Int) : AV := .bool (shapeM d.toNat n)
noncomputable def o48 (n : Nd) (d : Int) : Prop := 0 ≤ d ∧ d ≤ 5
noncomputable def m48 (n : Nd) (d : Int) : Nat := 2 * d.toNat
noncomputable def F48 : List AV → QR
  | [.st [.int .i64 n_0, .int .i64 n_1, .str n_2, .ps .str n_3, .ps .node n_4], .int .i64 d] => some (some (o48 ⟨n_0, n_1, n_2, n_3, n_4⟩ d), v48 ⟨n_0, n_1, n_2, n_3, n_4⟩ d)
  | _ => none
noncomputable def Fk48 (k : Nat) : List AV → QR
  | [.st [.int .i64 n_0, .int .i64 n_1, .str n_2, .ps .str n_3, .ps .node n_4], .int .i64 d] => some (some (m48 ⟨n_0, n_1, n_2, n_3, n_4⟩ d < k ∧ o48 ⟨n_0, n_1, n_2, n_3, n_4⟩ d), v48 ⟨n_0, n_1, n_2, n_3, n_4⟩ d)
  | _ => none
noncomputable def v68 (n : Nd) (d : Int) : AV := .bool (n.kids.all (shapeM (d.toNat - 1)))
noncomputable def o68 (n : Nd) (d : Int) : Prop := 1 ≤ d ∧ d ≤ 5
noncomputable def m68 (n : Nd) (d : Int) : Nat := 2 * d.toNat - 1
noncomputable def Fk68 (k : Nat) : List AV → QR
  | [.st [.int .i64 n_0, .int .i64 n_1, .str n_2, .ps .str n_3, .ps .node n_4], .int .i64 d] => some (some (m68 ⟨n_0, n_1, n_2, n_3, n_4⟩ d < k ∧ o68 ⟨n_0, n_1, n_2, n_3, n_4⟩ d), v68 ⟨n_0, n_1, n_2, n_3, n_4⟩ d)
  | _ => none
noncomputable def E48 (k : Nat) : Ctx := mkE tab [(61, .pure F61), (67, .pure F67), (68, .pure (Fk68 k)), (69, .pure F69)]
noncomputable def O48 : Nat → List DI := ordL []
theorem a48 (k : Nat) (n : Nd) (d : Int) (hm : m48 n d < k + 1) (hb : BdAs [.st (ndC n), .int .i64 d]) (ho : o48 n d) (K : AV → List AV → Prop) (hK : K (v48 n d) []) : abody (E48 k) O48 .ps Tryd.f48 (Tryd.f48.body.getD .skip) [.st (ndC n), .int .i64 d] K := by
  simp only [BdAs, BdA, BdL, BdC, MX, ndC, shC, itC, stC, opC, chC, nwC, flC, rqC, rsC, enc, List.cons_append, List.nil_append, and_true, true_and] at hb
  unfold o48 at ho
  unfold v48 at hK
  unfold m48 at hm
  have h0 : d = 0 → shapeM d.toNat n = false := fun e => by subst e; rfl
  have h1 : 0 < d → shapeM d.toNat n = (partsM n && n.kids.all (shapeM (d.toNat - 1))) := shapeM_pos n
  conv => whnf
  repeat' first
    | (refine Cnd.mk (fun h => ?_) (fun h => ?_) <;> (try simp [etas, elDef, -List.getD_eq_getElem?_getD] at h) <;> conv => whnf)
    | (refine Obl.mk (by first | omega | rfl | exact inK_byte _ | (simp only [inK, Int.toNat_natCast, etas, elDef, m48, m68, o68, m68] <;> first | omega | grind) | grind [inK, m48, m68, o68, m68]) ?_ <;> conv => whnf)
    | (refine OblG.mk (by conv => whnf
                          repeat (first | (refine Bx.mk ?_) | (intro h; (try simp [etas, elDef, -List.getD_eq_getElem?_getD] at h); conv => whnf))
                          first | omega | rfl | exact inK_byte _ | (simp only [inK, Int.toNat_natCast, etas, elDef, m48, m68, o68, m68] <;> first | omega | grind) | grind [inK, m48, m68, o68, m68]) ?_ <;> conv => whnf)
    | (refine Gd.mk (fun h => ?_) <;> (try simp [etas, elDef, -List.getD_eq_getElem?_getD] at h) <;> conv => whnf)
    | (refine And.intro ?_ ?_ <;> conv => whnf)
    | exact True.intro
    | (intro; conv => whnf)
  all_goals exact leafB hK (by grind (splits := 20) [partsM, areNamesM])
noncomputable def E68 (k : Nat) : Ctx := mkE tab [(48, .pure (Fk48 k))]
noncomputable def O68 : Nat → List DI := ordL []
theorem a68 (k : Nat) (n : Nd) (d : Int) (hm : m68 n d < k + 1) (hb : BdAs [.st (ndC n), .int .i64 d]) (ho : o68 n d) (K : AV → List AV → Prop) (hK : K (v68 n d) []) : abody (E68 k) O68 .ps Tryd.f68 (Tryd.f68.body.getD .skip) [.st (ndC n), .int .i64 d] K := by
  simp only [BdAs, BdA, BdL, BdC, MX, ndC, shC, itC, stC, opC, chC, nwC, flC, rqC, rsC, enc, List.cons_append, List.nil_append, and_true, true_and] at hb
  unfold o68 at ho
  unfold v68 at hK
  unfold m68 at hm
  have hd : (d - 1).toNat = d.toNat - 1 := by omega
  conv => whnf
  refine aloop_intro Nat (fun k => k ≤ n.kids.length ∧ ∀ j, j < k → shapeM (d.toNat - 1) (n.kids.getD j default) = true) (fun k => n.kids.length - k) (fun k => [(5, .int .i64 k)]) (fun _ => []) [2] 0 [] [] ⟨by simp, by simp⟩ ?_ (by exact sgOk_of (by rfl)) ?_
  · (conv => whnf); (repeat' (first | exact trivial | rfl | (refine nilEq ?_; first | rfl | (simp only [*]; done) | (simp [*]; done) | grind) | apply And.intro | ((first | refine intEq ?_ | refine boolEq ?_ | refine strEq ?_ | refine psEq ?_ | refine nilEq ?_ | refine arrEq ?_); (try simp only [Int.toNat_natCast, etas, elDef]); first | done | omega | grind | (simp only [*]; done) | (simp [*]; done)))); (all_goals (conv => whnf)); (repeat' (first | exact trivial | rfl | (refine nilEq ?_; first | rfl | (simp only [*]; done) | (simp [*]; done) | grind) | apply And.intro | ((first | refine intEq ?_ | refine boolEq ?_ | refine strEq ?_ | refine psEq ?_ | refine nilEq ?_ | refine arrEq ?_); (try simp only [Int.toNat_natCast, etas, elDef]); first | done | omega | grind | (simp only [*]; done) | (simp [*]; done)) | ((try simp only [Int.toNat_natCast, etas, elDef]); first | done | omega | grind | (simp only [*]; done) | (simp [*]; done))))
  rintro i ⟨hk, hj⟩
  conv => whnf
  repeat' first
    | (refine Cnd.mk (fun h => ?_) (fun h => ?_) <;> (try simp [etas, elDef, -List.getD_eq_getElem?_getD] at h) <;> conv => whnf)
    | (refine Obl.mk (by first | omega | rfl | exact inK_byte _ | (simp only [inK, Int.toNat_natCast, etas, elDef, m48, m68, o48, m48] <;> first | omega | grind) | grind [inK, m48, m68, o48, m48]) ?_ <;> conv => whnf)
    | (refine OblG.mk (by conv => whnf
                          repeat (first | (refine Bx.mk ?_) | (intro h; (try simp [etas, elDef, -List.getD_eq_getElem?_getD] at h); conv => whnf))
                          first | omega | rfl | exact inK_byte _ | (simp only [inK, Int.toNat_natCast, etas, elDef, m48, m68, o48, m48] <;> first | omega | grind) | grind [inK, m48, m68, o48, m48]) ?_ <;> conv => whnf)
    | (refine Gd.mk (fun h => ?_) <;> (try simp [etas, elDef, -List.getD_eq_getElem?_getD] at h) <;> conv => whnf)
    | (refine And.intro ?_ ?_ <;> conv => whnf)
    | exact True.intro
    | (intro; conv => whnf)
  · exact leafB hK (allN_no (j := i) (by omega) (by grind))
  · refine ⟨i + 1, [], [], ⟨by omega, fun j hjl => ?_⟩, by omega, ?_, (by exact sgOk_of (by rfl))⟩
    · have : shapeM (d.toNat - 1) (n.kids.getD i default) = true := by grind
      grind
    · (conv => whnf); (repeat' (first | exact trivial | rfl | (refine nilEq ?_; first | rfl | (simp only [*]; done) | (simp [*]; done) | grind) | apply And.intro | ((first | refine intEq ?_ | refine boolEq ?_ | refine strEq ?_ | refine psEq ?_ | refine nilEq ?_ | refine arrEq ?_); (try simp only [Int.toNat_natCast, etas, elDef]); first | done | omega | grind | (simp only [*]; done) | (simp [*]; done)))); (all_goals (conv => whnf)); (repeat' (first | exact trivial | rfl | (refine nilEq ?_; first | rfl | (simp only [*]; done) | (simp [*]; done) | grind) | apply And.intro | ((first | refine intEq ?_ | refine boolEq ?_ | refine strEq ?_ | refine psEq ?_ | refine nilEq ?_ | refine arrEq ?_); (try simp only [Int.toNat_natCast, etas, elDef]); first | done | omega | grind | (simp only [*]; done) | (simp [*]; done)) | ((try simp only [Int.toNat_natCast, etas, elDef]); first | done | omega | grind | (simp only [*]; done) | (simp [*]; done))))
  · exact leafB hK ((allN_iff _ _).2 (by grind))
theorem r48_68 : ∀ k, (CtrOK Tryd.prog 48 (.pure (Fk48 k)) ∧ Callable Tryd.prog 48) ∧ (CtrOK Tryd.prog 68 (.pure (Fk68 k)) ∧ Callable Tryd.prog 68) := by
  intro k
  induction k with
  | zero =>
    exact ⟨⟨⟨fun args o v h => by unfold Fk48 at h; split at h <;> cases h; first | trivial | (simp [v48, Scalar, Scalar2, Scalar1, stC, ndC, itC, chC, nwC]), fun args K h => by
        unfold pureC Fk48 at h; split at h
        · rename_i h1; split at h1 <;> cases h1; exact absurd (h.1 _ rfl).1 (Nat.not_lt_zero _)
        · exact h.elim⟩, callable Tryd.func48 rfl (by rfl)⟩, ⟨⟨fun args o v h => by unfold Fk68 at h; split at h <;> cases h; first | trivial | (simp [v68, Scalar, Scalar2, Scalar1, stC, ndC, itC, chC, nwC]), fun args K h => by
        unfold pureC Fk68 at h; split at h
        · rename_i h1; split at h1 <;> cases h1; exact absurd (h.1 _ rfl).1 (Nat.not_lt_zero _)
        · exact h.elim⟩, callable Tryd.func68 rfl (by rfl)⟩⟩
  | succ k ih =>
    refine ⟨?_, ?_⟩
    · refine pure_ok (E := E48 k) (mkE_cons s61 (mkE_cons s67 (mkE_cons ih.2 (mkE_cons s69 (mkE_nil tab_ok))))) mix (O := O48) (F := (Fk48 (k + 1))) Tryd.func48 rfl (by rfl) (by kernel_rfl) (fun args o v h => ?_) (fun args o v h => ?_) (fun args o v h hbd hp K hK => ?_)
      · unfold Fk48 at h; split at h <;> cases h; first | trivial | (simp [v48, Scalar, Scalar2, Scalar1, stC, ndC, itC, chC, nwC])
      · unfold Fk48 at h; split at h <;> cases h; exact Nat.le_of_ble_eq_true rfl
      · unfold Fk48 at h; split at h
        case h_2 => cases h
        cases h
        exact a48 k ⟨_, _, _, _, _⟩ _ (hp _ rfl).1 (by exact hbd) (hp _ rfl).2 K hK
    · refine pure_ok (E := E68 k) (mkE_cons ih.1 (mkE_nil tab_ok)) mix (O := O68) (F := (Fk68 (k + 1))) Tryd.func68 rfl (by rfl) (by kernel_rfl) (fun args o v h => ?_) (fun args o v h => ?_) (fun args o v h hbd hp K hK => ?_)
      · unfold Fk68 at h; split at h <;> cases h; first | trivial | (simp [v68, Scalar, Scalar2, Scalar1, stC, ndC, itC, chC, nwC])
      · unfold Fk68 at h; split at h <;> cases h; exact Nat.le_of_ble_eq_true rfl
      · unfold Fk68 at h; split at h
        case h_2 => cases h
        cases h
        exact a68 k ⟨_, _, _, _, _⟩ _ (hp _ rfl).1 (by exact hbd) (hp _ rfl).2 K hK
theorem s48 : (CtrOK Tryd.prog 48 (.pure F48) ∧ Callable Tryd.prog 48) := by
  refine ⟨⟨fun args o v h => ?_, fun args K h => ?_⟩, (r48_68 0).1.2⟩
  · unfold F48 at h; split at h <;> cases h; first | trivial | (simp [v48, Scalar, Scalar2, Scalar1, stC, ndC, itC, chC, nwC])
  · unfold pureC F48 at h; split at h
    · rename_i h1; split at h1 <;> cases h1
      exact (r48_68 (m48 ⟨_, _, _, _, _⟩ _ + 1)).1.1.2 _ K ⟨fun p hp => by cases hp; exact ⟨Nat.lt_succ_self _, (h.1 _ rfl)⟩, h.2⟩
    · exact h.elim
end Go.Rs

