import Derived.Test.YtgmilpefnaadmaaDoorBase
import Derived.Test.YtgmilpefnaadmaaDoorMA
set_option linter.all false
namespace Go.Rs
open Go.Proofs
set_option maxRecDepth 100000
set_option linter.unusedVariables false
set_option linter.unusedSimpArgs false
noncomputable def v83 (n : Int) (a : Int) (b : Int) : AV := .bool (decide (a ≤ n) && decide (n ≤ b))
noncomputable def o83 (n : Int) (a : Int) (b : Int) : Prop := True
noncomputable def F83 : List AV → QR
  | [.int .i64 n, .int .i64 a, .int .i64 b] => some (none, v83 n a b)
  | _ => none
noncomputable def E83 : Ctx := mkE tab []
noncomputable def O83 : Nat → List DI := ordL []
theorem a83 (n : Int) (a : Int) (b : Int) (hb : BdAs [.int .i64 n, .int .i64 a, .int .i64 b]) (ho : o83 n a b) (K : AV → List AV → Prop) (hK : K (v83 n a b) []) : abody E83 O83 .ps Tryd.f83 (Tryd.f83.body.getD .skip) [.int .i64 n, .int .i64 a, .int .i64 b] K := by
  simp only [BdAs, BdA, BdL, BdC, MX, ndC, shC, itC, stC, opC, chC, nwC, flC, rqC, rsC, enc, List.cons_append, List.nil_append, and_true, true_and] at hb
  unfold v83 at hK
  conv => whnf
  exact hK
theorem s83 : (CtrOK Tryd.prog 83 (.pure F83) ∧ Callable Tryd.prog 83) := by
  refine pure_ok (E := E83) (mkE_nil tab_ok) mix (O := O83) (F := F83) Tryd.func83 rfl (by rfl) (by kernel_rfl) (fun args o v h => ?_) (fun args o v h => ?_) (fun args o v h hbd hp K hK => ?_)
  · unfold F83 at h; split at h <;> cases h; first | trivial | (simp [v83, Scalar, Scalar2, Scalar1, stC, ndC, itC, chC, nwC])
  · unfold F83 at h; split at h <;> cases h; exact Nat.le_of_ble_eq_true rfl
  · unfold F83 at h; split at h
    case h_2 => cases h
    cases h
    exact a83 _ _ _ (by exact hbd) trivial K hK
noncomputable def v113 (b : Bool) : AV := .int .i64 (if b then 1 else 0)
noncomputable def o113 (b : Bool) : Prop := True
noncomputable def F113 : List AV → QR
  | [.bool b] => some (none, v113 b)
  | _ => none
noncomputable def E113 : Ctx := mkE tab []
noncomputable def O113 : Nat → List DI := ordL []
theorem a113 (b : Bool) (hb : BdAs [.bool b]) (ho : o113 b) (K : AV → List AV → Prop) (hK : K (v113 b) []) : abody E113 O113 .ps Tryd.f113 (Tryd.f113.body.getD .skip) [.bool b] K := by
  simp only [BdAs, BdA, BdL, BdC, MX, ndC, shC, itC, stC, opC, chC, nwC, flC, rqC, rsC, enc, List.cons_append, List.nil_append, and_true, true_and] at hb
  unfold v113 at hK
  conv => whnf
  repeat' first
    | (refine Cnd.mk (fun h => ?_) (fun h => ?_) <;> (try simp [etas, elDef, -List.getD_eq_getElem?_getD] at h) <;> conv => whnf)
    | (refine Obl.mk (by first | omega | rfl | exact inK_byte _ | (simp only [inK, Int.toNat_natCast, etas, elDef] <;> first | omega | grind) | grind [inK]) ?_ <;> conv => whnf)
    | (refine OblG.mk (by conv => whnf
                          repeat (first | (refine Bx.mk ?_) | (intro h; (try simp [etas, elDef, -List.getD_eq_getElem?_getD] at h); conv => whnf))
                          first | omega | rfl | exact inK_byte _ | (simp only [inK, Int.toNat_natCast, etas, elDef] <;> first | omega | grind) | grind [inK]) ?_ <;> conv => whnf)
    | (refine Gd.mk (fun h => ?_) <;> (try simp [etas, elDef, -List.getD_eq_getElem?_getD] at h) <;> conv => whnf)
    | (refine And.intro ?_ ?_ <;> conv => whnf)
    | exact True.intro
    | (intro; conv => whnf)
  all_goals exact leafI hK (by grind)
theorem s113 : (CtrOK Tryd.prog 113 (.pure F113) ∧ Callable Tryd.prog 113) := by
  refine pure_ok (E := E113) (mkE_nil tab_ok) mix (O := O113) (F := F113) Tryd.func113 rfl (by rfl) (by kernel_rfl) (fun args o v h => ?_) (fun args o v h => ?_) (fun args o v h hbd hp K hK => ?_)
  · unfold F113 at h; split at h <;> cases h; first | trivial | (simp [v113, Scalar, Scalar2, Scalar1, stC, ndC, itC, chC, nwC])
  · unfold F113 at h; split at h <;> cases h; exact Nat.le_of_ble_eq_true rfl
  · unfold F113 at h; split at h
    case h_2 => cases h
    cases h
    exact a113 _ (by exact hbd) trivial K hK
noncomputable def v60 (s : Bs) : AV := .bool (txtM s)
noncomputable def o60 (s : Bs) : Prop := True
noncomputable def F60 : List AV → QR
  | [.str s] => some (none, v60 s)
  | _ => none
noncomputable def E60 : Ctx := mkE tab [(83, .pure F83)]
noncomputable def O60 : Nat → List DI := ordL []
theorem a60 (s : Bs) (hb : BdAs [.str s]) (ho : o60 s) (K : AV → List AV → Prop) (hK : K (v60 s) []) : abody E60 O60 .ps Tryd.f60 (Tryd.f60.body.getD .skip) [.str s] K := by
  simp only [BdAs, BdA, BdL, BdC, MX, ndC, shC, itC, stC, opC, chC, nwC, flC, rqC, rsC, enc, List.cons_append, List.nil_append, and_true, true_and] at hb
  unfold v60 at hK
  conv => whnf
  refine aloop_intro Nat (fun k => k ≤ s.length ∧ ∀ j, j < k → chrOk (s.getD j 0) = true) (fun k => s.length - k) (fun k => [(3, .int .i64 k)]) (fun _ => []) [] 0 [] [] ⟨by simp, by simp⟩ ?_ (by exact sgOk_of (by rfl)) ?_
  · (conv => whnf); (repeat' (first | exact trivial | rfl | (refine nilEq ?_; first | rfl | (simp only [*]; done) | (simp [*]; done) | grind) | apply And.intro | ((first | refine intEq ?_ | refine boolEq ?_ | refine strEq ?_ | refine psEq ?_ | refine nilEq ?_ | refine arrEq ?_); (try simp only [Int.toNat_natCast, etas, elDef]); first | done | omega | grind | (simp only [*]; done) | (simp [*]; done)))); (all_goals (conv => whnf)); (repeat' (first | exact trivial | rfl | (refine nilEq ?_; first | rfl | (simp only [*]; done) | (simp [*]; done) | grind) | apply And.intro | ((first | refine intEq ?_ | refine boolEq ?_ | refine strEq ?_ | refine psEq ?_ | refine nilEq ?_ | refine arrEq ?_); (try simp only [Int.toNat_natCast, etas, elDef]); first | done | omega | grind | (simp only [*]; done) | (simp [*]; done)) | ((try simp only [Int.toNat_natCast, etas, elDef]); first | done | omega | grind | (simp only [*]; done) | (simp [*]; done))))
  rintro k ⟨hk, hj⟩
  conv => whnf
  repeat' first
    | (refine Cnd.mk (fun h => ?_) (fun h => ?_) <;> (try simp [etas, elDef, -List.getD_eq_getElem?_getD] at h) <;> conv => whnf)
    | (refine Obl.mk (by first | omega | rfl | exact inK_byte _ | (simp only [inK, Int.toNat_natCast, etas, elDef] <;> first | omega | grind) | grind [inK]) ?_ <;> conv => whnf)
    | (refine OblG.mk (by conv => whnf
                          repeat (first | (refine Bx.mk ?_) | (intro h; (try simp [etas, elDef, -List.getD_eq_getElem?_getD] at h); conv => whnf))
                          first | omega | rfl | exact inK_byte _ | (simp only [inK, Int.toNat_natCast, etas, elDef] <;> first | omega | grind) | grind [inK]) ?_ <;> conv => whnf)
    | (refine Gd.mk (fun h => ?_) <;> (try simp [etas, elDef, -List.getD_eq_getElem?_getD] at h) <;> conv => whnf)
    | (refine And.intro ?_ ?_ <;> conv => whnf)
    | exact True.intro
    | (intro; conv => whnf)
  · have : chrOk (s.getD k 0) = false := by grind [chrOk]
    exact leafB hK (by grind [txtM, all_no])
  · refine ⟨k + 1, [], [], ⟨by omega, fun j hjl => ?_⟩, by omega, ?_, (by exact sgOk_of (by rfl))⟩
    · have : chrOk (s.getD k 0) = true := by grind [chrOk]
      grind
    · (conv => whnf); (repeat' (first | exact trivial | rfl | (refine nilEq ?_; first | rfl | (simp only [*]; done) | (simp [*]; done) | grind) | apply And.intro | ((first | refine intEq ?_ | refine boolEq ?_ | refine strEq ?_ | refine psEq ?_ | refine nilEq ?_ | refine arrEq ?_); (try simp only [Int.toNat_natCast, etas, elDef]); first | done | omega | grind | (simp only [*]; done) | (simp [*]; done)))); (all_goals (conv => whnf)); (repeat' (first | exact trivial | rfl | (refine nilEq ?_; first | rfl | (simp only [*]; done) | (simp [*]; done) | grind) | apply And.intro | ((first | refine intEq ?_ | refine boolEq ?_ | refine strEq ?_ | refine psEq ?_ | refine nilEq ?_ | refine arrEq ?_); (try simp only [Int.toNat_natCast, etas, elDef]); first | done | omega | grind | (simp only [*]; done) | (simp [*]; done)) | ((try simp only [Int.toNat_natCast, etas, elDef]); first | done | omega | grind | (simp only [*]; done) | (simp [*]; done))))
  · have : s.all chrOk = true := (all_iff s _).2 (by grind)
    exact leafB hK (by grind [txtM])
theorem s60 : (CtrOK Tryd.prog 60 (.pure F60) ∧ Callable Tryd.prog 60) := by
  refine pure_ok (E := E60) (mkE_cons s83 (mkE_nil tab_ok)) mix (O := O60) (F := F60) Tryd.func60 rfl (by rfl) (by kernel_rfl) (fun args o v h => ?_) (fun args o v h => ?_) (fun args o v h hbd hp K hK => ?_)
  · unfold F60 at h; split at h <;> cases h; first | trivial | (simp [v60, Scalar, Scalar2, Scalar1, stC, ndC, itC, chC, nwC])
  · unfold F60 at h; split at h <;> cases h; exact Nat.le_of_ble_eq_true rfl
  · unfold F60 at h; split at h
    case h_2 => cases h
    cases h
    exact a60 _ (by exact hbd) trivial K hK
noncomputable def v55 (s : Bs) : AV := .bool (txtM s)
noncomputable def o55 (s : Bs) : Prop := True
noncomputable def F55 : List AV → QR
  | [.str s] => some (none, v55 s)
  | _ => none
noncomputable def E55 : Ctx := mkE tab []
noncomputable def O55 : Nat → List DI := ordL []
theorem a55 (s : Bs) (hb : BdAs [.str s]) (ho : o55 s) (K : AV → List AV → Prop) (hK : K (v55 s) []) : abody E55 O55 .ps Tryd.f55 (Tryd.f55.body.getD .skip) [.str s] K := by
  simp only [BdAs, BdA, BdL, BdC, MX, ndC, shC, itC, stC, opC, chC, nwC, flC, rqC, rsC, enc, List.cons_append, List.nil_append, and_true, true_and] at hb
  unfold v55 at hK
  conv => whnf
  repeat' first
    | (refine Cnd.mk (fun h => ?_) (fun h => ?_) <;> (try simp [etas, elDef, -List.getD_eq_getElem?_getD] at h) <;> conv => whnf)
    | (refine Obl.mk (by first | omega | rfl | exact inK_byte _ | (simp only [inK, Int.toNat_natCast, etas, elDef] <;> first | omega | grind) | grind [inK]) ?_ <;> conv => whnf)
    | (refine OblG.mk (by conv => whnf
                          repeat (first | (refine Bx.mk ?_) | (intro h; (try simp [etas, elDef, -List.getD_eq_getElem?_getD] at h); conv => whnf))
                          first | omega | rfl | exact inK_byte _ | (simp only [inK, Int.toNat_natCast, etas, elDef] <;> first | omega | grind) | grind [inK]) ?_ <;> conv => whnf)
    | (refine Gd.mk (fun h => ?_) <;> (try simp [etas, elDef, -List.getD_eq_getElem?_getD] at h) <;> conv => whnf)
    | (refine And.intro ?_ ?_ <;> conv => whnf)
    | exact True.intro
    | (intro; conv => whnf)
  · exact leafB hK (by grind [txtM])
  refine aloop_intro Nat (fun k => k ≤ s.length ∧ ∀ j, j < k → chrOk (s.getD j 0) = true) (fun k => s.length - k) (fun k => [(3, .int .i64 k)]) (fun _ => []) [] 0 [] [] ⟨by simp, by simp⟩ ?_ (by exact sgOk_of (by rfl)) ?_
  · (conv => whnf); (repeat' (first | exact trivial | rfl | (refine nilEq ?_; first | rfl | (simp only [*]; done) | (simp [*]; done) | grind) | apply And.intro | ((first | refine intEq ?_ | refine boolEq ?_ | refine strEq ?_ | refine psEq ?_ | refine nilEq ?_ | refine arrEq ?_); (try simp only [Int.toNat_natCast, etas, elDef]); first | done | omega | grind | (simp only [*]; done) | (simp [*]; done)))); (all_goals (conv => whnf)); (repeat' (first | exact trivial | rfl | (refine nilEq ?_; first | rfl | (simp only [*]; done) | (simp [*]; done) | grind) | apply And.intro | ((first | refine intEq ?_ | refine boolEq ?_ | refine strEq ?_ | refine psEq ?_ | refine nilEq ?_ | refine arrEq ?_); (try simp only [Int.toNat_natCast, etas, elDef]); first | done | omega | grind | (simp only [*]; done) | (simp [*]; done)) | ((try simp only [Int.toNat_natCast, etas, elDef]); first | done | omega | grind | (simp only [*]; done) | (simp [*]; done))))
  rintro k ⟨hk, hj⟩
  conv => whnf
  repeat' first
    | (refine Cnd.mk (fun h => ?_) (fun h => ?_) <;> (try simp [etas, elDef, -List.getD_eq_getElem?_getD] at h) <;> conv => whnf)
    | (refine Obl.mk (by first | omega | rfl | exact inK_byte _ | (simp only [inK, Int.toNat_natCast, etas, elDef] <;> first | omega | grind) | grind [inK]) ?_ <;> conv => whnf)
    | (refine OblG.mk (by conv => whnf
                          repeat (first | (refine Bx.mk ?_) | (intro h; (try simp [etas, elDef, -List.getD_eq_getElem?_getD] at h); conv => whnf))
                          first | omega | rfl | exact inK_byte _ | (simp only [inK, Int.toNat_natCast, etas, elDef] <;> first | omega | grind) | grind [inK]) ?_ <;> conv => whnf)
    | (refine Gd.mk (fun h => ?_) <;> (try simp [etas, elDef, -List.getD_eq_getElem?_getD] at h) <;> conv => whnf)
    | (refine And.intro ?_ ?_ <;> conv => whnf)
    | exact True.intro
    | (intro; conv => whnf)
  · have : chrOk (s.getD k 0) = false := by grind [chrOk]
    exact leafB hK (by grind [txtM, all_no])
  · refine ⟨k + 1, [], [], ⟨by omega, fun j hjl => ?_⟩, by omega, ?_, (by exact sgOk_of (by rfl))⟩
    · have : chrOk (s.getD k 0) = true := by grind [chrOk]
      grind
    · (conv => whnf); (repeat' (first | exact trivial | rfl | (refine nilEq ?_; first | rfl | (simp only [*]; done) | (simp [*]; done) | grind) | apply And.intro | ((first | refine intEq ?_ | refine boolEq ?_ | refine strEq ?_ | refine psEq ?_ | refine nilEq ?_ | refine arrEq ?_); (try simp only [Int.toNat_natCast, etas, elDef]); first | done | omega | grind | (simp only [*]; done) | (simp [*]; done)))); (all_goals (conv => whnf)); (repeat' (first | exact trivial | rfl | (refine nilEq ?_; first | rfl | (simp only [*]; done) | (simp [*]; done) | grind) | apply And.intro | ((first | refine intEq ?_ | refine boolEq ?_ | refine strEq ?_ | refine psEq ?_ | refine nilEq ?_ | refine arrEq ?_); (try simp only [Int.toNat_natCast, etas, elDef]); first | done | omega | grind | (simp only [*]; done) | (simp [*]; done)) | ((try simp only [Int.toNat_natCast, etas, elDef]); first | done | omega | grind | (simp only [*]; done) | (simp [*]; done))))
  · have : s.all chrOk = true := (all_iff s _).2 (by grind)
    exact leafB hK (by grind [txtM])
theorem s55 : (CtrOK Tryd.prog 55 (.pure F55) ∧ Callable Tryd.prog 55) := by
  refine pure_ok (E := E55) (mkE_nil tab_ok) mix (O := O55) (F := F55) Tryd.func55 rfl (by rfl) (by kernel_rfl) (fun args o v h => ?_) (fun args o v h => ?_) (fun args o v h hbd hp K hK => ?_)
  · unfold F55 at h; split at h <;> cases h; first | trivial | (simp [v55, Scalar, Scalar2, Scalar1, stC, ndC, itC, chC, nwC])
  · unfold F55 at h; split at h <;> cases h; exact Nat.le_of_ble_eq_true rfl
  · unfold F55 at h; split at h
    case h_2 => cases h
    cases h
    exact a55 _ (by exact hbd) trivial K hK
noncomputable def v90 (l : List Bs) : AV := .bool (areNamesM l)
noncomputable def o90 (l : List Bs) : Prop := True
noncomputable def F90 : List AV → QR
  | [.ps .str l] => some (none, v90 l)
  | _ => none
noncomputable def E90 : Ctx := mkE tab [(55, .pure F55)]
noncomputable def O90 : Nat → List DI := ordL []
theorem a90 (l : List Bs) (hb : BdAs [.ps .str l]) (ho : o90 l) (K : AV → List AV → Prop) (hK : K (v90 l) []) : abody E90 O90 .ps Tryd.f90 (Tryd.f90.body.getD .skip) [.ps .str l] K := by
  simp only [BdAs, BdA, BdL, BdC, MX, ndC, shC, itC, stC, opC, chC, nwC, flC, rqC, rsC, enc, List.cons_append, List.nil_append, and_true, true_and] at hb
  unfold v90 at hK
  conv => whnf
  repeat' first
    | (refine Cnd.mk (fun h => ?_) (fun h => ?_) <;> (try simp [etas, elDef, -List.getD_eq_getElem?_getD] at h) <;> conv => whnf)
    | (refine Obl.mk (by first | omega | rfl | exact inK_byte _ | (simp only [inK, Int.toNat_natCast, etas, elDef] <;> first | omega | grind) | grind [inK]) ?_ <;> conv => whnf)
    | (refine OblG.mk (by conv => whnf
                          repeat (first | (refine Bx.mk ?_) | (intro h; (try simp [etas, elDef, -List.getD_eq_getElem?_getD] at h); conv => whnf))
                          first | omega | rfl | exact inK_byte _ | (simp only [inK, Int.toNat_natCast, etas, elDef] <;> first | omega | grind) | grind [inK]) ?_ <;> conv => whnf)
    | (refine Gd.mk (fun h => ?_) <;> (try simp [etas, elDef, -List.getD_eq_getElem?_getD] at h) <;> conv => whnf)
    | (refine And.intro ?_ ?_ <;> conv => whnf)
    | exact True.intro
    | (intro; conv => whnf)
  · exact leafB hK (by grind [areNamesM])
  refine aloop_intro Nat (fun k => k ≤ l.length ∧ ∀ j, j < k → nameOk l j = true) (fun k => l.length - k) (fun k => [(10, .int .i64 k)]) (fun _ => []) [] 0 [] [] ⟨by simp, by simp⟩ ?_ (by exact sgOk_of (by rfl)) ?_
  · (conv => whnf); (repeat' (first | exact trivial | rfl | (refine nilEq ?_; first | rfl | (simp only [*]; done) | (simp [*]; done) | grind) | apply And.intro | ((first | refine intEq ?_ | refine boolEq ?_ | refine strEq ?_ | refine psEq ?_ | refine nilEq ?_ | refine arrEq ?_); (try simp only [Int.toNat_natCast, etas, elDef]); first | done | omega | grind | (simp only [*]; done) | (simp [*]; done)))); (all_goals (conv => whnf)); (repeat' (first | exact trivial | rfl | (refine nilEq ?_; first | rfl | (simp only [*]; done) | (simp [*]; done) | grind) | apply And.intro | ((first | refine intEq ?_ | refine boolEq ?_ | refine strEq ?_ | refine psEq ?_ | refine nilEq ?_ | refine arrEq ?_); (try simp only [Int.toNat_natCast, etas, elDef]); first | done | omega | grind | (simp only [*]; done) | (simp [*]; done)) | ((try simp only [Int.toNat_natCast, etas, elDef]); first | done | omega | grind | (simp only [*]; done) | (simp [*]; done))))
  rintro k ⟨hk, hj⟩
  conv => whnf
  repeat' first
    | (refine Cnd.mk (fun h => ?_) (fun h => ?_) <;> (try simp [etas, elDef, -List.getD_eq_getElem?_getD] at h) <;> conv => whnf)
    | (refine Obl.mk (by first | omega | rfl | exact inK_byte _ | (simp only [inK, Int.toNat_natCast, etas, elDef] <;> first | omega | grind) | grind [inK]) ?_ <;> conv => whnf)
    | (refine OblG.mk (by conv => whnf
                          repeat (first | (refine Bx.mk ?_) | (intro h; (try simp [etas, elDef, -List.getD_eq_getElem?_getD] at h); conv => whnf))
                          first | omega | rfl | exact inK_byte _ | (simp only [inK, Int.toNat_natCast, etas, elDef] <;> first | omega | grind) | grind [inK]) ?_ <;> conv => whnf)
    | (refine Gd.mk (fun h => ?_) <;> (try simp [etas, elDef, -List.getD_eq_getElem?_getD] at h) <;> conv => whnf)
    | (refine And.intro ?_ ?_ <;> conv => whnf)
    | exact True.intro
    | (intro; conv => whnf)
  · have : nameOk l k = false := by grind [nameOk]
    exact leafB hK (by grind [areNamesM, namesM_no])
  · refine ⟨k + 1, [], [], ⟨by omega, fun j hjl => ?_⟩, by omega, ?_, (by exact sgOk_of (by rfl))⟩
    · have : nameOk l k = true := by grind [nameOk]
      grind
    · (conv => whnf); (repeat' (first | exact trivial | rfl | (refine nilEq ?_; first | rfl | (simp only [*]; done) | (simp [*]; done) | grind) | apply And.intro | ((first | refine intEq ?_ | refine boolEq ?_ | refine strEq ?_ | refine psEq ?_ | refine nilEq ?_ | refine arrEq ?_); (try simp only [Int.toNat_natCast, etas, elDef]); first | done | omega | grind | (simp only [*]; done) | (simp [*]; done)))); (all_goals (conv => whnf)); (repeat' (first | exact trivial | rfl | (refine nilEq ?_; first | rfl | (simp only [*]; done) | (simp [*]; done) | grind) | apply And.intro | ((first | refine intEq ?_ | refine boolEq ?_ | refine strEq ?_ | refine psEq ?_ | refine nilEq ?_ | refine arrEq ?_); (try simp only [Int.toNat_natCast, etas, elDef]); first | done | omega | grind | (simp only [*]; done) | (simp [*]; done)) | ((try simp only [Int.toNat_natCast, etas, elDef]); first | done | omega | grind | (simp only [*]; done) | (simp [*]; done))))
  · have : namesM l = true := (namesM_iff l).2 (by grind)
    exact leafB hK (by grind [areNamesM])
theorem s90 : (CtrOK Tryd.prog 90 (.pure F90) ∧ Callable Tryd.prog 90) := by
  refine pure_ok (E := E90) (mkE_cons s55 (mkE_nil tab_ok)) mix (O := O90) (F := F90) Tryd.func90 rfl (by rfl) (by kernel_rfl) (fun args o v h => ?_) (fun args o v h => ?_) (fun args o v h hbd hp K hK => ?_)
  · unfold F90 at h; split at h <;> cases h; first | trivial | (simp [v90, Scalar, Scalar2, Scalar1, stC, ndC, itC, chC, nwC])
  · unfold F90 at h; split at h <;> cases h; exact Nat.le_of_ble_eq_true rfl
  · unfold F90 at h; split at h
    case h_2 => cases h
    cases h
    exact a90 _ (by exact hbd) trivial K hK
noncomputable def v85 (l : List Bs) : AV := .bool (namesM l)
noncomputable def o85 (l : List Bs) : Prop := True
noncomputable def F85 : List AV → QR
  | [.ps .str l] => some (none, v85 l)
  | _ => none
noncomputable def E85 : Ctx := mkE tab [(60, .pure F60)]
noncomputable def O85 : Nat → List DI := ordL [(4, [.q 0, .q 1, .q 2, .q 3, .q 4, .q 5, .q 6, .q 7, .q 8, .q 9, .q 10, .q 11, .q 12, .q 13, .q 14, .q 15, .q 16, .q 17, .q 18, .q 19, .q 20, .q 21])]
theorem a85 (l : List Bs) (hb : BdAs [.ps .str l]) (ho : o85 l) (K : AV → List AV → Prop) (hK : K (v85 l) []) : abody E85 O85 .ps Tryd.f85 (Tryd.f85.body.getD .skip) [.ps .str l] K := by
  simp only [BdAs, BdA, BdL, BdC, MX, ndC, shC, itC, stC, opC, chC, nwC, flC, rqC, rsC, enc, List.cons_append, List.nil_append, and_true, true_and] at hb
  unfold v85 at hK
  conv => whnf
  refine aloop_intro Nat (fun k => k ≤ l.length ∧ ∀ j, j < k → nameOk l j = true) (fun k => l.length - k) (fun k => [(3, .int .i64 k)]) (fun _ => []) [] 0 [] [] ⟨by simp, by simp⟩ ?_ (by exact sgOk_of (by rfl)) ?_
  · (conv => whnf); (repeat' (first | exact trivial | rfl | (refine nilEq ?_; first | rfl | (simp only [*]; done) | (simp [*]; done) | grind) | apply And.intro | ((first | refine intEq ?_ | refine boolEq ?_ | refine strEq ?_ | refine psEq ?_ | refine nilEq ?_ | refine arrEq ?_); (try simp only [Int.toNat_natCast, etas, elDef]); first | done | omega | grind | (simp only [*]; done) | (simp [*]; done)))); (all_goals (conv => whnf)); (repeat' (first | exact trivial | rfl | (refine nilEq ?_; first | rfl | (simp only [*]; done) | (simp [*]; done) | grind) | apply And.intro | ((first | refine intEq ?_ | refine boolEq ?_ | refine strEq ?_ | refine psEq ?_ | refine nilEq ?_ | refine arrEq ?_); (try simp only [Int.toNat_natCast, etas, elDef]); first | done | omega | grind | (simp only [*]; done) | (simp [*]; done)) | ((try simp only [Int.toNat_natCast, etas, elDef]); first | done | omega | grind | (simp only [*]; done) | (simp [*]; done))))
  rintro k ⟨hk, hj⟩
  conv => whnf
  repeat' first
    | (refine Cnd.mk (fun h => ?_) (fun h => ?_) <;> (try simp [etas, elDef, -List.getD_eq_getElem?_getD] at h) <;> conv => whnf)
    | (refine Obl.mk (by first | omega | rfl | exact inK_byte _ | (simp only [inK, Int.toNat_natCast, etas, elDef] <;> first | omega | grind) | grind [inK]) ?_ <;> conv => whnf)
    | (refine OblG.mk (by conv => whnf
                          repeat (first | (refine Bx.mk ?_) | (intro h; (try simp [etas, elDef, -List.getD_eq_getElem?_getD] at h); conv => whnf))
                          first | omega | rfl | exact inK_byte _ | (simp only [inK, Int.toNat_natCast, etas, elDef] <;> first | omega | grind) | grind [inK]) ?_ <;> conv => whnf)
    | (refine Gd.mk (fun h => ?_) <;> (try simp [etas, elDef, -List.getD_eq_getElem?_getD] at h) <;> conv => whnf)
    | (refine And.intro ?_ ?_ <;> conv => whnf)
    | exact True.intro
    | (intro; conv => whnf)
  · have : nameOk l k = false := by grind [nameOk]
    exact leafB hK (by grind [namesM_no])
  · refine ⟨k + 1, [], [], ⟨by omega, fun j hjl => ?_⟩, by omega, ?_, (by exact sgOk_of (by rfl))⟩
    · have : nameOk l k = true := by grind [nameOk]
      grind
    · (conv => whnf); (repeat' (first | exact trivial | rfl | (refine nilEq ?_; first | rfl | (simp only [*]; done) | (simp [*]; done) | grind) | apply And.intro | ((first | refine intEq ?_ | refine boolEq ?_ | refine strEq ?_ | refine psEq ?_ | refine nilEq ?_ | refine arrEq ?_); (try simp only [Int.toNat_natCast, etas, elDef]); first | done | omega | grind | (simp only [*]; done) | (simp [*]; done)))); (all_goals (conv => whnf)); (repeat' (first | exact trivial | rfl | (refine nilEq ?_; first | rfl | (simp only [*]; done) | (simp [*]; done) | grind) | apply And.intro | ((first | refine intEq ?_ | refine boolEq ?_ | refine strEq ?_ | refine psEq ?_ | refine nilEq ?_ | refine arrEq ?_); (try simp only [Int.toNat_natCast, etas, elDef]); first | done | omega | grind | (simp only [*]; done) | (simp [*]; done)) | ((try simp only [Int.toNat_natCast, etas, elDef]); first | done | omega | grind | (simp only [*]; done) | (simp [*]; done))))
  · have : namesM l = true := (namesM_iff l).2 (by grind)
    exact leafB hK (by grind)
theorem s85 : (CtrOK Tryd.prog 85 (.pure F85) ∧ Callable Tryd.prog 85) := by
  refine pure_ok (E := E85) (mkE_cons s60 (mkE_nil tab_ok)) mix (O := O85) (F := F85) Tryd.func85 rfl (by rfl) (by kernel_rfl) (fun args o v h => ?_) (fun args o v h => ?_) (fun args o v h hbd hp K hK => ?_)
  · unfold F85 at h; split at h <;> cases h; first | trivial | (simp [v85, Scalar, Scalar2, Scalar1, stC, ndC, itC, chC, nwC])
  · unfold F85 at h; split at h <;> cases h; exact Nat.le_of_ble_eq_true rfl
  · unfold F85 at h; split at h
    case h_2 => cases h
    cases h
    exact a85 _ (by exact hbd) trivial K hK
noncomputable def v66 (n : Nd) : AV := .bool (partsM n)
noncomputable def o66 (n : Nd) : Prop := True
noncomputable def F66 : List AV → QR
  | [.st [.int .i64 n_0, .int .i64 n_1, .str n_2, .ps .str n_3, .ps .node n_4]] => some (none, v66 ⟨n_0, n_1, n_2, n_3, n_4⟩)
  | _ => none
noncomputable def E66 : Ctx := mkE tab [(55, .pure F55), (90, .pure F90)]
noncomputable def O66 : Nat → List DI := ordL []
theorem a66 (n : Nd) (hb : BdAs [.st (ndC n)]) (ho : o66 n) (K : AV → List AV → Prop) (hK : K (v66 n) []) : abody E66 O66 .ps Tryd.f66 (Tryd.f66.body.getD .skip) [.st (ndC n)] K := by
  simp only [BdAs, BdA, BdL, BdC, MX, ndC, shC, itC, stC, opC, chC, nwC, flC, rqC, rsC, enc, List.cons_append, List.nil_append, and_true, true_and] at hb
  unfold v66 at hK
  conv => whnf
  repeat' first
    | (refine Cnd.mk (fun h => ?_) (fun h => ?_) <;> (try simp [etas, elDef, -List.getD_eq_getElem?_getD] at h) <;> conv => whnf)
    | (refine Obl.mk (by first | omega | rfl | exact inK_byte _ | (simp only [inK, Int.toNat_natCast, etas, elDef] <;> first | omega | grind) | grind [inK]) ?_ <;> conv => whnf)
    | (refine OblG.mk (by conv => whnf
                          repeat (first | (refine Bx.mk ?_) | (intro h; (try simp [etas, elDef, -List.getD_eq_getElem?_getD] at h); conv => whnf))
                          first | omega | rfl | exact inK_byte _ | (simp only [inK, Int.toNat_natCast, etas, elDef] <;> first | omega | grind) | grind [inK]) ?_ <;> conv => whnf)
    | (refine Gd.mk (fun h => ?_) <;> (try simp [etas, elDef, -List.getD_eq_getElem?_getD] at h) <;> conv => whnf)
    | (refine And.intro ?_ ?_ <;> conv => whnf)
    | exact True.intro
    | (intro; conv => whnf)
  all_goals exact leafB hK (by grind [partsM])
theorem s66 : (CtrOK Tryd.prog 66 (.pure F66) ∧ Callable Tryd.prog 66) := by
  refine pure_ok (E := E66) (mkE_cons s55 (mkE_cons s90 (mkE_nil tab_ok))) mix (O := O66) (F := F66) Tryd.func66 rfl (by rfl) (by kernel_rfl) (fun args o v h => ?_) (fun args o v h => ?_) (fun args o v h hbd hp K hK => ?_)
  · unfold F66 at h; split at h <;> cases h; first | trivial | (simp [v66, Scalar, Scalar2, Scalar1, stC, ndC, itC, chC, nwC])
  · unfold F66 at h; split at h <;> cases h; exact Nat.le_of_ble_eq_true rfl
  · unfold F66 at h; split at h
    case h_2 => cases h
    cases h
    exact a66 ⟨_, _, _, _, _⟩ (by exact hbd) trivial K hK
noncomputable def v58 (n : Nd) (d : Int) : AV := .bool (shapeM d.toNat n)
noncomputable def o58 (n : Nd) (d : Int) : Prop := 0 ≤ d ∧ d ≤ 5
noncomputable def m58 (n : Nd) (d : Int) : Nat := 2 * d.toNat
noncomputable def F58 : List AV → QR
  | [.st [.int .i64 n_0, .int .i64 n_1, .str n_2, .ps .str n_3, .ps .node n_4], .int .i64 d] => some (some (o58 ⟨n_0, n_1, n_2, n_3, n_4⟩ d), v58 ⟨n_0, n_1, n_2, n_3, n_4⟩ d)
  | _ => none
noncomputable def Fk58 (k : Nat) : List AV → QR
  | [.st [.int .i64 n_0, .int .i64 n_1, .str n_2, .ps .str n_3, .ps .node n_4], .int .i64 d] => some (some (m58 ⟨n_0, n_1, n_2, n_3, n_4⟩ d < k ∧ o58 ⟨n_0, n_1, n_2, n_3, n_4⟩ d), v58 ⟨n_0, n_1, n_2, n_3, n_4⟩ d)
  | _ => none
noncomputable def v84 (n : Nd) (d : Int) : AV := .bool (n.kids.all (shapeM (d.toNat - 1)))
noncomputable def o84 (n : Nd) (d : Int) : Prop := 1 ≤ d ∧ d ≤ 5
noncomputable def m84 (n : Nd) (d : Int) : Nat := 2 * d.toNat - 1
noncomputable def F84 : List AV → QR
  | [.st [.int .i64 n_0, .int .i64 n_1, .str n_2, .ps .str n_3, .ps .node n_4], .int .i64 d] => some (some (o84 ⟨n_0, n_1, n_2, n_3, n_4⟩ d), v84 ⟨n_0, n_1, n_2, n_3, n_4⟩ d)
  | _ => none
noncomputable def Fk84 (k : Nat) : List AV → QR
  | [.st [.int .i64 n_0, .int .i64 n_1, .str n_2, .ps .str n_3, .ps .node n_4], .int .i64 d] => some (some (m84 ⟨n_0, n_1, n_2, n_3, n_4⟩ d < k ∧ o84 ⟨n_0, n_1, n_2, n_3, n_4⟩ d), v84 ⟨n_0, n_1, n_2, n_3, n_4⟩ d)
  | _ => none
noncomputable def E58 (k : Nat) : Ctx := mkE tab [(60, .pure F60), (83, .pure F83), (84, .pure (Fk84 k)), (85, .pure F85)]
noncomputable def O58 : Nat → List DI := ordL []
theorem a58 (k : Nat) (n : Nd) (d : Int) (hm : m58 n d < k + 1) (hb : BdAs [.st (ndC n), .int .i64 d]) (ho : o58 n d) (K : AV → List AV → Prop) (hK : K (v58 n d) []) : abody (E58 k) O58 .ps Tryd.f58 (Tryd.f58.body.getD .skip) [.st (ndC n), .int .i64 d] K := by
  simp only [BdAs, BdA, BdL, BdC, MX, ndC, shC, itC, stC, opC, chC, nwC, flC, rqC, rsC, enc, List.cons_append, List.nil_append, and_true, true_and] at hb
  unfold o58 at ho
  unfold v58 at hK
  unfold m58 at hm
  have h0 : d = 0 → shapeM d.toNat n = false := fun e => by subst e; rfl
  have h1 : 0 < d → shapeM d.toNat n = (partsM n && n.kids.all (shapeM (d.toNat - 1))) := shapeM_pos n
  conv => whnf
  repeat' first
    | (refine Cnd.mk (fun h => ?_) (fun h => ?_) <;> (try simp [etas, elDef, -List.getD_eq_getElem?_getD] at h) <;> conv => whnf)
    | (refine Obl.mk (by first | omega | rfl | exact inK_byte _ | (simp only [inK, Int.toNat_natCast, etas, elDef, m58, m84, o84, m84] <;> first | omega | grind) | grind [inK, m58, m84, o84, m84]) ?_ <;> conv => whnf)
    | (refine OblG.mk (by conv => whnf
                          repeat (first | (refine Bx.mk ?_) | (intro h; (try simp [etas, elDef, -List.getD_eq_getElem?_getD] at h); conv => whnf))
                          first | omega | rfl | exact inK_byte _ | (simp only [inK, Int.toNat_natCast, etas, elDef, m58, m84, o84, m84] <;> first | omega | grind) | grind [inK, m58, m84, o84, m84]) ?_ <;> conv => whnf)
    | (refine Gd.mk (fun h => ?_) <;> (try simp [etas, elDef, -List.getD_eq_getElem?_getD] at h) <;> conv => whnf)
    | (refine And.intro ?_ ?_ <;> conv => whnf)
    | exact True.intro
    | (intro; conv => whnf)
  all_goals exact leafB hK (by grind (splits := 20) [partsM, areNamesM])
noncomputable def E84 (k : Nat) : Ctx := mkE tab [(58, .pure (Fk58 k))]
noncomputable def O84 : Nat → List DI := ordL []
theorem a84 (k : Nat) (n : Nd) (d : Int) (hm : m84 n d < k + 1) (hb : BdAs [.st (ndC n), .int .i64 d]) (ho : o84 n d) (K : AV → List AV → Prop) (hK : K (v84 n d) []) : abody (E84 k) O84 .ps Tryd.f84 (Tryd.f84.body.getD .skip) [.st (ndC n), .int .i64 d] K := by
  simp only [BdAs, BdA, BdL, BdC, MX, ndC, shC, itC, stC, opC, chC, nwC, flC, rqC, rsC, enc, List.cons_append, List.nil_append, and_true, true_and] at hb
  unfold o84 at ho
  unfold v84 at hK
  unfold m84 at hm
  have hd : (d - 1).toNat = d.toNat - 1 := by omega
  conv => whnf
  refine aloop_intro Nat (fun k => k ≤ n.kids.length ∧ ∀ j, j < k → shapeM (d.toNat - 1) (n.kids.getD j default) = true) (fun k => n.kids.length - k) (fun k => [(5, .int .i64 k)]) (fun _ => []) [2] 0 [] [] ⟨by simp, by simp⟩ ?_ (by exact sgOk_of (by rfl)) ?_
  · (conv => whnf); (repeat' (first | exact trivial | rfl | (refine nilEq ?_; first | rfl | (simp only [*]; done) | (simp [*]; done) | grind) | apply And.intro | ((first | refine intEq ?_ | refine boolEq ?_ | refine strEq ?_ | refine psEq ?_ | refine nilEq ?_ | refine arrEq ?_); (try simp only [Int.toNat_natCast, etas, elDef]); first | done | omega | grind | (simp only [*]; done) | (simp [*]; done)))); (all_goals (conv => whnf)); (repeat' (first | exact trivial | rfl | (refine nilEq ?_; first | rfl | (simp only [*]; done) | (simp [*]; done) | grind) | apply And.intro | ((first | refine intEq ?_ | refine boolEq ?_ | refine strEq ?_ | refine psEq ?_ | refine nilEq ?_ | refine arrEq ?_); (try simp only [Int.toNat_natCast, etas, elDef]); first | done | omega | grind | (simp only [*]; done) | (simp [*]; done)) | ((try simp only [Int.toNat_natCast, etas, elDef]); first | done | omega | grind | (simp only [*]; done) | (simp [*]; done))))
  rintro i ⟨hk, hj⟩
  conv => whnf
  repeat' first
    | (refine Cnd.mk (fun h => ?_) (fun h => ?_) <;> (try simp [etas, elDef, -List.getD_eq_getElem?_getD] at h) <;> conv => whnf)
    | (refine Obl.mk (by first | omega | rfl | exact inK_byte _ | (simp only [inK, Int.toNat_natCast, etas, elDef, m58, m84, o58, m58] <;> first | omega | grind) | grind [inK, m58, m84, o58, m58]) ?_ <;> conv => whnf)
    | (refine OblG.mk (by conv => whnf
                          repeat (first | (refine Bx.mk ?_) | (intro h; (try simp [etas, elDef, -List.getD_eq_getElem?_getD] at h); conv => whnf))
                          first | omega | rfl | exact inK_byte _ | (simp only [inK, Int.toNat_natCast, etas, elDef, m58, m84, o58, m58] <;> first | omega | grind) | grind [inK, m58, m84, o58, m58]) ?_ <;> conv => whnf)
    | (refine Gd.mk (fun h => ?_) <;> (try simp [etas, elDef, -List.getD_eq_getElem?_getD] at h) <;> conv => whnf)
    | (refine And.intro ?_ ?_ <;> conv => whnf)
    | exact True.intro
    | (intro; conv => whnf)
  · exact leafB hK (allN_no (j := i) (by omega) (by grind))
  · refine ⟨i + 1, [], [], ⟨by omega, fun j hjl => ?_⟩, by omega, ?_, (by exact sgOk_of (by rfl))⟩
    · have : shapeM (d.toNat - 1) (n.kids.getD i default) = true := by grind
      grind
    · (conv => whnf); (repeat' (first | exact trivial | rfl | (refine nilEq ?_; first | rfl | (simp only [*]; done) | (simp [*]; done) | grind) | apply And.intro | ((first | refine intEq ?_ | refine boolEq ?_ | refine strEq ?_ | refine psEq ?_ | refine nilEq ?_ | refine arrEq ?_); (try simp only [Int.toNat_natCast, etas, elDef]); first | done | omega | grind | (simp only [*]; done) | (simp [*]; done)))); (all_goals (conv => whnf)); (repeat' (first | exact trivial | rfl | (refine nilEq ?_; first | rfl | (simp only [*]; done) | (simp [*]; done) | grind) | apply And.intro | ((first | refine intEq ?_ | refine boolEq ?_ | refine strEq ?_ | refine psEq ?_ | refine nilEq ?_ | refine arrEq ?_); (try simp only [Int.toNat_natCast, etas, elDef]); first | done | omega | grind | (simp only [*]; done) | (simp [*]; done)) | ((try simp only [Int.toNat_natCast, etas, elDef]); first | done | omega | grind | (simp only [*]; done) | (simp [*]; done))))
  · exact leafB hK ((allN_iff _ _).2 (by grind))
theorem r58_84 : ∀ k, (CtrOK Tryd.prog 58 (.pure (Fk58 k)) ∧ Callable Tryd.prog 58) ∧ (CtrOK Tryd.prog 84 (.pure (Fk84 k)) ∧ Callable Tryd.prog 84) := by
  intro k
  induction k with
  | zero =>
    exact ⟨⟨⟨fun args o v h => by unfold Fk58 at h; split at h <;> cases h; first | trivial | (simp [v58, Scalar, Scalar2, Scalar1, stC, ndC, itC, chC, nwC]), fun args K h => by
        unfold pureC Fk58 at h; split at h
        · rename_i h1; split at h1 <;> cases h1; exact absurd (h.1 _ rfl).1 (Nat.not_lt_zero _)
        · exact h.elim⟩, callable Tryd.func58 rfl (by rfl)⟩, ⟨⟨fun args o v h => by unfold Fk84 at h; split at h <;> cases h; first | trivial | (simp [v84, Scalar, Scalar2, Scalar1, stC, ndC, itC, chC, nwC]), fun args K h => by
        unfold pureC Fk84 at h; split at h
        · rename_i h1; split at h1 <;> cases h1; exact absurd (h.1 _ rfl).1 (Nat.not_lt_zero _)
        · exact h.elim⟩, callable Tryd.func84 rfl (by rfl)⟩⟩
  | succ k ih =>
    refine ⟨?_, ?_⟩
    · refine pure_ok (E := E58 k) (mkE_cons s60 (mkE_cons s83 (mkE_cons ih.2 (mkE_cons s85 (mkE_nil tab_ok))))) mix (O := O58) (F := (Fk58 (k + 1))) Tryd.func58 rfl (by rfl) (by kernel_rfl) (fun args o v h => ?_) (fun args o v h => ?_) (fun args o v h hbd hp K hK => ?_)
      · unfold Fk58 at h; split at h <;> cases h; first | trivial | (simp [v58, Scalar, Scalar2, Scalar1, stC, ndC, itC, chC, nwC])
      · unfold Fk58 at h; split at h <;> cases h; exact Nat.le_of_ble_eq_true rfl
      · unfold Fk58 at h; split at h
        case h_2 => cases h
        cases h
        exact a58 k ⟨_, _, _, _, _⟩ _ (hp _ rfl).1 (by exact hbd) (hp _ rfl).2 K hK
    · refine pure_ok (E := E84 k) (mkE_cons ih.1 (mkE_nil tab_ok)) mix (O := O84) (F := (Fk84 (k + 1))) Tryd.func84 rfl (by rfl) (by kernel_rfl) (fun args o v h => ?_) (fun args o v h => ?_) (fun args o v h hbd hp K hK => ?_)
      · unfold Fk84 at h; split at h <;> cases h; first | trivial | (simp [v84, Scalar, Scalar2, Scalar1, stC, ndC, itC, chC, nwC])
      · unfold Fk84 at h; split at h <;> cases h; exact Nat.le_of_ble_eq_true rfl
      · unfold Fk84 at h; split at h
        case h_2 => cases h
        cases h
        exact a84 k ⟨_, _, _, _, _⟩ _ (hp _ rfl).1 (by exact hbd) (hp _ rfl).2 K hK
theorem s58 : (CtrOK Tryd.prog 58 (.pure F58) ∧ Callable Tryd.prog 58) := by
  refine ⟨⟨fun args o v h => ?_, fun args K h => ?_⟩, (r58_84 0).1.2⟩
  · unfold F58 at h; split at h <;> cases h; first | trivial | (simp [v58, Scalar, Scalar2, Scalar1, stC, ndC, itC, chC, nwC])
  · unfold pureC F58 at h; split at h
    · rename_i h1; split at h1 <;> cases h1
      exact (r58_84 (m58 ⟨_, _, _, _, _⟩ _ + 1)).1.1.2 _ K ⟨fun p hp => by cases hp; exact ⟨Nat.lt_succ_self _, (h.1 _ rfl)⟩, h.2⟩
    · exact h.elim
theorem s84 : (CtrOK Tryd.prog 84 (.pure F84) ∧ Callable Tryd.prog 84) := by
  refine ⟨⟨fun args o v h => ?_, fun args K h => ?_⟩, (r58_84 0).2.2⟩
  · unfold F84 at h; split at h <;> cases h; first | trivial | (simp [v84, Scalar, Scalar2, Scalar1, stC, ndC, itC, chC, nwC])
  · unfold pureC F84 at h; split at h
    · rename_i h1; split at h1 <;> cases h1
      exact (r58_84 (m84 ⟨_, _, _, _, _⟩ _ + 1)).2.1.2 _ K ⟨fun p hp => by cases hp; exact ⟨Nat.lt_succ_self _, (h.1 _ rfl)⟩, h.2⟩
    · exact h.elim
end Go.Rs

