import Derived.Test.YtkalanmdpnapbaaDoorBase
import Derived.Test.YtkalanmdpnapbaaDoorMA
set_option linter.all false
namespace Go.Rs
open Go.Proofs
set_option maxRecDepth 100000
set_option linter.unusedVariables false
set_option linter.unusedSimpArgs false
noncomputable def v62 (n : Int) (a : Int) (b : Int) : AV := .bool (decide (a ≤ n) && decide (n ≤ b))
noncomputable def o62 (n : Int) (a : Int) (b : Int) : Prop := True
noncomputable def F62 : List AV → QR
  | [.int .i64 n, .int .i64 a, .int .i64 b] => some (none, v62 n a b)
  | _ => none
noncomputable def E62 : Ctx := mkE tab []
noncomputable def O62 : Nat → List DI := ordL []
theorem a62 (n : Int) (a : Int) (b : Int) (hb : BdAs [.int .i64 n, .int .i64 a, .int .i64 b]) (ho : o62 n a b) (K : AV → List AV → Prop) (hK : K (v62 n a b) []) : abody E62 O62 .ps Tryd.f62 (Tryd.f62.body.getD .skip) [.int .i64 n, .int .i64 a, .int .i64 b] K := by
  simp only [BdAs, BdA, BdL, BdC, MX, ndC, shC, itC, stC, opC, chC, nwC, flC, rqC, rsC, enc, List.cons_append, List.nil_append, and_true, true_and] at hb
  unfold v62 at hK
  conv => whnf
  exact hK
theorem s62 : (CtrOK Tryd.prog 62 (.pure F62) ∧ Callable Tryd.prog 62) := by
  refine pure_ok (E := E62) (mkE_nil tab_ok) mix (O := O62) (F := F62) Tryd.func62 rfl (by rfl) (by kernel_rfl) (fun args o v h => ?_) (fun args o v h => ?_) (fun args o v h hbd hp K hK => ?_)
  · unfold F62 at h; split at h <;> cases h; first | trivial | (simp [v62, Scalar, Scalar2, Scalar1, stC, ndC, itC, chC, nwC])
  · unfold F62 at h; split at h <;> cases h; exact Nat.le_of_ble_eq_true rfl
  · unfold F62 at h; split at h
    case h_2 => cases h
    cases h
    exact a62 _ _ _ (by exact hbd) trivial K hK
noncomputable def v100 (b : Bool) : AV := .int .i64 (if b then 1 else 0)
noncomputable def o100 (b : Bool) : Prop := True
noncomputable def F100 : List AV → QR
  | [.bool b] => some (none, v100 b)
  | _ => none
noncomputable def E100 : Ctx := mkE tab []
noncomputable def O100 : Nat → List DI := ordL []
theorem a100 (b : Bool) (hb : BdAs [.bool b]) (ho : o100 b) (K : AV → List AV → Prop) (hK : K (v100 b) []) : abody E100 O100 .ps Tryd.f100 (Tryd.f100.body.getD .skip) [.bool b] K := by
  simp only [BdAs, BdA, BdL, BdC, MX, ndC, shC, itC, stC, opC, chC, nwC, flC, rqC, rsC, enc, List.cons_append, List.nil_append, and_true, true_and] at hb
  unfold v100 at hK
  conv => whnf
  repeat' first
    | (refine Cnd.mk (fun h => ?_) (fun h => ?_) <;> (try simp [etas, elDef, -List.getD_eq_getElem?_getD] at h) <;> conv => whnf)
    | (refine Obl.mk (by first | omega | rfl | exact inK_byte _ | (simp only [inK, Int.toNat_natCast, etas, elDef] <;> first | omega | grind) | grind [inK]) ?_ <;> conv => whnf)
    | (refine OblG.mk (by conv => whnf
                          repeat (first | (refine Bx.mk ?_) | (intro h; (try simp [etas, elDef, -List.getD_eq_getElem?_getD] at h); conv => whnf))
                          first | omega | rfl | exact inK_byte _ | (simp only [inK, Int.toNat_natCast, etas, elDef] <;> first | omega | grind) | grind [inK]) ?_ <;> conv => whnf)
    | (refine Gd.mk (fun h => ?_) <;> (try simp [etas, elDef, -List.getD_eq_getElem?_getD] at h) <;> conv => whnf)
    | (refine And.intro ?_ ?_ <;> conv => whnf)
    | exact True.intro
    | (intro; conv => whnf)
  all_goals exact leafI hK (by grind)
theorem s100 : (CtrOK Tryd.prog 100 (.pure F100) ∧ Callable Tryd.prog 100) := by
  refine pure_ok (E := E100) (mkE_nil tab_ok) mix (O := O100) (F := F100) Tryd.func100 rfl (by rfl) (by kernel_rfl) (fun args o v h => ?_) (fun args o v h => ?_) (fun args o v h hbd hp K hK => ?_)
  · unfold F100 at h; split at h <;> cases h; first | trivial | (simp [v100, Scalar, Scalar2, Scalar1, stC, ndC, itC, chC, nwC])
  · unfold F100 at h; split at h <;> cases h; exact Nat.le_of_ble_eq_true rfl
  · unfold F100 at h; split at h
    case h_2 => cases h
    cases h
    exact a100 _ (by exact hbd) trivial K hK
noncomputable def v91 (s : Bs) : AV := .bool (txtM s)
noncomputable def o91 (s : Bs) : Prop := True
noncomputable def F91 : List AV → QR
  | [.str s] => some (none, v91 s)
  | _ => none
noncomputable def E91 : Ctx := mkE tab [(62, .pure F62)]
noncomputable def O91 : Nat → List DI := ordL []
theorem a91 (s : Bs) (hb : BdAs [.str s]) (ho : o91 s) (K : AV → List AV → Prop) (hK : K (v91 s) []) : abody E91 O91 .ps Tryd.f91 (Tryd.f91.body.getD .skip) [.str s] K := by
  simp only [BdAs, BdA, BdL, BdC, MX, ndC, shC, itC, stC, opC, chC, nwC, flC, rqC, rsC, enc, List.cons_append, List.nil_append, and_true, true_and] at hb
  unfold v91 at hK
  conv => whnf
  refine aloop_intro Nat (fun k => k ≤ s.length ∧ ∀ j, j < k → chrOk (s.getD j 0) = true) (fun k => s.length - k) (fun k => [(3, .int .i64 k)]) (fun _ => []) [] 0 [] [] ⟨by simp, by simp⟩ ?_ (by exact sgOk_of (by rfl)) ?_
  · (conv => whnf); (repeat' (first | exact trivial | rfl | (refine nilEq ?_; first | rfl | (simp only [*]; done) | (simp [*]; done) | grind) | apply And.intro | ((first | refine intEq ?_ | refine boolEq ?_ | refine strEq ?_ | refine psEq ?_ | refine nilEq ?_ | refine arrEq ?_); (try simp only [Int.toNat_natCast, etas, elDef]); first | done | omega | grind | (simp only [*]; done) | (simp [*]; done)))); (all_goals (conv => whnf)); (repeat' (first | exact trivial | rfl | (refine nilEq ?_; first | rfl | (simp only [*]; done) | (simp [*]; done) | grind) | apply And.intro | ((first | refine intEq ?_ | refine boolEq ?_ | refine strEq ?_ | refine psEq ?_ | refine nilEq ?_ | refine arrEq ?_); (try simp only [Int.toNat_natCast, etas, elDef]); first | done | omega | grind | (simp only [*]; done) | (simp [*]; done)) | ((try simp only [Int.toNat_natCast, etas, elDef]); first | done | omega | grind | (simp only [*]; done) | (simp [*]; done))))
  rintro k ⟨hk, hj⟩
  conv => whnf
  repeat' first
    | (refine Cnd.mk (fun h => ?_) (fun h => ?_) <;> (try simp [etas, elDef, -List.getD_eq_getElem?_getD] at h) <;> conv => whnf)
    | (refine Obl.mk (by first | omega | rfl | exact inK_byte _ | (simp only [inK, Int.toNat_natCast, etas, elDef] <;> first | omega | grind) | grind [inK]) ?_ <;> conv => whnf)
    | (refine OblG.mk (by conv => whnf
                          repeat (first | (refine Bx.mk ?_) | (intro h; (try simp [etas, elDef, -List.getD_eq_getElem?_getD] at h); conv => whnf))
                          first | omega | rfl | exact inK_byte _ | (simp only [inK, Int.toNat_natCast, etas, elDef] <;> first | omega | grind) | grind [inK]) ?_ <;> conv => whnf)
    | (refine Gd.mk (fun h => ?_) <;> (try simp [etas, elDef, -List.getD_eq_getElem?_getD] at h) <;> conv => whnf)
    | (refine And.intro ?_ ?_ <;> conv => whnf)
    | exact True.intro
    | (intro; conv => whnf)
  · have : chrOk (s.getD k 0) = false := by grind [chrOk]
    exact leafB hK (by grind [txtM, all_no])
  · refine ⟨k + 1, [], [], ⟨by omega, fun j hjl => ?_⟩, by omega, ?_, (by exact sgOk_of (by rfl))⟩
    · have : chrOk (s.getD k 0) = true := by grind [chrOk]
      grind
    · (conv => whnf); (repeat' (first | exact trivial | rfl | (refine nilEq ?_; first | rfl | (simp only [*]; done) | (simp [*]; done) | grind) | apply And.intro | ((first | refine intEq ?_ | refine boolEq ?_ | refine strEq ?_ | refine psEq ?_ | refine nilEq ?_ | refine arrEq ?_); (try simp only [Int.toNat_natCast, etas, elDef]); first | done | omega | grind | (simp only [*]; done) | (simp [*]; done)))); (all_goals (conv => whnf)); (repeat' (first | exact trivial | rfl | (refine nilEq ?_; first | rfl | (simp only [*]; done) | (simp [*]; done) | grind) | apply And.intro | ((first | refine intEq ?_ | refine boolEq ?_ | refine strEq ?_ | refine psEq ?_ | refine nilEq ?_ | refine arrEq ?_); (try simp only [Int.toNat_natCast, etas, elDef]); first | done | omega | grind | (simp only [*]; done) | (simp [*]; done)) | ((try simp only [Int.toNat_natCast, etas, elDef]); first | done | omega | grind | (simp only [*]; done) | (simp [*]; done))))
  · have : s.all chrOk = true := (all_iff s _).2 (by grind)
    exact leafB hK (by grind [txtM])
theorem s91 : (CtrOK Tryd.prog 91 (.pure F91) ∧ Callable Tryd.prog 91) := by
  refine pure_ok (E := E91) (mkE_cons s62 (mkE_nil tab_ok)) mix (O := O91) (F := F91) Tryd.func91 rfl (by rfl) (by kernel_rfl) (fun args o v h => ?_) (fun args o v h => ?_) (fun args o v h hbd hp K hK => ?_)
  · unfold F91 at h; split at h <;> cases h; first | trivial | (simp [v91, Scalar, Scalar2, Scalar1, stC, ndC, itC, chC, nwC])
  · unfold F91 at h; split at h <;> cases h; exact Nat.le_of_ble_eq_true rfl
  · unfold F91 at h; split at h
    case h_2 => cases h
    cases h
    exact a91 _ (by exact hbd) trivial K hK
noncomputable def v104 (s : Bs) : AV := .bool (txtM s)
noncomputable def o104 (s : Bs) : Prop := True
noncomputable def F104 : List AV → QR
  | [.str s] => some (none, v104 s)
  | _ => none
noncomputable def E104 : Ctx := mkE tab []
noncomputable def O104 : Nat → List DI := ordL []
theorem a104 (s : Bs) (hb : BdAs [.str s]) (ho : o104 s) (K : AV → List AV → Prop) (hK : K (v104 s) []) : abody E104 O104 .ps Tryd.f104 (Tryd.f104.body.getD .skip) [.str s] K := by
  simp only [BdAs, BdA, BdL, BdC, MX, ndC, shC, itC, stC, opC, chC, nwC, flC, rqC, rsC, enc, List.cons_append, List.nil_append, and_true, true_and] at hb
  unfold v104 at hK
  conv => whnf
  repeat' first
    | (refine Cnd.mk (fun h => ?_) (fun h => ?_) <;> (try simp [etas, elDef, -List.getD_eq_getElem?_getD] at h) <;> conv => whnf)
    | (refine Obl.mk (by first | omega | rfl | exact inK_byte _ | (simp only [inK, Int.toNat_natCast, etas, elDef] <;> first | omega | grind) | grind [inK]) ?_ <;> conv => whnf)
    | (refine OblG.mk (by conv => whnf
                          repeat (first | (refine Bx.mk ?_) | (intro h; (try simp [etas, elDef, -List.getD_eq_getElem?_getD] at h); conv => whnf))
                          first | omega | rfl | exact inK_byte _ | (simp only [inK, Int.toNat_natCast, etas, elDef] <;> first | omega | grind) | grind [inK]) ?_ <;> conv => whnf)
    | (refine Gd.mk (fun h => ?_) <;> (try simp [etas, elDef, -List.getD_eq_getElem?_getD] at h) <;> conv => whnf)
    | (refine And.intro ?_ ?_ <;> conv => whnf)
    | exact True.intro
    | (intro; conv => whnf)
  · exact leafB hK (by grind [txtM])
  refine aloop_intro Nat (fun k => k ≤ s.length ∧ ∀ j, j < k → chrOk (s.getD j 0) = true) (fun k => s.length - k) (fun k => [(3, .int .i64 k)]) (fun _ => []) [] 0 [] [] ⟨by simp, by simp⟩ ?_ (by exact sgOk_of (by rfl)) ?_
  · (conv => whnf); (repeat' (first | exact trivial | rfl | (refine nilEq ?_; first | rfl | (simp only [*]; done) | (simp [*]; done) | grind) | apply And.intro | ((first | refine intEq ?_ | refine boolEq ?_ | refine strEq ?_ | refine psEq ?_ | refine nilEq ?_ | refine arrEq ?_); (try simp only [Int.toNat_natCast, etas, elDef]); first | done | omega | grind | (simp only [*]; done) | (simp [*]; done)))); (all_goals (conv => whnf)); (repeat' (first | exact trivial | rfl | (refine nilEq ?_; first | rfl | (simp only [*]; done) | (simp [*]; done) | grind) | apply And.intro | ((first | refine intEq ?_ | refine boolEq ?_ | refine strEq ?_ | refine psEq ?_ | refine nilEq ?_ | refine arrEq ?_); (try simp only [Int.toNat_natCast, etas, elDef]); first | done | omega | grind | (simp only [*]; done) | (simp [*]; done)) | ((try simp only [Int.toNat_natCast, etas, elDef]); first | done | omega | grind | (simp only [*]; done) | (simp [*]; done))))
  rintro k ⟨hk, hj⟩
  conv => whnf
  repeat' first
    | (refine Cnd.mk (fun h => ?_) (fun h => ?_) <;> (try simp [etas, elDef, -List.getD_eq_getElem?_getD] at h) <;> conv => whnf)
    | (refine Obl.mk (by first | omega | rfl | exact inK_byte _ | (simp only [inK, Int.toNat_natCast, etas, elDef] <;> first | omega | grind) | grind [inK]) ?_ <;> conv => whnf)
    | (refine OblG.mk (by conv => whnf
                          repeat (first | (refine Bx.mk ?_) | (intro h; (try simp [etas, elDef, -List.getD_eq_getElem?_getD] at h); conv => whnf))
                          first | omega | rfl | exact inK_byte _ | (simp only [inK, Int.toNat_natCast, etas, elDef] <;> first | omega | grind) | grind [inK]) ?_ <;> conv => whnf)
    | (refine Gd.mk (fun h => ?_) <;> (try simp [etas, elDef, -List.getD_eq_getElem?_getD] at h) <;> conv => whnf)
    | (refine And.intro ?_ ?_ <;> conv => whnf)
    | exact True.intro
    | (intro; conv => whnf)
  · have : chrOk (s.getD k 0) = false := by grind [chrOk]
    exact leafB hK (by grind [txtM, all_no])
  · refine ⟨k + 1, [], [], ⟨by omega, fun j hjl => ?_⟩, by omega, ?_, (by exact sgOk_of (by rfl))⟩
    · have : chrOk (s.getD k 0) = true := by grind [chrOk]
      grind
    · (conv => whnf); (repeat' (first | exact trivial | rfl | (refine nilEq ?_; first | rfl | (simp only [*]; done) | (simp [*]; done) | grind) | apply And.intro | ((first | refine intEq ?_ | refine boolEq ?_ | refine strEq ?_ | refine psEq ?_ | refine nilEq ?_ | refine arrEq ?_); (try simp only [Int.toNat_natCast, etas, elDef]); first | done | omega | grind | (simp only [*]; done) | (simp [*]; done)))); (all_goals (conv => whnf)); (repeat' (first | exact trivial | rfl | (refine nilEq ?_; first | rfl | (simp only [*]; done) | (simp [*]; done) | grind) | apply And.intro | ((first | refine intEq ?_ | refine boolEq ?_ | refine strEq ?_ | refine psEq ?_ | refine nilEq ?_ | refine arrEq ?_); (try simp only [Int.toNat_natCast, etas, elDef]); first | done | omega | grind | (simp only [*]; done) | (simp [*]; done)) | ((try simp only [Int.toNat_natCast, etas, elDef]); first | done | omega | grind | (simp only [*]; done) | (simp [*]; done))))
  · have : s.all chrOk = true := (all_iff s _).2 (by grind)
    exact leafB hK (by grind [txtM])
theorem s104 : (CtrOK Tryd.prog 104 (.pure F104) ∧ Callable Tryd.prog 104) := by
  refine pure_ok (E := E104) (mkE_nil tab_ok) mix (O := O104) (F := F104) Tryd.func104 rfl (by rfl) (by kernel_rfl) (fun args o v h => ?_) (fun args o v h => ?_) (fun args o v h hbd hp K hK => ?_)
  · unfold F104 at h; split at h <;> cases h; first | trivial | (simp [v104, Scalar, Scalar2, Scalar1, stC, ndC, itC, chC, nwC])
  · unfold F104 at h; split at h <;> cases h; exact Nat.le_of_ble_eq_true rfl
  · unfold F104 at h; split at h
    case h_2 => cases h
    cases h
    exact a104 _ (by exact hbd) trivial K hK
noncomputable def v105 (l : List Bs) : AV := .bool (areNamesM l)
noncomputable def o105 (l : List Bs) : Prop := True
noncomputable def F105 : List AV → QR
  | [.ps .str l] => some (none, v105 l)
  | _ => none
noncomputable def E105 : Ctx := mkE tab [(104, .pure F104)]
noncomputable def O105 : Nat → List DI := ordL []
theorem a105 (l : List Bs) (hb : BdAs [.ps .str l]) (ho : o105 l) (K : AV → List AV → Prop) (hK : K (v105 l) []) : abody E105 O105 .ps Tryd.f105 (Tryd.f105.body.getD .skip) [.ps .str l] K := by
  simp only [BdAs, BdA, BdL, BdC, MX, ndC, shC, itC, stC, opC, chC, nwC, flC, rqC, rsC, enc, List.cons_append, List.nil_append, and_true, true_and] at hb
  unfold v105 at hK
  conv => whnf
  repeat' first
    | (refine Cnd.mk (fun h => ?_) (fun h => ?_) <;> (try simp [etas, elDef, -List.getD_eq_getElem?_getD] at h) <;> conv => whnf)
    | (refine Obl.mk (by first | omega | rfl | exact inK_byte _ | (simp only [inK, Int.toNat_natCast, etas, elDef] <;> first | omega | grind) | grind [inK]) ?_ <;> conv => whnf)
    | (refine OblG.mk (by conv => whnf
                          repeat (first | (refine Bx.mk ?_) | (intro h; (try simp [etas, elDef, -List.getD_eq_getElem?_getD] at h); conv => whnf))
                          first | omega | rfl | exact inK_byte _ | (simp only [inK, Int.toNat_natCast, etas, elDef] <;> first | omega | grind) | grind [inK]) ?_ <;> conv => whnf)
    | (refine Gd.mk (fun h => ?_) <;> (try simp [etas, elDef, -List.getD_eq_getElem?_getD] at h) <;> conv => whnf)
    | (refine And.intro ?_ ?_ <;> conv => whnf)
    | exact True.intro
    | (intro; conv => whnf)
  · exact leafB hK (by grind [areNamesM])
  refine aloop_intro Nat (fun k => k ≤ l.length ∧ ∀ j, j < k → nameOk l j = true) (fun k => l.length - k) (fun k => [(10, .int .i64 k)]) (fun _ => []) [] 0 [] [] ⟨by simp, by simp⟩ ?_ (by exact sgOk_of (by rfl)) ?_
  · (conv => whnf); (repeat' (first | exact trivial | rfl | (refine nilEq ?_; first | rfl | (simp only [*]; done) | (simp [*]; done) | grind) | apply And.intro | ((first | refine intEq ?_ | refine boolEq ?_ | refine strEq ?_ | refine psEq ?_ | refine nilEq ?_ | refine arrEq ?_); (try simp only [Int.toNat_natCast, etas, elDef]); first | done | omega | grind | (simp only [*]; done) | (simp [*]; done)))); (all_goals (conv => whnf)); (repeat' (first | exact trivial | rfl | (refine nilEq ?_; first | rfl | (simp only [*]; done) | (simp [*]; done) | grind) | apply And.intro | ((first | refine intEq ?_ | refine boolEq ?_ | refine strEq ?_ | refine psEq ?_ | refine nilEq ?_ | refine arrEq ?_); (try simp only [Int.toNat_natCast, etas, elDef]); first | done | omega | grind | (simp only [*]; done) | (simp [*]; done)) | ((try simp only [Int.toNat_natCast, etas, elDef]); first | done | omega | grind | (simp only [*]; done) | (simp [*]; done))))
  rintro k ⟨hk, hj⟩
  conv => whnf
  repeat' first
    | (refine Cnd.mk (fun h => ?_) (fun h => ?_) <;> (try simp [etas, elDef, -List.getD_eq_getElem?_getD] at h) <;> conv => whnf)
    | (refine Obl.mk (by first | omega | rfl | exact inK_byte _ | (simp only [inK, Int.toNat_natCast, etas, elDef] <;> first | omega | grind) | grind [inK]) ?_ <;> conv => whnf)
    | (refine OblG.mk (by conv => whnf
                          repeat (first | (refine Bx.mk ?_) | (intro h; (try simp [etas, elDef, -List.getD_eq_getElem?_getD] at h); conv => whnf))
                          first | omega | rfl | exact inK_byte _ | (simp only [inK, Int.toNat_natCast, etas, elDef] <;> first | omega | grind) | grind [inK]) ?_ <;> conv => whnf)
    | (refine Gd.mk (fun h => ?_) <;> (try simp [etas, elDef, -List.getD_eq_getElem?_getD] at h) <;> conv => whnf)
    | (refine And.intro ?_ ?_ <;> conv => whnf)
    | exact True.intro
    | (intro; conv => whnf)
  · have : nameOk l k = false := by grind [nameOk]
    exact leafB hK (by grind [areNamesM, namesM_no])
  · refine ⟨k + 1, [], [], ⟨by omega, fun j hjl => ?_⟩, by omega, ?_, (by exact sgOk_of (by rfl))⟩
    · have : nameOk l k = true := by grind [nameOk]
      grind
    · (conv => whnf); (repeat' (first | exact trivial | rfl | (refine nilEq ?_; first | rfl | (simp only [*]; done) | (simp [*]; done) | grind) | apply And.intro | ((first | refine intEq ?_ | refine boolEq ?_ | refine strEq ?_ | refine psEq ?_ | refine nilEq ?_ | refine arrEq ?_); (try simp only [Int.toNat_natCast, etas, elDef]); first | done | omega | grind | (simp only [*]; done) | (simp [*]; done)))); (all_goals (conv => whnf)); (repeat' (first | exact trivial | rfl | (refine nilEq ?_; first | rfl | (simp only [*]; done) | (simp [*]; done) | grind) | apply And.intro | ((first | refine intEq ?_ | refine boolEq ?_ | refine strEq ?_ | refine psEq ?_ | refine nilEq ?_ | refine arrEq ?_); (try simp only [Int.toNat_natCast, etas, elDef]); first | done | omega | grind | (simp only [*]; done) | (simp [*]; done)) | ((try simp only [Int.toNat_natCast, etas, elDef]); first | done | omega | grind | (simp only [*]; done) | (simp [*]; done))))
  · have : namesM l = true := (namesM_iff l).2 (by grind)
    exact leafB hK (by grind [areNamesM])
theorem s105 : (CtrOK Tryd.prog 105 (.pure F105) ∧ Callable Tryd.prog 105) := by
  refine pure_ok (E := E105) (mkE_cons s104 (mkE_nil tab_ok)) mix (O := O105) (F := F105) Tryd.func105 rfl (by rfl) (by kernel_rfl) (fun args o v h => ?_) (fun args o v h => ?_) (fun args o v h hbd hp K hK => ?_)
  · unfold F105 at h; split at h <;> cases h; first | trivial | (simp [v105, Scalar, Scalar2, Scalar1, stC, ndC, itC, chC, nwC])
  · unfold F105 at h; split at h <;> cases h; exact Nat.le_of_ble_eq_true rfl
  · unfold F105 at h; split at h
    case h_2 => cases h
    cases h
    exact a105 _ (by exact hbd) trivial K hK
noncomputable def v93 (l : List Bs) : AV := .bool (namesM l)
noncomputable def o93 (l : List Bs) : Prop := True
noncomputable def F93 : List AV → QR
  | [.ps .str l] => some (none, v93 l)
  | _ => none
noncomputable def E93 : Ctx := mkE tab [(91, .pure F91)]
noncomputable def O93 : Nat → List DI := ordL [(4, [.q 0, .q 1, .q 2, .q 3, .q 4, .q 5, .q 6, .q 7, .q 8, .q 9, .q 10, .q 11, .q 12, .q 13, .q 14, .q 15, .q 16, .q 17, .q 18, .q 19, .q 20, .q 21])]
theorem a93 (l : List Bs) (hb : BdAs [.ps .str l]) (ho : o93 l) (K : AV → List AV → Prop) (hK : K (v93 l) []) : abody E93 O93 .ps Tryd.f93 (Tryd.f93.body.getD .skip) [.ps .str l] K := by
  simp only [BdAs, BdA, BdL, BdC, MX, ndC, shC, itC, stC, opC, chC, nwC, flC, rqC, rsC, enc, List.cons_append, List.nil_append, and_true, true_and] at hb
  unfold v93 at hK
  conv => whnf
  refine aloop_intro Nat (fun k => k ≤ l.length ∧ ∀ j, j < k → nameOk l j = true) (fun k => l.length - k) (fun k => [(3, .int .i64 k)]) (fun _ => []) [] 0 [] [] ⟨by simp, by simp⟩ ?_ (by exact sgOk_of (by rfl)) ?_
  · (conv => whnf); (repeat' (first | exact trivial | rfl | (refine nilEq ?_; first | rfl | (simp only [*]; done) | (simp [*]; done) | grind) | apply And.intro | ((first | refine intEq ?_ | refine boolEq ?_ | refine strEq ?_ | refine psEq ?_ | refine nilEq ?_ | refine arrEq ?_); (try simp only [Int.toNat_natCast, etas, elDef]); first | done | omega | grind | (simp only [*]; done) | (simp [*]; done)))); (all_goals (conv => whnf)); (repeat' (first | exact trivial | rfl | (refine nilEq ?_; first | rfl | (simp only [*]; done) | (simp [*]; done) | grind) | apply And.intro | ((first | refine intEq ?_ | refine boolEq ?_ | refine strEq ?_ | refine psEq ?_ | refine nilEq ?_ | refine arrEq ?_); (try simp only [Int.toNat_natCast, etas, elDef]); first | done | omega | grind | (simp only [*]; done) | (simp [*]; done)) | ((try simp only [Int.toNat_natCast, etas, elDef]); first | done | omega | grind | (simp only [*]; done) | (simp [*]; done))))
  rintro k ⟨hk, hj⟩
  conv => whnf
  repeat' first
    | (refine Cnd.mk (fun h => ?_) (fun h => ?_) <;> (try simp [etas, elDef, -List.getD_eq_getElem?_getD] at h) <;> conv => whnf)
    | (refine Obl.mk (by first | omega | rfl | exact inK_byte _ | (simp only [inK, Int.toNat_natCast, etas, elDef] <;> first | omega | grind) | grind [inK]) ?_ <;> conv => whnf)
    | (refine OblG.mk (by conv => whnf
                          repeat (first | (refine Bx.mk ?_) | (intro h; (try simp [etas, elDef, -List.getD_eq_getElem?_getD] at h); conv => whnf))
                          first | omega | rfl | exact inK_byte _ | (simp only [inK, Int.toNat_natCast, etas, elDef] <;> first | omega | grind) | grind [inK]) ?_ <;> conv => whnf)
    | (refine Gd.mk (fun h => ?_) <;> (try simp [etas, elDef, -List.getD_eq_getElem?_getD] at h) <;> conv => whnf)
    | (refine And.intro ?_ ?_ <;> conv => whnf)
    | exact True.intro
    | (intro; conv => whnf)
  · have : nameOk l k = false := by grind [nameOk]
    exact leafB hK (by grind [namesM_no])
  · refine ⟨k + 1, [], [], ⟨by omega, fun j hjl => ?_⟩, by omega, ?_, (by exact sgOk_of (by rfl))⟩
    · have : nameOk l k = true := by grind [nameOk]
      grind
    · (conv => whnf); (repeat' (first | exact trivial | rfl | (refine nilEq ?_; first | rfl | (simp only [*]; done) | (simp [*]; done) | grind) | apply And.intro | ((first | refine intEq ?_ | refine boolEq ?_ | refine strEq ?_ | refine psEq ?_ | refine nilEq ?_ | refine arrEq ?_); (try simp only [Int.toNat_natCast, etas, elDef]); first | done | omega | grind | (simp only [*]; done) | (simp [*]; done)))); (all_goals (conv => whnf)); (repeat' (first | exact trivial | rfl | (refine nilEq ?_; first | rfl | (simp only [*]; done) | (simp [*]; done) | grind) | apply And.intro | ((first | refine intEq ?_ | refine boolEq ?_ | refine strEq ?_ | refine psEq ?_ | refine nilEq ?_ | refine arrEq ?_); (try simp only [Int.toNat_natCast, etas, elDef]); first | done | omega | grind | (simp only [*]; done) | (simp [*]; done)) | ((try simp only [Int.toNat_natCast, etas, elDef]); first | done | omega | grind | (simp only [*]; done) | (simp [*]; done))))
  · have : namesM l = true := (namesM_iff l).2 (by grind)
    exact leafB hK (by grind)
theorem s93 : (CtrOK Tryd.prog 93 (.pure F93) ∧ Callable Tryd.prog 93) := by
  refine pure_ok (E := E93) (mkE_cons s91 (mkE_nil tab_ok)) mix (O := O93) (F := F93) Tryd.func93 rfl (by rfl) (by kernel_rfl) (fun args o v h => ?_) (fun args o v h => ?_) (fun args o v h hbd hp K hK => ?_)
  · unfold F93 at h; split at h <;> cases h; first | trivial | (simp [v93, Scalar, Scalar2, Scalar1, stC, ndC, itC, chC, nwC])
  · unfold F93 at h; split at h <;> cases h; exact Nat.le_of_ble_eq_true rfl
  · unfold F93 at h; split at h
    case h_2 => cases h
    cases h
    exact a93 _ (by exact hbd) trivial K hK
noncomputable def v86 (n : Nd) : AV := .bool (partsM n)
noncomputable def o86 (n : Nd) : Prop := True
noncomputable def F86 : List AV → QR
  | [.st [.int .i64 n_0, .int .i64 n_1, .str n_2, .ps .str n_3, .ps .node n_4]] => some (none, v86 ⟨n_0, n_1, n_2, n_3, n_4⟩)
  | _ => none
noncomputable def E86 : Ctx := mkE tab [(104, .pure F104), (105, .pure F105)]
noncomputable def O86 : Nat → List DI := ordL []
theorem a86 (n : Nd) (hb : BdAs [.st (ndC n)]) (ho : o86 n) (K : AV → List AV → Prop) (hK : K (v86 n) []) : abody E86 O86 .ps Tryd.f86 (Tryd.f86.body.getD .skip) [.st (ndC n)] K := by
  simp only [BdAs, BdA, BdL, BdC, MX, ndC, shC, itC, stC, opC, chC, nwC, flC, rqC, rsC, enc, List.cons_append, List.nil_append, and_true, true_and] at hb
  unfold v86 at hK
  conv => whnf
  repeat' first
    | (refine Cnd.mk (fun h => ?_) (fun h => ?_) <;> (try simp [etas, elDef, -List.getD_eq_getElem?_getD] at h) <;> conv => whnf)
    | (refine Obl.mk (by first | omega | rfl | exact inK_byte _ | (simp only [inK, Int.toNat_natCast, etas, elDef] <;> first | omega | grind) | grind [inK]) ?_ <;> conv => whnf)
    | (refine OblG.mk (by conv => whnf
                          repeat (first | (refine Bx.mk ?_) | (intro h; (try simp [etas, elDef, -List.getD_eq_getElem?_getD] at h); conv => whnf))
                          first | omega | rfl | exact inK_byte _ | (simp only [inK, Int.toNat_natCast, etas, elDef] <;> first | omega | grind) | grind [inK]) ?_ <;> conv => whnf)
    | (refine Gd.mk (fun h => ?_) <;> (try simp [etas, elDef, -List.getD_eq_getElem?_getD] at h) <;> conv => whnf)
    | (refine And.intro ?_ ?_ <;> conv => whnf)
    | exact True.intro
    | (intro; conv => whnf)
  all_goals exact leafB hK (by grind [partsM])
theorem s86 : (CtrOK Tryd.prog 86 (.pure F86) ∧ Callable Tryd.prog 86) := by
  refine pure_ok (E := E86) (mkE_cons s104 (mkE_cons s105 (mkE_nil tab_ok))) mix (O := O86) (F := F86) Tryd.func86 rfl (by rfl) (by kernel_rfl) (fun args o v h => ?_) (fun args o v h => ?_) (fun args o v h hbd hp K hK => ?_)
  · unfold F86 at h; split at h <;> cases h; first | trivial | (simp [v86, Scalar, Scalar2, Scalar1, stC, ndC, itC, chC, nwC])
  · unfold F86 at h; split at h <;> cases h; exact Nat.le_of_ble_eq_true rfl
  · unfold F86 at h; split at h
    case h_2 => cases h
    cases h
    exact a86 ⟨_, _, _, _, _⟩ (by exact hbd) trivial K hK
noncomputable def v69 (n : Nd) (d : Int) : AV := .bool (shapeM d.toNat n)
noncomputable def o69 (n : Nd) (d : Int) : Prop := 0 ≤ d ∧ d ≤ 5
noncomputable def m69 (n : Nd) (d : Int) : Nat := 2 * d.toNat
noncomputable def F69 : List AV → QR
  | [.st [.int .i64 n_0, .int .i64 n_1, .str n_2, .ps .str n_3, .ps .node n_4], .int .i64 d] => some (some (o69 ⟨n_0, n_1, n_2, n_3, n_4⟩ d), v69 ⟨n_0, n_1, n_2, n_3, n_4⟩ d)
  | _ => none
noncomputable def Fk69 (k : Nat) : List AV → QR
  | [.st [.int .i64 n_0, .int .i64 n_1, .str n_2, .ps .str n_3, .ps .node n_4], .int .i64 d] => some (some (m69 ⟨n_0, n_1, n_2, n_3, n_4⟩ d < k ∧ o69 ⟨n_0, n_1, n_2, n_3, n_4⟩ d), v69 ⟨n_0, n_1, n_2, n_3, n_4⟩ d)
  | _ => none
noncomputable def v92 (n : Nd) (d : Int) : AV := .bool (n.kids.all (shapeM (d.toNat - 1)))
noncomputable def o92 (n : Nd) (d : Int) : Prop := 1 ≤ d ∧ d ≤ 5
noncomputable def m92 (n : Nd) (d : Int) : Nat := 2 * d.toNat - 1
noncomputable def Fk92 (k : Nat) : List AV → QR
  | [.st [.int .i64 n_0, .int .i64 n_1, .str n_2, .ps .str n_3, .ps .node n_4], .int .i64 d] => some (some (m92 ⟨n_0, n_1, n_2, n_3, n_4⟩ d < k ∧ o92 ⟨n_0, n_1, n_2, n_3, n_4⟩ d), v92 ⟨n_0, n_1, n_2, n_3, n_4⟩ d)
  | _ => none
noncomputable def E69 (k : Nat) : Ctx := mkE tab [(62, .pure F62), (91, .pure F91), (92, .pure (Fk92 k)), (93, .pure F93)]
noncomputable def O69 : Nat → List DI := ordL []
theorem a69 (k : Nat) (n : Nd) (d : Int) (hm : m69 n d < k + 1) (hb : BdAs [.st (ndC n), .int .i64 d]) (ho : o69 n d) (K : AV → List AV → Prop) (hK : K (v69 n d) []) : abody (E69 k) O69 .ps Tryd.f69 (Tryd.f69.body.getD .skip) [.st (ndC n), .int .i64 d] K := by
  simp only [BdAs, BdA, BdL, BdC, MX, ndC, shC, itC, stC, opC, chC, nwC, flC, rqC, rsC, enc, List.cons_append, List.nil_append, and_true, true_and] at hb
  unfold o69 at ho
  unfold v69 at hK
  unfold m69 at hm
  have h0 : d = 0 → shapeM d.toNat n = false := fun e => by subst e; rfl
  have h1 : 0 < d → shapeM d.toNat n = (partsM n && n.kids.all (shapeM (d.toNat - 1))) := shapeM_pos n
  conv => whnf
  repeat' first
    | (refine Cnd.mk (fun h => ?_) (fun h => ?_) <;> (try simp [etas, elDef, -List.getD_eq_getElem?_getD] at h) <;> conv => whnf)
    | (refine Obl.mk (by first | omega | rfl | exact inK_byte _ | (simp only [inK, Int.toNat_natCast, etas, elDef, m69, m92, o92, m92] <;> first | omega | grind) | grind [inK, m69, m92, o92, m92]) ?_ <;> conv => whnf)
    | (refine OblG.mk (by conv => whnf
                          repeat (first | (refine Bx.mk ?_) | (intro h; (try simp [etas, elDef, -List.getD_eq_getElem?_getD] at h); conv => whnf))
                          first | omega | rfl | exact inK_byte _ | (simp only [inK, Int.toNat_natCast, etas, elDef, m69, m92, o92, m92] <;> first | omega | grind) | grind [inK, m69, m92, o92, m92]) ?_ <;> conv => whnf)
    | (refine Gd.mk (fun h => ?_) <;> (try simp [etas, elDef, -List.getD_eq_getElem?_getD] at h) <;> conv => whnf)
    | (refine And.intro ?_ ?_ <;> conv => whnf)
    | exact True.intro
    | (intro; conv => whnf)
  all_goals exact leafB hK (by grind (splits := 20) [partsM, areNamesM])
noncomputable def E92 (k : Nat) : Ctx := mkE tab [(69, .pure (Fk69 k))]
noncomputable def O92 : Nat → List DI := ordL []
theorem a92 (k : Nat) (n : Nd) (d : Int) (hm : m92 n d < k + 1) (hb : BdAs [.st (ndC n), .int .i64 d]) (ho : o92 n d) (K : AV → List AV → Prop) (hK : K (v92 n d) []) : abody (E92 k) O92 .ps Tryd.f92 (Tryd.f92.body.getD .skip) [.st (ndC n), .int .i64 d] K := by
  simp only [BdAs, BdA, BdL, BdC, MX, ndC, shC, itC, stC, opC, chC, nwC, flC, rqC, rsC, enc, List.cons_append, List.nil_append, and_true, true_and] at hb
  unfold o92 at ho
  unfold v92 at hK
  unfold m92 at hm
  have hd : (d - 1).toNat = d.toNat - 1 := by omega
  conv => whnf
  refine aloop_intro Nat (fun k => k ≤ n.kids.length ∧ ∀ j, j < k → shapeM (d.toNat - 1) (n.kids.getD j default) = true) (fun k => n.kids.length - k) (fun k => [(5, .int .i64 k)]) (fun _ => []) [2] 0 [] [] ⟨by simp, by simp⟩ ?_ (by exact sgOk_of (by rfl)) ?_
  · (conv => whnf); (repeat' (first | exact trivial | rfl | (refine nilEq ?_; first | rfl | (simp only [*]; done) | (simp [*]; done) | grind) | apply And.intro | ((first | refine intEq ?_ | refine boolEq ?_ | refine strEq ?_ | refine psEq ?_ | refine nilEq ?_ | refine arrEq ?_); (try simp only [Int.toNat_natCast, etas, elDef]); first | done | omega | grind | (simp only [*]; done) | (simp [*]; done)))); (all_goals (conv => whnf)); (repeat' (first | exact trivial | rfl | (refine nilEq ?_; first | rfl | (simp only [*]; done) | (simp [*]; done) | grind) | apply And.intro | ((first | refine intEq ?_ | refine boolEq ?_ | refine strEq ?_ | refine psEq ?_ | refine nilEq ?_ | refine arrEq ?_); (try simp only [Int.toNat_natCast, etas, elDef]); first | done | omega | grind | (simp only [*]; done) | (simp [*]; done)) | ((try simp only [Int.toNat_natCast, etas, elDef]); first | done | omega | grind | (simp only [*]; done) | (simp [*]; done))))
  rintro i ⟨hk, hj⟩
  conv => whnf
  repeat' first
    | (refine Cnd.mk (fun h => ?_) (fun h => ?_) <;> (try simp [etas, elDef, -List.getD_eq_getElem?_getD] at h) <;> conv => whnf)
    | (refine Obl.mk (by first | omega | rfl | exact inK_byte _ | (simp only [inK, Int.toNat_natCast, etas, elDef, m69, m92, o69, m69] <;> first | omega | grind) | grind [inK, m69, m92, o69, m69]) ?_ <;> conv => whnf)
    | (refine OblG.mk (by conv => whnf
                          repeat (first | (refine Bx.mk ?_) | (intro h; (try simp [etas, elDef, -List.getD_eq_getElem?_getD] at h); conv => whnf))
                          first | omega | rfl | exact inK_byte _ | (simp only [inK, Int.toNat_natCast, etas, elDef, m69, m92, o69, m69] <;> first | omega | grind) | grind [inK, m69, m92, o69, m69]) ?_ <;> conv => whnf)
    | (refine Gd.mk (fun h => ?_) <;> (try simp [etas, elDef, -List.getD_eq_getElem?_getD] at h) <;> conv => whnf)
    | (refine And.intro ?_ ?_ <;> conv => whnf)
    | exact True.intro
    | (intro; conv => whnf)
  · exact leafB hK (allN_no (j := i) (by omega) (by grind))
  · refine ⟨i + 1, [], [], ⟨by omega, fun j hjl => ?_⟩, by omega, ?_, (by exact sgOk_of (by rfl))⟩
    · have : shapeM (d.toNat - 1) (n.kids.getD i default) = true := by grind
      grind
    · (conv => whnf); (repeat' (first | exact trivial | rfl | (refine nilEq ?_; first | rfl | (simp only [*]; done) | (simp [*]; done) | grind) | apply And.intro | ((first | refine intEq ?_ | refine boolEq ?_ | refine strEq ?_ | refine psEq ?_ | refine nilEq ?_ | refine arrEq ?_); (try simp only [Int.toNat_natCast, etas, elDef]); first | done | omega | grind | (simp only [*]; done) | (simp [*]; done)))); (all_goals (conv => whnf)); (repeat' (first | exact trivial | rfl | (refine nilEq ?_; first | rfl | (simp only [*]; done) | (simp [*]; done) | grind) | apply And.intro | ((first | refine intEq ?_ | refine boolEq ?_ | refine strEq ?_ | refine psEq ?_ | refine nilEq ?_ | refine arrEq ?_); (try simp only [Int.toNat_natCast, etas, elDef]); first | done | omega | grind | (simp only [*]; done) | (simp [*]; done)) | ((try simp only [Int.toNat_natCast, etas, elDef]); first | done | omega | grind | (simp only [*]; done) | (simp [*]; done))))
  · exact leafB hK ((allN_iff _ _).2 (by grind))
theorem r69_92 : ∀ k, (CtrOK Tryd.prog 69 (.pure (Fk69 k)) ∧ Callable Tryd.prog 69) ∧ (CtrOK Tryd.prog 92 (.pure (Fk92 k)) ∧ Callable Tryd.prog 92) := by
  intro k
  induction k with
  | zero =>
    exact ⟨⟨⟨fun args o v h => by unfold Fk69 at h; split at h <;> cases h; first | trivial | (simp [v69, Scalar, Scalar2, Scalar1, stC, ndC, itC, chC, nwC]), fun args K h => by
        unfold pureC Fk69 at h; split at h
        · rename_i h1; split at h1 <;> cases h1; exact absurd (h.1 _ rfl).1 (Nat.not_lt_zero _)
        · exact h.elim⟩, callable Tryd.func69 rfl (by rfl)⟩, ⟨⟨fun args o v h => by unfold Fk92 at h; split at h <;> cases h; first | trivial | (simp [v92, Scalar, Scalar2, Scalar1, stC, ndC, itC, chC, nwC]), fun args K h => by
        unfold pureC Fk92 at h; split at h
        · rename_i h1; split at h1 <;> cases h1; exact absurd (h.1 _ rfl).1 (Nat.not_lt_zero _)
        · exact h.elim⟩, callable Tryd.func92 rfl (by rfl)⟩⟩
  | succ k ih =>
    refine ⟨?_, ?_⟩
    · refine pure_ok (E := E69 k) (mkE_cons s62 (mkE_cons s91 (mkE_cons ih.2 (mkE_cons s93 (mkE_nil tab_ok))))) mix (O := O69) (F := (Fk69 (k + 1))) Tryd.func69 rfl (by rfl) (by kernel_rfl) (fun args o v h => ?_) (fun args o v h => ?_) (fun args o v h hbd hp K hK => ?_)
      · unfold Fk69 at h; split at h <;> cases h; first | trivial | (simp [v69, Scalar, Scalar2, Scalar1, stC, ndC, itC, chC, nwC])
      · unfold Fk69 at h; split at h <;> cases h; exact Nat.le_of_ble_eq_true rfl
      · unfold Fk69 at h; split at h
        case h_2 => cases h
        cases h
        exact a69 k ⟨_, _, _, _, _⟩ _ (hp _ rfl).1 (by exact hbd) (hp _ rfl).2 K hK
    · refine pure_ok (E := E92 k) (mkE_cons ih.1 (mkE_nil tab_ok)) mix (O := O92) (F := (Fk92 (k + 1))) Tryd.func92 rfl (by rfl) (by kernel_rfl) (fun args o v h => ?_) (fun args o v h => ?_) (fun args o v h hbd hp K hK => ?_)
      · unfold Fk92 at h; split at h <;> cases h; first | trivial | (simp [v92, Scalar, Scalar2, Scalar1, stC, ndC, itC, chC, nwC])
      · unfold Fk92 at h; split at h <;> cases h; exact Nat.le_of_ble_eq_true rfl
      · unfold Fk92 at h; split at h
        case h_2 => cases h
        cases h
        exact a92 k ⟨_, _, _, _, _⟩ _ (hp _ rfl).1 (by exact hbd) (hp _ rfl).2 K hK
theorem s69 : (CtrOK Tryd.prog 69 (.pure F69) ∧ Callable Tryd.prog 69) := by
  refine ⟨⟨fun args o v h => ?_, fun args K h => ?_⟩, (r69_92 0).1.2⟩
  · unfold F69 at h; split at h <;> cases h; first | trivial | (simp [v69, Scalar, Scalar2, Scalar1, stC, ndC, itC, chC, nwC])
  · unfold pureC F69 at h; split at h
    · rename_i h1; split at h1 <;> cases h1
      exact (r69_92 (m69 ⟨_, _, _, _, _⟩ _ + 1)).1.1.2 _ K ⟨fun p hp => by cases hp; exact ⟨Nat.lt_succ_self _, (h.1 _ rfl)⟩, h.2⟩
    · exact h.elim
end Go.Rs

