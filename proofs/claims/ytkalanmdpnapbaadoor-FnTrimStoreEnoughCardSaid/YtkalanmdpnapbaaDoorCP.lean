import Derived.Test.YtkalanmdpnapbaaDoorCN
import Derived.Test.YtkalanmdpnapbaaDoorMC
set_option linter.all false
namespace Go.Rs
open Go.Proofs
set_option maxRecDepth 100000
set_option linter.unusedVariables false
set_option linter.unusedSimpArgs false
noncomputable def v99 (a : Int) : AV := .bool false
noncomputable def o99 (a : Int) : Prop := True
noncomputable def F99 : List AV → QR
  | [.int .i64 a] => some (none, v99 a)
  | _ => none
noncomputable def E99 : Ctx := mkE tab []
noncomputable def O99 : Nat → List DI := ordL []
theorem a99 (a : Int) (hb : BdAs [.int .i64 a]) (ho : o99 a) (K : AV → List AV → Prop) (hK : K (v99 a) []) : abody E99 O99 .ps Tryd.f99 (Tryd.f99.body.getD .skip) [.int .i64 a] K := by
  simp only [BdAs, BdA, BdL, BdC, MX, ndC, shC, itC, stC, opC, chC, nwC, flC, rqC, rsC, enc, List.cons_append, List.nil_append, and_true, true_and] at hb
  unfold v99 at hK
  conv => whnf
  repeat' first
    | (refine Cnd.mk (fun h => ?_) (fun h => ?_) <;> (try simp [etas, elDef, -List.getD_eq_getElem?_getD] at h) <;> conv => whnf)
    | (refine Obl.mk (by first | omega | rfl | exact inK_byte _ | (simp only [inK, Int.toNat_natCast, etas, elDef] <;> first | omega | grind) | grind [inK]) ?_ <;> conv => whnf)
    | (refine OblG.mk (by conv => whnf
                          repeat (first | (refine Bx.mk ?_) | (intro h; (try simp [etas, elDef, -List.getD_eq_getElem?_getD] at h); conv => whnf))
                          first | omega | rfl | exact inK_byte _ | (simp only [inK, Int.toNat_natCast, etas, elDef] <;> first | omega | grind) | grind [inK]) ?_ <;> conv => whnf)
    | (refine Gd.mk (fun h => ?_) <;> (try simp [etas, elDef, -List.getD_eq_getElem?_getD] at h) <;> conv => whnf)
    | (refine And.intro ?_ ?_ <;> conv => whnf)
    | exact True.intro
    | (intro; conv => whnf)
  all_goals exact leafB hK (by simp)
theorem s99 : (CtrOK Tryd.prog 99 (.pure F99) ∧ Callable Tryd.prog 99) := by
  refine pure_ok (E := E99) (mkE_nil tab_ok) mix (O := O99) (F := F99) Tryd.func99 rfl (by rfl) (by kernel_rfl) (fun args o v h => ?_) (fun args o v h => ?_) (fun args o v h hbd hp K hK => ?_)
  · unfold F99 at h; split at h <;> cases h; first | trivial | (simp [v99, Scalar, Scalar2, Scalar1, stC, ndC, itC, chC, nwC])
  · unfold F99 at h; split at h <;> cases h; exact Nat.le_of_ble_eq_true rfl
  · unfold F99 at h; split at h
    case h_2 => cases h
    cases h
    exact a99 _ (by exact hbd) trivial K hK
noncomputable def v75 (a : Int) (b : Int) : AV := .int .i64 (ordI a b)
noncomputable def o75 (a : Int) (b : Int) : Prop := True
noncomputable def F75 : List AV → QR
  | [.int .i64 a, .int .i64 b] => some (none, v75 a b)
  | _ => none
noncomputable def E75 : Ctx := mkE tab [(99, .pure F99)]
noncomputable def O75 : Nat → List DI := ordL []
theorem a75 (a : Int) (b : Int) (hb : BdAs [.int .i64 a, .int .i64 b]) (ho : o75 a b) (K : AV → List AV → Prop) (hK : K (v75 a b) []) : abody E75 O75 .ps Tryd.f75 (Tryd.f75.body.getD .skip) [.int .i64 a, .int .i64 b] K := by
  simp only [BdAs, BdA, BdL, BdC, MX, ndC, shC, itC, stC, opC, chC, nwC, flC, rqC, rsC, enc, List.cons_append, List.nil_append, and_true, true_and] at hb
  unfold v75 at hK
  conv => whnf
  repeat' first
    | (refine Cnd.mk (fun h => ?_) (fun h => ?_) <;> (try simp [etas, elDef, -List.getD_eq_getElem?_getD] at h) <;> conv => whnf)
    | (refine Obl.mk (by first | omega | rfl | exact inK_byte _ | (simp only [inK, Int.toNat_natCast, etas, elDef] <;> first | omega | grind) | grind [inK]) ?_ <;> conv => whnf)
    | (refine OblG.mk (by conv => whnf
                          repeat (first | (refine Bx.mk ?_) | (intro h; (try simp [etas, elDef, -List.getD_eq_getElem?_getD] at h); conv => whnf))
                          first | omega | rfl | exact inK_byte _ | (simp only [inK, Int.toNat_natCast, etas, elDef] <;> first | omega | grind) | grind [inK]) ?_ <;> conv => whnf)
    | (refine Gd.mk (fun h => ?_) <;> (try simp [etas, elDef, -List.getD_eq_getElem?_getD] at h) <;> conv => whnf)
    | (refine And.intro ?_ ?_ <;> conv => whnf)
    | exact True.intro
    | (intro; conv => whnf)
  all_goals exact leafI hK (by unfold ordI; split <;> (try split) <;> omega)
theorem s75 : (CtrOK Tryd.prog 75 (.pure F75) ∧ Callable Tryd.prog 75) := by
  refine pure_ok (E := E75) (mkE_cons s99 (mkE_nil tab_ok)) mix (O := O75) (F := F75) Tryd.func75 rfl (by rfl) (by kernel_rfl) (fun args o v h => ?_) (fun args o v h => ?_) (fun args o v h hbd hp K hK => ?_)
  · unfold F75 at h; split at h <;> cases h; first | trivial | (simp [v75, Scalar, Scalar2, Scalar1, stC, ndC, itC, chC, nwC])
  · unfold F75 at h; split at h <;> cases h; exact Nat.le_of_ble_eq_true rfl
  · unfold F75 at h; split at h
    case h_2 => cases h
    cases h
    exact a75 _ _ (by exact hbd) trivial K hK
noncomputable def v76 (a : Int) (b : Int) : AV := .int .i64 (ordI a b)
noncomputable def o76 (a : Int) (b : Int) : Prop := True
noncomputable def F76 : List AV → QR
  | [.int .i64 a, .int .i64 b] => some (none, v76 a b)
  | _ => none
noncomputable def E76 : Ctx := mkE tab [(100, .pure F100)]
noncomputable def O76 : Nat → List DI := ordL []
theorem a76 (a : Int) (b : Int) (hb : BdAs [.int .i64 a, .int .i64 b]) (ho : o76 a b) (K : AV → List AV → Prop) (hK : K (v76 a b) []) : abody E76 O76 .ps Tryd.f76 (Tryd.f76.body.getD .skip) [.int .i64 a, .int .i64 b] K := by
  simp only [BdAs, BdA, BdL, BdC, MX, ndC, shC, itC, stC, opC, chC, nwC, flC, rqC, rsC, enc, List.cons_append, List.nil_append, and_true, true_and] at hb
  unfold v76 at hK
  conv => whnf
  repeat' first
    | (refine Cnd.mk (fun h => ?_) (fun h => ?_) <;> (try simp [etas, elDef, -List.getD_eq_getElem?_getD] at h) <;> conv => whnf)
    | (refine Obl.mk (by first | omega | rfl | exact inK_byte _ | (simp only [inK, Int.toNat_natCast, etas, elDef] <;> first | omega | grind) | grind [inK]) ?_ <;> conv => whnf)
    | (refine OblG.mk (by conv => whnf
                          repeat (first | (refine Bx.mk ?_) | (intro h; (try simp [etas, elDef, -List.getD_eq_getElem?_getD] at h); conv => whnf))
                          first | omega | rfl | exact inK_byte _ | (simp only [inK, Int.toNat_natCast, etas, elDef] <;> first | omega | grind) | grind [inK]) ?_ <;> conv => whnf)
    | (refine Gd.mk (fun h => ?_) <;> (try simp [etas, elDef, -List.getD_eq_getElem?_getD] at h) <;> conv => whnf)
    | (refine And.intro ?_ ?_ <;> conv => whnf)
    | exact True.intro
    | (intro; conv => whnf)
  all_goals exact leafI hK (by unfold ordI; grind)
theorem s76 : (CtrOK Tryd.prog 76 (.pure F76) ∧ Callable Tryd.prog 76) := by
  refine pure_ok (E := E76) (mkE_cons s100 (mkE_nil tab_ok)) mix (O := O76) (F := F76) Tryd.func76 rfl (by rfl) (by kernel_rfl) (fun args o v h => ?_) (fun args o v h => ?_) (fun args o v h hbd hp K hK => ?_)
  · unfold F76 at h; split at h <;> cases h; first | trivial | (simp [v76, Scalar, Scalar2, Scalar1, stC, ndC, itC, chC, nwC])
  · unfold F76 at h; split at h <;> cases h; exact Nat.le_of_ble_eq_true rfl
  · unfold F76 at h; split at h
    case h_2 => cases h
    cases h
    exact a76 _ _ (by exact hbd) trivial K hK
noncomputable def v77 (a : Bs) (b : Bs) : AV := .int .i64 (cmpI a b)
noncomputable def o77 (a : Bs) (b : Bs) : Prop := True
noncomputable def F77 : List AV → QR
  | [.str a, .str b] => some (none, v77 a b)
  | _ => none
noncomputable def E77 : Ctx := mkE tab [(100, .pure F100)]
noncomputable def O77 : Nat → List DI := ordL []
theorem a77 (a : Bs) (b : Bs) (hb : BdAs [.str a, .str b]) (ho : o77 a b) (K : AV → List AV → Prop) (hK : K (v77 a b) []) : abody E77 O77 .ps Tryd.f77 (Tryd.f77.body.getD .skip) [.str a, .str b] K := by
  simp only [BdAs, BdA, BdL, BdC, MX, ndC, shC, itC, stC, opC, chC, nwC, flC, rqC, rsC, enc, List.cons_append, List.nil_append, and_true, true_and] at hb
  unfold v77 at hK
  have h1 := fun h : ltS a b = true => ltS_asymm h
  conv => whnf
  repeat' first
    | (refine Cnd.mk (fun h => ?_) (fun h => ?_) <;> (try simp [etas, elDef, -List.getD_eq_getElem?_getD] at h) <;> conv => whnf)
    | (refine Obl.mk (by first | omega | rfl | exact inK_byte _ | (simp only [inK, Int.toNat_natCast, etas, elDef] <;> first | omega | grind) | grind [inK]) ?_ <;> conv => whnf)
    | (refine OblG.mk (by conv => whnf
                          repeat (first | (refine Bx.mk ?_) | (intro h; (try simp [etas, elDef, -List.getD_eq_getElem?_getD] at h); conv => whnf))
                          first | omega | rfl | exact inK_byte _ | (simp only [inK, Int.toNat_natCast, etas, elDef] <;> first | omega | grind) | grind [inK]) ?_ <;> conv => whnf)
    | (refine Gd.mk (fun h => ?_) <;> (try simp [etas, elDef, -List.getD_eq_getElem?_getD] at h) <;> conv => whnf)
    | (refine And.intro ?_ ?_ <;> conv => whnf)
    | exact True.intro
    | (intro; conv => whnf)
  all_goals exact leafI hK (by unfold cmpI; grind)
theorem s77 : (CtrOK Tryd.prog 77 (.pure F77) ∧ Callable Tryd.prog 77) := by
  refine pure_ok (E := E77) (mkE_cons s100 (mkE_nil tab_ok)) mix (O := O77) (F := F77) Tryd.func77 rfl (by rfl) (by kernel_rfl) (fun args o v h => ?_) (fun args o v h => ?_) (fun args o v h hbd hp K hK => ?_)
  · unfold F77 at h; split at h <;> cases h; first | trivial | (simp [v77, Scalar, Scalar2, Scalar1, stC, ndC, itC, chC, nwC])
  · unfold F77 at h; split at h <;> cases h; exact Nat.le_of_ble_eq_true rfl
  · unfold F77 at h; split at h
    case h_2 => cases h
    cases h
    exact a77 _ _ (by exact hbd) trivial K hK
noncomputable def v48 (a : Nd) (b : Nd) : AV := .int .i64 (cmpN a b)
noncomputable def o48 (a : Nd) (b : Nd) : Prop := okN a ∧ okN b
noncomputable def m48 (a : Nd) (b : Nd) : Nat := SizeOf.sizeOf a
noncomputable def F48 : List AV → QR
  | [.st [.int .i64 a_0, .int .i64 a_1, .str a_2, .ps .str a_3, .ps .node a_4], .st [.int .i64 b_0, .int .i64 b_1, .str b_2, .ps .str b_3, .ps .node b_4]] => some (some (o48 ⟨a_0, a_1, a_2, a_3, a_4⟩ ⟨b_0, b_1, b_2, b_3, b_4⟩), v48 ⟨a_0, a_1, a_2, a_3, a_4⟩ ⟨b_0, b_1, b_2, b_3, b_4⟩)
  | _ => none
noncomputable def Fk48 (k : Nat) : List AV → QR
  | [.st [.int .i64 a_0, .int .i64 a_1, .str a_2, .ps .str a_3, .ps .node a_4], .st [.int .i64 b_0, .int .i64 b_1, .str b_2, .ps .str b_3, .ps .node b_4]] => some (some (m48 ⟨a_0, a_1, a_2, a_3, a_4⟩ ⟨b_0, b_1, b_2, b_3, b_4⟩ < k ∧ o48 ⟨a_0, a_1, a_2, a_3, a_4⟩ ⟨b_0, b_1, b_2, b_3, b_4⟩), v48 ⟨a_0, a_1, a_2, a_3, a_4⟩ ⟨b_0, b_1, b_2, b_3, b_4⟩)
  | _ => none
noncomputable def E48 (k : Nat) : Ctx := mkE tab [(48, .pure (Fk48 k)), (73, .pure F73), (75, .pure F75)]
noncomputable def O48 : Nat → List DI := ordL [(14, [.q 0, .q 1, .q 2, .q 3, .q 4, .q 5, .q 6, .q 7, .q 8, .q 9, .q 10, .q 11]), (17, [.q 0, .q 1, .q 2, .q 3, .q 4, .q 5, .q 6, .q 7, .q 8, .q 9, .q 10, .q 11])]
theorem a48 (k : Nat) (a : Nd) (b : Nd) (hm : m48 a b < k + 1) (hb : BdAs [.st (ndC a), .st (ndC b)]) (ho : o48 a b) (K : AV → List AV → Prop) (hK : K (v48 a b) []) : abody (E48 k) O48 .ps Tryd.f48 (Tryd.f48.body.getD .skip) [.st (ndC a), .st (ndC b)] K := by
  simp only [BdAs, BdA, BdL, BdC, MX, ndC, shC, itC, stC, opC, chC, nwC, flC, rqC, rsC, enc, List.cons_append, List.nil_append, and_true, true_and] at hb
  unfold o48 at ho
  unfold v48 at hK
  unfold m48 at hm
  rw [cmpN_eq] at hK
  obtain ⟨ha, hb2⟩ := ho
  have hna := (okN_names ha).2.1
  have hnb := (okN_names hb2).2.1
  have hkid : ∀ j, j < a.kids.length → j < b.kids.length → SizeOf.sizeOf (a.kids.getD j default) < k ∧ okN (a.kids.getD j default) ∧ okN (b.kids.getD j default) := fun j hj hj2 => ⟨by have := kid_size hj; omega, okN_kid ha hj, okN_kid hb2 hj2⟩
  conv => whnf
  repeat' first
    | (refine Cnd.mk (fun h => ?_) (fun h => ?_) <;> (try simp [etas, elDef, -List.getD_eq_getElem?_getD] at h) <;> conv => whnf)
    | (refine Obl.mk (by first | omega | rfl | exact inK_byte _ | (simp only [inK, Int.toNat_natCast, etas, elDef, m48, o48, m48] <;> first | omega | grind) | grind [inK, m48, o48, m48]) ?_ <;> conv => whnf)
    | (refine OblG.mk (by conv => whnf
                          repeat (first | (refine Bx.mk ?_) | (intro h; (try simp [etas, elDef, -List.getD_eq_getElem?_getD] at h); conv => whnf))
                          first | omega | rfl | exact inK_byte _ | (simp only [inK, Int.toNat_natCast, etas, elDef, m48, o48, m48] <;> first | omega | grind) | grind [inK, m48, o48, m48]) ?_ <;> conv => whnf)
    | (refine Gd.mk (fun h => ?_) <;> (try simp [etas, elDef, -List.getD_eq_getElem?_getD] at h) <;> conv => whnf)
    | (refine And.intro ?_ ?_ <;> conv => whnf)
    | exact True.intro
    | (intro; conv => whnf)
  · exact leafI hK (by rw [if_neg (fun e => h (ordI_zero.2 e))])
  · exact leafI hK (by rw [if_pos (ordI_zero.1 (by assumption)), if_neg (fun e => h (ordI_zero.2 e))])
  · exact leafI hK (by rw [if_pos (ordI_zero.1 (by assumption)), if_pos (ordI_zero.1 (by assumption)), if_neg (fun e => h (cmpI_zero.2 e))])
  have e1 : a.kind = b.kind := ordI_zero.1 (by assumption)
  have e2 : a.num = b.num := ordI_zero.1 (by assumption)
  have e3 : a.text = b.text := cmpI_zero.1 (by assumption)
  rw [if_pos e1, if_pos e2, if_pos e3, ← cmpK_zero] at hK
  refine aloop_intro Nat (fun i => i ≤ a.kids.length ∧ i ≤ b.kids.length ∧ cmpK a b 0 = cmpK a b i) (fun i => a.kids.length - i) (fun i => [(8, .int .i64 i)]) (fun _ => []) [2, 3] 0 [] [] ⟨by omega, by omega, rfl⟩ ?_ (by exact sgOk_of (by rfl)) ?_
  · (conv => whnf); (repeat' (first | exact trivial | rfl | (refine nilEq ?_; first | rfl | (simp only [*]; done) | (simp [*]; done) | grind) | apply And.intro | ((first | refine intEq ?_ | refine boolEq ?_ | refine strEq ?_ | refine psEq ?_ | refine nilEq ?_ | refine arrEq ?_); (try simp only [Int.toNat_natCast, etas, elDef]); first | done | omega | grind | (simp only [*]; done) | (simp [*]; done)))); (all_goals (conv => whnf)); (repeat' (first | exact trivial | rfl | (refine nilEq ?_; first | rfl | (simp only [*]; done) | (simp [*]; done) | grind) | apply And.intro | ((first | refine intEq ?_ | refine boolEq ?_ | refine strEq ?_ | refine psEq ?_ | refine nilEq ?_ | refine arrEq ?_); (try simp only [Int.toNat_natCast, etas, elDef]); first | done | omega | grind | (simp only [*]; done) | (simp [*]; done)) | ((try simp only [Int.toNat_natCast, etas, elDef]); first | done | omega | grind | (simp only [*]; done) | (simp [*]; done))))
  rintro i ⟨hi1, hi2, hj⟩
  have hst := fun h1 h2 => cmpK_step (a := a) (b := b) (i := i) h1 h2
  have hen := fun h => cmpK_end (a := a) (b := b) (i := i) hi1 hi2 h
  have hz := @cmpI_zero
  conv => whnf
  repeat' first
    | (refine Cnd.mk (fun h => ?_) (fun h => ?_) <;> (try simp [etas, elDef, -List.getD_eq_getElem?_getD] at h) <;> conv => whnf)
    | (refine Obl.mk (by first | omega | rfl | exact inK_byte _ | (simp only [inK, Int.toNat_natCast, etas, elDef, m48, o48, m48] <;> first | omega | grind) | grind [inK, m48, o48, m48]) ?_ <;> conv => whnf)
    | (refine OblG.mk (by conv => whnf
                          repeat (first | (refine Bx.mk ?_) | (intro h; (try simp [etas, elDef, -List.getD_eq_getElem?_getD] at h); conv => whnf))
                          first | omega | rfl | exact inK_byte _ | (simp only [inK, Int.toNat_natCast, etas, elDef, m48, o48, m48] <;> first | omega | grind) | grind [inK, m48, o48, m48]) ?_ <;> conv => whnf)
    | (refine Gd.mk (fun h => ?_) <;> (try simp [etas, elDef, -List.getD_eq_getElem?_getD] at h) <;> conv => whnf)
    | (refine And.intro ?_ ?_ <;> conv => whnf)
    | exact True.intro
    | (intro; conv => whnf)
  all_goals first
    | exact leafI hK (by rw [hj, hen (by omega)])
    | exact leafI hK (by rw [hj, hst (by omega) (by omega)]; simp only [Int.toNat_natCast, elDef, nd_eta]; grind)
    | (have e : cmpK a b i = cmpK a b (i + 1) := by rw [hst (by omega) (by omega)]; grind
       exact ⟨i + 1, [], [], ⟨by omega, by omega, hj.trans e⟩, by omega, by (conv => whnf); (repeat' (first | exact trivial | rfl | (refine nilEq ?_; first | rfl | (simp only [*]; done) | (simp [*]; done) | grind) | apply And.intro | ((first | refine intEq ?_ | refine boolEq ?_ | refine strEq ?_ | refine psEq ?_ | refine nilEq ?_ | refine arrEq ?_); (try simp only [Int.toNat_natCast, etas, elDef]); first | done | omega | grind | (simp only [*]; done) | (simp [*]; done)))); (all_goals (conv => whnf)); (repeat' (first | exact trivial | rfl | (refine nilEq ?_; first | rfl | (simp only [*]; done) | (simp [*]; done) | grind) | apply And.intro | ((first | refine intEq ?_ | refine boolEq ?_ | refine strEq ?_ | refine psEq ?_ | refine nilEq ?_ | refine arrEq ?_); (try simp only [Int.toNat_natCast, etas, elDef]); first | done | omega | grind | (simp only [*]; done) | (simp [*]; done)) | ((try simp only [Int.toNat_natCast, etas, elDef]); first | done | omega | grind | (simp only [*]; done) | (simp [*]; done)))), (by exact sgOk_of (by rfl))⟩)
theorem r48 : ∀ k, (CtrOK Tryd.prog 48 (.pure (Fk48 k)) ∧ Callable Tryd.prog 48) := by
  intro k
  induction k with
  | zero =>
    exact ⟨⟨fun args o v h => by unfold Fk48 at h; split at h <;> cases h; first | trivial | (simp [v48, Scalar, Scalar2, Scalar1, stC, ndC, itC, chC, nwC]), fun args K h => by
        unfold pureC Fk48 at h; split at h
        · rename_i h1; split at h1 <;> cases h1; exact absurd (h.1 _ rfl).1 (Nat.not_lt_zero _)
        · exact h.elim⟩, callable Tryd.func48 rfl (by rfl)⟩
  | succ k ih =>
    refine pure_ok (E := E48 k) (mkE_cons ih (mkE_cons s73 (mkE_cons s75 (mkE_nil tab_ok)))) mix (O := O48) (F := (Fk48 (k + 1))) Tryd.func48 rfl (by rfl) (by kernel_rfl) (fun args o v h => ?_) (fun args o v h => ?_) (fun args o v h hbd hp K hK => ?_)
    · unfold Fk48 at h; split at h <;> cases h; first | trivial | (simp [v48, Scalar, Scalar2, Scalar1, stC, ndC, itC, chC, nwC])
    · unfold Fk48 at h; split at h <;> cases h; exact Nat.le_of_ble_eq_true rfl
    · unfold Fk48 at h; split at h
      case h_2 => cases h
      cases h
      exact a48 k ⟨_, _, _, _, _⟩ ⟨_, _, _, _, _⟩ (hp _ rfl).1 (by exact hbd) (hp _ rfl).2 K hK
theorem s48 : (CtrOK Tryd.prog 48 (.pure F48) ∧ Callable Tryd.prog 48) := by
  refine ⟨⟨fun args o v h => ?_, fun args K h => ?_⟩, (r48 0).2⟩
  · unfold F48 at h; split at h <;> cases h; first | trivial | (simp [v48, Scalar, Scalar2, Scalar1, stC, ndC, itC, chC, nwC])
  · unfold pureC F48 at h; split at h
    · rename_i h1; split at h1 <;> cases h1
      exact (r48 (m48 ⟨_, _, _, _, _⟩ ⟨_, _, _, _, _⟩ + 1)).1.2 _ K ⟨fun p hp => by cases hp; exact ⟨Nat.lt_succ_self _, (h.1 _ rfl)⟩, h.2⟩
    · exact h.elim
noncomputable def v49 (a : Nd) (b : Nd) : AV := .int .i64 (cmpN a b)
noncomputable def o49 (a : Nd) (b : Nd) : Prop := okN a ∧ okN b
noncomputable def m49 (a : Nd) (b : Nd) : Nat := SizeOf.sizeOf a
noncomputable def F49 : List AV → QR
  | [.st [.int .i64 a_0, .int .i64 a_1, .str a_2, .ps .str a_3, .ps .node a_4], .st [.int .i64 b_0, .int .i64 b_1, .str b_2, .ps .str b_3, .ps .node b_4]] => some (some (o49 ⟨a_0, a_1, a_2, a_3, a_4⟩ ⟨b_0, b_1, b_2, b_3, b_4⟩), v49 ⟨a_0, a_1, a_2, a_3, a_4⟩ ⟨b_0, b_1, b_2, b_3, b_4⟩)
  | _ => none
noncomputable def Fk49 (k : Nat) : List AV → QR
  | [.st [.int .i64 a_0, .int .i64 a_1, .str a_2, .ps .str a_3, .ps .node a_4], .st [.int .i64 b_0, .int .i64 b_1, .str b_2, .ps .str b_3, .ps .node b_4]] => some (some (m49 ⟨a_0, a_1, a_2, a_3, a_4⟩ ⟨b_0, b_1, b_2, b_3, b_4⟩ < k ∧ o49 ⟨a_0, a_1, a_2, a_3, a_4⟩ ⟨b_0, b_1, b_2, b_3, b_4⟩), v49 ⟨a_0, a_1, a_2, a_3, a_4⟩ ⟨b_0, b_1, b_2, b_3, b_4⟩)
  | _ => none
noncomputable def E49 (k : Nat) : Ctx := mkE tab [(49, .pure (Fk49 k)), (76, .pure F76), (77, .pure F77)]
noncomputable def O49 : Nat → List DI := ordL [(10, [.q 0, .q 1, .q 2, .q 3, .q 4, .q 5, .q 6, .q 7, .q 8, .q 9, .q 10, .q 11, .q 12, .q 13, .q 14, .q 15]), (11, [.q 0, .q 1, .q 2, .q 3, .q 4, .q 5, .q 6, .q 7, .q 8, .q 9, .q 10, .q 11]), (12, [.q 0, .q 1, .q 2, .q 3, .q 4, .q 5, .q 6, .q 7, .q 8, .q 9, .q 10, .q 11])]
theorem a49 (k : Nat) (a : Nd) (b : Nd) (hm : m49 a b < k + 1) (hb : BdAs [.st (ndC a), .st (ndC b)]) (ho : o49 a b) (K : AV → List AV → Prop) (hK : K (v49 a b) []) : abody (E49 k) O49 .ps Tryd.f49 (Tryd.f49.body.getD .skip) [.st (ndC a), .st (ndC b)] K := by
  simp only [BdAs, BdA, BdL, BdC, MX, ndC, shC, itC, stC, opC, chC, nwC, flC, rqC, rsC, enc, List.cons_append, List.nil_append, and_true, true_and] at hb
  unfold o49 at ho
  unfold v49 at hK
  unfold m49 at hm
  rw [cmpN_eq] at hK
  obtain ⟨ha, hb2⟩ := ho
  have hna := (okN_names ha).2.1
  have hnb := (okN_names hb2).2.1
  have hkid : ∀ j, j < a.kids.length → j < b.kids.length → SizeOf.sizeOf (a.kids.getD j default) < k ∧ okN (a.kids.getD j default) ∧ okN (b.kids.getD j default) := fun j hj hj2 => ⟨by have := kid_size hj; omega, okN_kid ha hj, okN_kid hb2 hj2⟩
  conv => whnf
  repeat' first
    | (refine Cnd.mk (fun h => ?_) (fun h => ?_) <;> (try simp [etas, elDef, -List.getD_eq_getElem?_getD] at h) <;> conv => whnf)
    | (refine Obl.mk (by first | omega | rfl | exact inK_byte _ | (simp only [inK, Int.toNat_natCast, etas, elDef, m49, o49, m49] <;> first | omega | grind) | grind [inK, m49, o49, m49]) ?_ <;> conv => whnf)
    | (refine OblG.mk (by conv => whnf
                          repeat (first | (refine Bx.mk ?_) | (intro h; (try simp [etas, elDef, -List.getD_eq_getElem?_getD] at h); conv => whnf))
                          first | omega | rfl | exact inK_byte _ | (simp only [inK, Int.toNat_natCast, etas, elDef, m49, o49, m49] <;> first | omega | grind) | grind [inK, m49, o49, m49]) ?_ <;> conv => whnf)
    | (refine Gd.mk (fun h => ?_) <;> (try simp [etas, elDef, -List.getD_eq_getElem?_getD] at h) <;> conv => whnf)
    | (refine And.intro ?_ ?_ <;> conv => whnf)
    | exact True.intro
    | (intro; conv => whnf)
  · exact leafI hK (by rw [if_neg (fun e => h (e))])
  · exact leafI hK (by rw [if_pos (by assumption), if_neg (fun e => h (e))])
  · exact leafI hK (by rw [if_pos (by assumption), if_pos (by assumption), if_neg (fun e => h (e))])
  have e1 : a.kind = b.kind := by assumption
  have e2 : a.num = b.num := by assumption
  have e3 : a.text = b.text := by assumption
  rw [if_pos e1, if_pos e2, if_pos e3, ← cmpK_zero] at hK
  refine aloop_intro Nat (fun i => i ≤ a.kids.length ∧ i ≤ b.kids.length ∧ cmpK a b 0 = cmpK a b i) (fun i => a.kids.length - i) (fun i => [(5, .int .i64 i)]) (fun _ => []) [2, 3] 0 [] [] ⟨by omega, by omega, rfl⟩ ?_ (by exact sgOk_of (by rfl)) ?_
  · (conv => whnf); (repeat' (first | exact trivial | rfl | (refine nilEq ?_; first | rfl | (simp only [*]; done) | (simp [*]; done) | grind) | apply And.intro | ((first | refine intEq ?_ | refine boolEq ?_ | refine strEq ?_ | refine psEq ?_ | refine nilEq ?_ | refine arrEq ?_); (try simp only [Int.toNat_natCast, etas, elDef]); first | done | omega | grind | (simp only [*]; done) | (simp [*]; done)))); (all_goals (conv => whnf)); (repeat' (first | exact trivial | rfl | (refine nilEq ?_; first | rfl | (simp only [*]; done) | (simp [*]; done) | grind) | apply And.intro | ((first | refine intEq ?_ | refine boolEq ?_ | refine strEq ?_ | refine psEq ?_ | refine nilEq ?_ | refine arrEq ?_); (try simp only [Int.toNat_natCast, etas, elDef]); first | done | omega | grind | (simp only [*]; done) | (simp [*]; done)) | ((try simp only [Int.toNat_natCast, etas, elDef]); first | done | omega | grind | (simp only [*]; done) | (simp [*]; done))))
  rintro i ⟨hi1, hi2, hj⟩
  have hst := fun h1 h2 => cmpK_step (a := a) (b := b) (i := i) h1 h2
  have hen := fun h => cmpK_end (a := a) (b := b) (i := i) hi1 hi2 h
  have hz := @cmpI_zero
  conv => whnf
  repeat' first
    | (refine Cnd.mk (fun h => ?_) (fun h => ?_) <;> (try simp [etas, elDef, -List.getD_eq_getElem?_getD] at h) <;> conv => whnf)
    | (refine Obl.mk (by first | omega | rfl | exact inK_byte _ | (simp only [inK, Int.toNat_natCast, etas, elDef, m49, o49, m49] <;> first | omega | grind) | grind [inK, m49, o49, m49]) ?_ <;> conv => whnf)
    | (refine OblG.mk (by conv => whnf
                          repeat (first | (refine Bx.mk ?_) | (intro h; (try simp [etas, elDef, -List.getD_eq_getElem?_getD] at h); conv => whnf))
                          first | omega | rfl | exact inK_byte _ | (simp only [inK, Int.toNat_natCast, etas, elDef, m49, o49, m49] <;> first | omega | grind) | grind [inK, m49, o49, m49]) ?_ <;> conv => whnf)
    | (refine Gd.mk (fun h => ?_) <;> (try simp [etas, elDef, -List.getD_eq_getElem?_getD] at h) <;> conv => whnf)
    | (refine And.intro ?_ ?_ <;> conv => whnf)
    | exact True.intro
    | (intro; conv => whnf)
  all_goals first
    | exact leafI hK (by rw [hj, hen (by omega)])
    | exact leafI hK (by rw [hj, hst (by omega) (by omega)]; simp only [Int.toNat_natCast, elDef, nd_eta]; grind)
    | (have e : cmpK a b i = cmpK a b (i + 1) := by rw [hst (by omega) (by omega)]; grind
       exact ⟨i + 1, [], [], ⟨by omega, by omega, hj.trans e⟩, by omega, by (conv => whnf); (repeat' (first | exact trivial | rfl | (refine nilEq ?_; first | rfl | (simp only [*]; done) | (simp [*]; done) | grind) | apply And.intro | ((first | refine intEq ?_ | refine boolEq ?_ | refine strEq ?_ | refine psEq ?_ | refine nilEq ?_ | refine arrEq ?_); (try simp only [Int.toNat_natCast, etas, elDef]); first | done | omega | grind | (simp only [*]; done) | (simp [*]; done)))); (all_goals (conv => whnf)); (repeat' (first | exact trivial | rfl | (refine nilEq ?_; first | rfl | (simp only [*]; done) | (simp [*]; done) | grind) | apply And.intro | ((first | refine intEq ?_ | refine boolEq ?_ | refine strEq ?_ | refine psEq ?_ | refine nilEq ?_ | refine arrEq ?_); (try simp only [Int.toNat_natCast, etas, elDef]); first | done | omega | grind | (simp only [*]; done) | (simp [*]; done)) | ((try simp only [Int.toNat_natCast, etas, elDef]); first | done | omega | grind | (simp only [*]; done) | (simp [*]; done)))), (by exact sgOk_of (by rfl))⟩)
theorem r49 : ∀ k, (CtrOK Tryd.prog 49 (.pure (Fk49 k)) ∧ Callable Tryd.prog 49) := by
  intro k
  induction k with
  | zero =>
    exact ⟨⟨fun args o v h => by unfold Fk49 at h; split at h <;> cases h; first | trivial | (simp [v49, Scalar, Scalar2, Scalar1, stC, ndC, itC, chC, nwC]), fun args K h => by
        unfold pureC Fk49 at h; split at h
        · rename_i h1; split at h1 <;> cases h1; exact absurd (h.1 _ rfl).1 (Nat.not_lt_zero _)
        · exact h.elim⟩, callable Tryd.func49 rfl (by rfl)⟩
  | succ k ih =>
    refine pure_ok (E := E49 k) (mkE_cons ih (mkE_cons s76 (mkE_cons s77 (mkE_nil tab_ok)))) mix (O := O49) (F := (Fk49 (k + 1))) Tryd.func49 rfl (by rfl) (by kernel_rfl) (fun args o v h => ?_) (fun args o v h => ?_) (fun args o v h hbd hp K hK => ?_)
    · unfold Fk49 at h; split at h <;> cases h; first | trivial | (simp [v49, Scalar, Scalar2, Scalar1, stC, ndC, itC, chC, nwC])
    · unfold Fk49 at h; split at h <;> cases h; exact Nat.le_of_ble_eq_true rfl
    · unfold Fk49 at h; split at h
      case h_2 => cases h
      cases h
      exact a49 k ⟨_, _, _, _, _⟩ ⟨_, _, _, _, _⟩ (hp _ rfl).1 (by exact hbd) (hp _ rfl).2 K hK
theorem s49 : (CtrOK Tryd.prog 49 (.pure F49) ∧ Callable Tryd.prog 49) := by
  refine ⟨⟨fun args o v h => ?_, fun args K h => ?_⟩, (r49 0).2⟩
  · unfold F49 at h; split at h <;> cases h; first | trivial | (simp [v49, Scalar, Scalar2, Scalar1, stC, ndC, itC, chC, nwC])
  · unfold pureC F49 at h; split at h
    · rename_i h1; split at h1 <;> cases h1
      exact (r49 (m49 ⟨_, _, _, _, _⟩ ⟨_, _, _, _, _⟩ + 1)).1.2 _ K ⟨fun p hp => by cases hp; exact ⟨Nat.lt_succ_self _, (h.1 _ rfl)⟩, h.2⟩
    · exact h.elim
end Go.Rs

