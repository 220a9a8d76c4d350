import Derived.Test.YtkalanmdpnapbaaDoorEA
import Derived.Test.YtkalanmdpnapbaaDoorCM
import Derived.Test.YtkalanmdpnapbaaDoorCW
import Derived.Test.YtkalanmdpnapbaaDoorMF
set_option linter.all false
namespace Go.Rs
open Go.Proofs
set_option maxRecDepth 100000
set_option linter.unusedVariables false
set_option linter.unusedSimpArgs false
noncomputable def v31 (x : It) : AV := .int .i64 (itSz x)
noncomputable def o31 (x : It) : Prop := validM x.node = true ∧ x.name.length ≤ 100
noncomputable def F31 : List AV → QR
  | [.st [.str x_0, .int .i64 x_1, .int .i64 x_2_0, .int .i64 x_2_1, .str x_2_2, .ps .str x_2_3, .ps .node x_2_4]] => some (some (o31 ⟨x_0, x_1, ⟨x_2_0, x_2_1, x_2_2, x_2_3, x_2_4⟩⟩), v31 ⟨x_0, x_1, ⟨x_2_0, x_2_1, x_2_2, x_2_3, x_2_4⟩⟩)
  | _ => none
noncomputable def E31 : Ctx := mkE tab [(12, .pure F12)]
noncomputable def O31 : Nat → List DI := ordL [(1, [.q 0, .q 1, .q 2, .q 3, .q 4, .q 5, .q 6, .q 7])]
theorem a31 (x : It) (hb : BdAs [.st (itC x)]) (ho : o31 x) (K : AV → List AV → Prop) (hK : K (v31 x) []) : abody E31 O31 .ps Tryd.f31 (Tryd.f31.body.getD .skip) [.st (itC x)] K := by
  simp only [BdAs, BdA, BdL, BdC, MX, ndC, shC, itC, stC, opC, chC, nwC, flC, rqC, rsC, enc, List.cons_append, List.nil_append, and_true, true_and] at hb
  unfold o31 at ho
  unfold v31 at hK
  have h1 := (validM_iff.1 ho.1).2
  have h2 := okN_fmt (validM_ok ho.1)
  have h3 : sizeTM x.node = (fmtM x.node).length := by unfold sizeTM; rw [if_pos ho.1]
  conv => whnf
  repeat' first
    | (refine Cnd.mk (fun h => ?_) (fun h => ?_) <;> (try simp [etas, elDef, -List.getD_eq_getElem?_getD] at h) <;> conv => whnf)
    | (refine Obl.mk (by first | omega | rfl | exact inK_byte _ | (simp only [inK, Int.toNat_natCast, etas, elDef] <;> first | omega | grind) | grind [inK]) ?_ <;> conv => whnf)
    | (refine OblG.mk (by conv => whnf
                          repeat (first | (refine Bx.mk ?_) | (intro h; (try simp [etas, elDef, -List.getD_eq_getElem?_getD] at h); conv => whnf))
                          first | omega | rfl | exact inK_byte _ | (simp only [inK, Int.toNat_natCast, etas, elDef] <;> first | omega | grind) | grind [inK]) ?_ <;> conv => whnf)
    | (refine Gd.mk (fun h => ?_) <;> (try simp [etas, elDef, -List.getD_eq_getElem?_getD] at h) <;> conv => whnf)
    | (refine And.intro ?_ ?_ <;> conv => whnf)
    | exact True.intro
    | (intro; conv => whnf)
  exact leafI hK (by simp only [etas, h3]; unfold itSz; omega)
theorem s31 : (CtrOK Tryd.prog 31 (.pure F31) ∧ Callable Tryd.prog 31) := by
  refine pure_ok (E := E31) (mkE_cons s12 (mkE_nil tab_ok)) mix (O := O31) (F := F31) Tryd.func31 rfl (by rfl) (by kernel_rfl) (fun args o v h => ?_) (fun args o v h => ?_) (fun args o v h hbd hp K hK => ?_)
  · unfold F31 at h; split at h <;> cases h; first | trivial | (simp [v31, Scalar, Scalar2, Scalar1, stC, ndC, itC, chC, nwC])
  · unfold F31 at h; split at h <;> cases h; exact Nat.le_of_ble_eq_true rfl
  · unfold F31 at h; split at h
    case h_2 => cases h
    cases h
    exact a31 ⟨_, _, ⟨_, _, _, _, _⟩⟩ (by exact hbd) (hp _ rfl) K hK
noncomputable def v10 (s : Sto) : AV := .int .i64 (stSzM s)
noncomputable def o10 (s : Sto) : Prop := True
noncomputable def F10 : List AV → QR
  | [.st [.ps .item s_0, .int .i64 s_1]] => some (none, v10 ⟨s_0, s_1⟩)
  | _ => none
noncomputable def E10 : Ctx := mkE tab [(26, .pure F26), (31, .pure F31)]
noncomputable def O10 : Nat → List DI := ordL []
theorem a10 (s : Sto) (hb : BdAs [.st (stC s)]) (ho : o10 s) (K : AV → List AV → Prop) (hK : K (v10 s) []) : abody E10 O10 .ps Tryd.f10 (Tryd.f10.body.getD .skip) [.st (stC s)] K := by
  simp only [BdAs, BdA, BdL, BdC, MX, ndC, shC, itC, stC, opC, chC, nwC, flC, rqC, rsC, enc, List.cons_append, List.nil_append, and_true, true_and] at hb
  unfold v10 at hK
  have hv := fun (h : storeM s = true) => size_bound h
  have hl := fun (h : storeM s = true) => (storeM_iff.1 h).1
  conv => whnf
  repeat' first
    | (refine Cnd.mk (fun h => ?_) (fun h => ?_) <;> (try simp [etas, elDef, -List.getD_eq_getElem?_getD] at h) <;> conv => whnf)
    | (refine Obl.mk (by first | omega | rfl | exact inK_byte _ | (simp only [inK, Int.toNat_natCast, etas, elDef, o31] <;> first | omega | grind) | grind [inK, o31]) ?_ <;> conv => whnf)
    | (refine OblG.mk (by conv => whnf
                          repeat (first | (refine Bx.mk ?_) | (intro h; (try simp [etas, elDef, -List.getD_eq_getElem?_getD] at h); conv => whnf))
                          first | omega | rfl | exact inK_byte _ | (simp only [inK, Int.toNat_natCast, etas, elDef, o31] <;> first | omega | grind) | grind [inK, o31]) ?_ <;> conv => whnf)
    | (refine Gd.mk (fun h => ?_) <;> (try simp [etas, elDef, -List.getD_eq_getElem?_getD] at h) <;> conv => whnf)
    | (refine And.intro ?_ ?_ <;> conv => whnf)
    | exact True.intro
    | (intro; conv => whnf)
  · exact leafI hK (by unfold stSzM; rw [if_neg (by simp [h])])
  · have hs := h
    have hsb := size_bound h
    refine aloop_intro Nat (fun k => k ≤ s.items.length ∧ True) (fun k => s.items.length - k) (fun k => [(12, .int .i64 k), (3, .int .i64 (sizeM (s.items.take k)))]) (fun k => []) [] 0 [] [] ?_ ?_ (by exact sgOk_of (by rfl)) ?_
    · first | (simp; done) | (simp; assumption)
    · (conv => whnf); (repeat' (first | exact trivial | rfl | (refine nilEq ?_; first | rfl | (simp only [*]; done) | (simp [*]; done) | grind) | apply And.intro | ((first | refine intEq ?_ | refine boolEq ?_ | refine strEq ?_ | refine psEq ?_ | refine nilEq ?_ | refine arrEq ?_); (try simp only [Int.toNat_natCast, etas, elDef]); first | done | omega | grind | (simp only [*]; done) | (simp [*]; done)))); (all_goals (conv => whnf)); (repeat' (first | exact trivial | rfl | (refine nilEq ?_; first | rfl | (simp only [*]; done) | (simp [*]; done) | grind) | apply And.intro | ((first | refine intEq ?_ | refine boolEq ?_ | refine strEq ?_ | refine psEq ?_ | refine nilEq ?_ | refine arrEq ?_); (try simp only [Int.toNat_natCast, etas, elDef]); first | done | omega | grind | (simp only [*]; done) | (simp [*]; done)) | ((try simp only [Int.toNat_natCast, etas, elDef]); first | done | omega | grind | (simp only [*]; done) | (simp [*]; done))))
    rintro i ⟨hi, hj⟩
    conv => whnf
    have hp := sizeM_pre (l := s.items) (i := i)
    have ht := fun (h : i < s.items.length) => sizeM_take h
    have hi1 := fun (h : i < s.items.length) => itSz_le hs (getD_mem (d := default) h)
    have hi2 := fun (h : i < s.items.length) => storeM_node hs h
    have hi3 := fun (h : i < s.items.length) => store_name hs h
    repeat' first
      | (refine Cnd.mk (fun h => ?_) (fun h => ?_) <;> (try simp [etas, elDef, -List.getD_eq_getElem?_getD] at h) <;> conv => whnf)
      | (refine Obl.mk (by first | omega | rfl | exact inK_byte _ | (simp only [inK, Int.toNat_natCast, etas, elDef, o31] <;> first | omega | grind) | grind [inK, o31]) ?_ <;> conv => whnf)
      | (refine OblG.mk (by conv => whnf
                            repeat (first | (refine Bx.mk ?_) | (intro h; (try simp [etas, elDef, -List.getD_eq_getElem?_getD] at h); conv => whnf))
                            first | omega | rfl | exact inK_byte _ | (simp only [inK, Int.toNat_natCast, etas, elDef, o31] <;> first | omega | grind) | grind [inK, o31]) ?_ <;> conv => whnf)
      | (refine Gd.mk (fun h => ?_) <;> (try simp [etas, elDef, -List.getD_eq_getElem?_getD] at h) <;> conv => whnf)
      | (refine And.intro ?_ ?_ <;> conv => whnf)
      | exact True.intro
      | (intro; conv => whnf)
    · have e5 := ht h
      exact ⟨i + 1, [], [], ⟨by omega, by grind⟩, by omega, by (conv => whnf); (repeat' (first | exact trivial | rfl | (refine nilEq ?_; first | rfl | (simp only [*]; done) | (simp [*]; done) | grind) | apply And.intro | ((first | refine intEq ?_ | refine boolEq ?_ | refine strEq ?_ | refine psEq ?_ | refine nilEq ?_ | refine arrEq ?_); (try simp only [Int.toNat_natCast, etas, elDef]); first | done | omega))); (all_goals (conv => whnf)); (repeat' (first | exact trivial | rfl | (refine nilEq ?_; first | rfl | (simp only [*]; done) | (simp [*]; done) | grind) | apply And.intro | ((first | refine intEq ?_ | refine boolEq ?_ | refine strEq ?_ | refine psEq ?_ | refine nilEq ?_ | refine arrEq ?_); (try simp only [Int.toNat_natCast, etas, elDef]); first | done | omega) | ((try simp only [Int.toNat_natCast, etas, elDef]); first | done | omega))), (by exact sgOk_of (by rfl))⟩
    · exact leafI hK (by unfold stSzM; rw [if_pos hs, List.take_of_length_le h])
theorem s10 : (CtrOK Tryd.prog 10 (.pure F10) ∧ Callable Tryd.prog 10) := by
  refine pure_ok (E := E10) (mkE_cons s26 (mkE_cons s31 (mkE_nil tab_ok))) mix (O := O10) (F := F10) Tryd.func10 rfl (by rfl) (by kernel_rfl) (fun args o v h => ?_) (fun args o v h => ?_) (fun args o v h hbd hp K hK => ?_)
  · unfold F10 at h; split at h <;> cases h; first | trivial | (simp [v10, Scalar, Scalar2, Scalar1, stC, ndC, itC, chC, nwC])
  · unfold F10 at h; split at h <;> cases h; exact Nat.le_of_ble_eq_true rfl
  · unfold F10 at h; split at h
    case h_2 => cases h
    cases h
    exact a10 ⟨_, _⟩ (by exact hbd) trivial K hK
noncomputable def v33 (s : Sto) : AV := .int .i64 (sizeM s.items)
noncomputable def o33 (s : Sto) : Prop := storeM s = true
noncomputable def F33 : List AV → QR
  | [.st [.ps .item s_0, .int .i64 s_1]] => some (some (o33 ⟨s_0, s_1⟩), v33 ⟨s_0, s_1⟩)
  | _ => none
noncomputable def E33 : Ctx := mkE tab [(63, .pure F63)]
noncomputable def O33 : Nat → List DI := ordL [(5, [.q 0, .q 1, .q 2, .q 3, .q 4, .q 5, .q 6, .q 7, .q 8, .q 9, .q 10, .q 11, .q 12, .q 13, .q 14, .q 15, .q 16, .q 17, .q 18])]
theorem a33 (s : Sto) (hb : BdAs [.st (stC s)]) (ho : o33 s) (K : AV → List AV → Prop) (hK : K (v33 s) []) : abody E33 O33 .ps Tryd.f33 (Tryd.f33.body.getD .skip) [.st (stC s)] K := by
  simp only [BdAs, BdA, BdL, BdC, MX, ndC, shC, itC, stC, opC, chC, nwC, flC, rqC, rsC, enc, List.cons_append, List.nil_append, and_true, true_and] at hb
  unfold o33 at ho
  unfold v33 at hK
  have hsb := size_bound ho
  have hl := (storeM_iff.1 ho).1
  conv => whnf
  repeat' first
    | (refine Cnd.mk (fun h => ?_) (fun h => ?_) <;> (try simp [etas, elDef, -List.getD_eq_getElem?_getD] at h) <;> conv => whnf)
    | (refine Obl.mk (by first | omega | rfl | exact inK_byte _ | (simp only [inK, Int.toNat_natCast, etas, elDef, o63, m63] <;> first | omega | grind) | grind [inK, o63, m63]) ?_ <;> conv => whnf)
    | (refine OblG.mk (by conv => whnf
                          repeat (first | (refine Bx.mk ?_) | (intro h; (try simp [etas, elDef, -List.getD_eq_getElem?_getD] at h); conv => whnf))
                          first | omega | rfl | exact inK_byte _ | (simp only [inK, Int.toNat_natCast, etas, elDef, o63, m63] <;> first | omega | grind) | grind [inK, o63, m63]) ?_ <;> conv => whnf)
    | (refine Gd.mk (fun h => ?_) <;> (try simp [etas, elDef, -List.getD_eq_getElem?_getD] at h) <;> conv => whnf)
    | (refine And.intro ?_ ?_ <;> conv => whnf)
    | exact True.intro
    | (intro; conv => whnf)
  refine aloop_intro Nat (fun k => k ≤ s.items.length ∧ True) (fun k => s.items.length - k) (fun k => [(4, .int .i64 k), (3, .int .i64 (sizeM (s.items.take k)))]) (fun k => []) [1] 0 [] [] ?_ ?_ (by exact sgOk_of (by rfl)) ?_
  · first | (simp; done) | (simp; assumption)
  · (conv => whnf); (repeat' (first | exact trivial | rfl | (refine nilEq ?_; first | rfl | (simp only [*]; done) | (simp [*]; done) | grind) | apply And.intro | ((first | refine intEq ?_ | refine boolEq ?_ | refine strEq ?_ | refine psEq ?_ | refine nilEq ?_ | refine arrEq ?_); (try simp only [Int.toNat_natCast, etas, elDef]); first | done | omega | grind | (simp only [*]; done) | (simp [*]; done)))); (all_goals (conv => whnf)); (repeat' (first | exact trivial | rfl | (refine nilEq ?_; first | rfl | (simp only [*]; done) | (simp [*]; done) | grind) | apply And.intro | ((first | refine intEq ?_ | refine boolEq ?_ | refine strEq ?_ | refine psEq ?_ | refine nilEq ?_ | refine arrEq ?_); (try simp only [Int.toNat_natCast, etas, elDef]); first | done | omega | grind | (simp only [*]; done) | (simp [*]; done)) | ((try simp only [Int.toNat_natCast, etas, elDef]); first | done | omega | grind | (simp only [*]; done) | (simp [*]; done))))
  rintro i ⟨hi, hj⟩
  conv => whnf
  have hp := sizeM_pre (l := s.items) (i := i)
  have ht := fun (h : i < s.items.length) => sizeM_take h
  have hi1 := fun (h : i < s.items.length) => itSz_le ho (getD_mem (d := default) h)
  have hi2 := fun (h : i < s.items.length) => validM_ok (storeM_node ho h)
  have hi3 := fun (h : i < s.items.length) => store_name ho h
  have hi4 := fun (h : i < s.items.length) => okN_fmt (validM_ok (storeM_node ho h))
  have hi5 := fun (h : i < s.items.length) => (validM_iff.1 (storeM_node ho h)).2
  repeat' first
    | (refine Cnd.mk (fun h => ?_) (fun h => ?_) <;> (try simp [etas, elDef, -List.getD_eq_getElem?_getD] at h) <;> conv => whnf)
    | (refine Obl.mk (by first | omega | rfl | exact inK_byte _ | (simp only [inK, Int.toNat_natCast, etas, elDef, o63, m63] <;> first | omega | grind) | grind [inK, o63, m63]) ?_ <;> conv => whnf)
    | (refine OblG.mk (by conv => whnf
                          repeat (first | (refine Bx.mk ?_) | (intro h; (try simp [etas, elDef, -List.getD_eq_getElem?_getD] at h); conv => whnf))
                          first | omega | rfl | exact inK_byte _ | (simp only [inK, Int.toNat_natCast, etas, elDef, o63, m63] <;> first | omega | grind) | grind [inK, o63, m63]) ?_ <;> conv => whnf)
    | (refine Gd.mk (fun h => ?_) <;> (try simp [etas, elDef, -List.getD_eq_getElem?_getD] at h) <;> conv => whnf)
    | (refine And.intro ?_ ?_ <;> conv => whnf)
    | exact True.intro
    | (intro; conv => whnf)
  · have e5 := ht h
    have e6 : itSz (s.items.getD i default) = (s.items.getD i default).name.length + (fmtM (s.items.getD i default).node).length := rfl
    exact ⟨i + 1, [], [], ⟨by omega, by grind⟩, by omega, by (conv => whnf); (repeat' (first | exact trivial | rfl | (refine nilEq ?_; first | rfl | (simp only [*]; done) | (simp [*]; done) | grind) | apply And.intro | ((first | refine intEq ?_ | refine boolEq ?_ | refine strEq ?_ | refine psEq ?_ | refine nilEq ?_ | refine arrEq ?_); (try simp only [Int.toNat_natCast, etas, elDef]); first | done | omega))); (all_goals (conv => whnf)); (repeat' (first | exact trivial | rfl | (refine nilEq ?_; first | rfl | (simp only [*]; done) | (simp [*]; done) | grind) | apply And.intro | ((first | refine intEq ?_ | refine boolEq ?_ | refine strEq ?_ | refine psEq ?_ | refine nilEq ?_ | refine arrEq ?_); (try simp only [Int.toNat_natCast, etas, elDef]); first | done | omega) | ((try simp only [Int.toNat_natCast, etas, elDef]); first | done | omega))), (by exact sgOk_of (by rfl))⟩
  · exact leafI hK (by rw [List.take_of_length_le h])
theorem s33 : (CtrOK Tryd.prog 33 (.pure F33) ∧ Callable Tryd.prog 33) := by
  refine pure_ok (E := E33) (mkE_cons s63 (mkE_nil tab_ok)) mix (O := O33) (F := F33) Tryd.func33 rfl (by rfl) (by kernel_rfl) (fun args o v h => ?_) (fun args o v h => ?_) (fun args o v h hbd hp K hK => ?_)
  · unfold F33 at h; split at h <;> cases h; first | trivial | (simp [v33, Scalar, Scalar2, Scalar1, stC, ndC, itC, chC, nwC])
  · unfold F33 at h; split at h <;> cases h; exact Nat.le_of_ble_eq_true rfl
  · unfold F33 at h; split at h
    case h_2 => cases h
    cases h
    exact a33 ⟨_, _⟩ (by exact hbd) (hp _ rfl) K hK
noncomputable def v11 (s : Sto) : AV := .int .i64 (stSzM s)
noncomputable def o11 (s : Sto) : Prop := True
noncomputable def F11 : List AV → QR
  | [.st [.ps .item s_0, .int .i64 s_1]] => some (none, v11 ⟨s_0, s_1⟩)
  | _ => none
noncomputable def E11 : Ctx := mkE tab [(32, .pure F32), (33, .pure F33)]
noncomputable def O11 : Nat → List DI := ordL []
theorem a11 (s : Sto) (hb : BdAs [.st (stC s)]) (ho : o11 s) (K : AV → List AV → Prop) (hK : K (v11 s) []) : abody E11 O11 .ps Tryd.f11 (Tryd.f11.body.getD .skip) [.st (stC s)] K := by
  simp only [BdAs, BdA, BdL, BdC, MX, ndC, shC, itC, stC, opC, chC, nwC, flC, rqC, rsC, enc, List.cons_append, List.nil_append, and_true, true_and] at hb
  unfold v11 at hK
  conv => whnf
  repeat' first
    | (refine Cnd.mk (fun h => ?_) (fun h => ?_) <;> (try simp [etas, elDef, -List.getD_eq_getElem?_getD] at h) <;> conv => whnf)
    | (refine Obl.mk (by first | omega | rfl | exact inK_byte _ | (simp only [inK, Int.toNat_natCast, etas, elDef, o33] <;> first | omega | grind) | grind [inK, o33]) ?_ <;> conv => whnf)
    | (refine OblG.mk (by conv => whnf
                          repeat (first | (refine Bx.mk ?_) | (intro h; (try simp [etas, elDef, -List.getD_eq_getElem?_getD] at h); conv => whnf))
                          first | omega | rfl | exact inK_byte _ | (simp only [inK, Int.toNat_natCast, etas, elDef, o33] <;> first | omega | grind) | grind [inK, o33]) ?_ <;> conv => whnf)
    | (refine Gd.mk (fun h => ?_) <;> (try simp [etas, elDef, -List.getD_eq_getElem?_getD] at h) <;> conv => whnf)
    | (refine And.intro ?_ ?_ <;> conv => whnf)
    | exact True.intro
    | (intro; conv => whnf)
  · exact leafI hK (by unfold stSzM; rw [if_neg (by simp [h])])
  · exact leafI hK (by unfold stSzM; rw [if_pos h])
theorem s11 : (CtrOK Tryd.prog 11 (.pure F11) ∧ Callable Tryd.prog 11) := by
  refine pure_ok (E := E11) (mkE_cons s32 (mkE_cons s33 (mkE_nil tab_ok))) mix (O := O11) (F := F11) Tryd.func11 rfl (by rfl) (by kernel_rfl) (fun args o v h => ?_) (fun args o v h => ?_) (fun args o v h hbd hp K hK => ?_)
  · unfold F11 at h; split at h <;> cases h; first | trivial | (simp [v11, Scalar, Scalar2, Scalar1, stC, ndC, itC, chC, nwC])
  · unfold F11 at h; split at h <;> cases h; exact Nat.le_of_ble_eq_true rfl
  · unfold F11 at h; split at h
    case h_2 => cases h
    cases h
    exact a11 ⟨_, _⟩ (by exact hbd) trivial K hK
noncomputable def v19 (a : Nd) (b : Nd) : AV := .int .i64 (compareM a b)
noncomputable def o19 (a : Nd) (b : Nd) : Prop := True
noncomputable def F19 : List AV → QR
  | [.st [.int .i64 a_0, .int .i64 a_1, .str a_2, .ps .str a_3, .ps .node a_4], .st [.int .i64 b_0, .int .i64 b_1, .str b_2, .ps .str b_3, .ps .node b_4]] => some (none, v19 ⟨a_0, a_1, a_2, a_3, a_4⟩ ⟨b_0, b_1, b_2, b_3, b_4⟩)
  | _ => none
noncomputable def E19 : Ctx := mkE tab [(34, .pure F34), (48, .pure F48)]
noncomputable def O19 : Nat → List DI := ordL []
theorem a19 (a : Nd) (b : Nd) (hb : BdAs [.st (ndC a), .st (ndC b)]) (ho : o19 a b) (K : AV → List AV → Prop) (hK : K (v19 a b) []) : abody E19 O19 .ps Tryd.f19 (Tryd.f19.body.getD .skip) [.st (ndC a), .st (ndC b)] K := by
  simp only [BdAs, BdA, BdL, BdC, MX, ndC, shC, itC, stC, opC, chC, nwC, flC, rqC, rsC, enc, List.cons_append, List.nil_append, and_true, true_and] at hb
  unfold v19 at hK
  have h1 := fun h => validM_ok (n := a) h
  have h2 := fun h => validM_ok (n := b) h
  conv => whnf
  repeat' first
    | (refine Cnd.mk (fun h => ?_) (fun h => ?_) <;> (try simp [etas, elDef, -List.getD_eq_getElem?_getD] at h) <;> conv => whnf)
    | (refine Obl.mk (by first | omega | rfl | exact inK_byte _ | (simp only [inK, Int.toNat_natCast, etas, elDef, o48, m48] <;> first | omega | grind) | grind [inK, o48, m48]) ?_ <;> conv => whnf)
    | (refine OblG.mk (by conv => whnf
                          repeat (first | (refine Bx.mk ?_) | (intro h; (try simp [etas, elDef, -List.getD_eq_getElem?_getD] at h); conv => whnf))
                          first | omega | rfl | exact inK_byte _ | (simp only [inK, Int.toNat_natCast, etas, elDef, o48, m48] <;> first | omega | grind) | grind [inK, o48, m48]) ?_ <;> conv => whnf)
    | (refine Gd.mk (fun h => ?_) <;> (try simp [etas, elDef, -List.getD_eq_getElem?_getD] at h) <;> conv => whnf)
    | (refine And.intro ?_ ?_ <;> conv => whnf)
    | exact True.intro
    | (intro; conv => whnf)
  · exact leafI hK (by unfold compareM; rw [if_neg (by rcases h with h | h <;> simp [h])])
  · exact leafI hK (by simp only [nd_eta]; unfold compareM; rw [if_pos (by rw [h.1, h.2]; rfl)])
theorem s19 : (CtrOK Tryd.prog 19 (.pure F19) ∧ Callable Tryd.prog 19) := by
  refine pure_ok (E := E19) (mkE_cons s34 (mkE_cons s48 (mkE_nil tab_ok))) mix (O := O19) (F := F19) Tryd.func19 rfl (by rfl) (by kernel_rfl) (fun args o v h => ?_) (fun args o v h => ?_) (fun args o v h hbd hp K hK => ?_)
  · unfold F19 at h; split at h <;> cases h; first | trivial | (simp [v19, Scalar, Scalar2, Scalar1, stC, ndC, itC, chC, nwC])
  · unfold F19 at h; split at h <;> cases h; exact Nat.le_of_ble_eq_true rfl
  · unfold F19 at h; split at h
    case h_2 => cases h
    cases h
    exact a19 ⟨_, _, _, _, _⟩ ⟨_, _, _, _, _⟩ (by exact hbd) trivial K hK
noncomputable def v20 (a : Nd) (b : Nd) : AV := .int .i64 (compareM a b)
noncomputable def o20 (a : Nd) (b : Nd) : Prop := True
noncomputable def F20 : List AV → QR
  | [.st [.int .i64 a_0, .int .i64 a_1, .str a_2, .ps .str a_3, .ps .node a_4], .st [.int .i64 b_0, .int .i64 b_1, .str b_2, .ps .str b_3, .ps .node b_4]] => some (none, v20 ⟨a_0, a_1, a_2, a_3, a_4⟩ ⟨b_0, b_1, b_2, b_3, b_4⟩)
  | _ => none
noncomputable def E20 : Ctx := mkE tab [(42, .pure F42), (49, .pure F49)]
noncomputable def O20 : Nat → List DI := ordL []
theorem a20 (a : Nd) (b : Nd) (hb : BdAs [.st (ndC a), .st (ndC b)]) (ho : o20 a b) (K : AV → List AV → Prop) (hK : K (v20 a b) []) : abody E20 O20 .ps Tryd.f20 (Tryd.f20.body.getD .skip) [.st (ndC a), .st (ndC b)] K := by
  simp only [BdAs, BdA, BdL, BdC, MX, ndC, shC, itC, stC, opC, chC, nwC, flC, rqC, rsC, enc, List.cons_append, List.nil_append, and_true, true_and] at hb
  unfold v20 at hK
  have h1 := fun h => validM_ok (n := a) h
  have h2 := fun h => validM_ok (n := b) h
  conv => whnf
  repeat' first
    | (refine Cnd.mk (fun h => ?_) (fun h => ?_) <;> (try simp [etas, elDef, -List.getD_eq_getElem?_getD] at h) <;> conv => whnf)
    | (refine Obl.mk (by first | omega | rfl | exact inK_byte _ | (simp only [inK, Int.toNat_natCast, etas, elDef, o49, m49] <;> first | omega | grind) | grind [inK, o49, m49]) ?_ <;> conv => whnf)
    | (refine OblG.mk (by conv => whnf
                          repeat (first | (refine Bx.mk ?_) | (intro h; (try simp [etas, elDef, -List.getD_eq_getElem?_getD] at h); conv => whnf))
                          first | omega | rfl | exact inK_byte _ | (simp only [inK, Int.toNat_natCast, etas, elDef, o49, m49] <;> first | omega | grind) | grind [inK, o49, m49]) ?_ <;> conv => whnf)
    | (refine Gd.mk (fun h => ?_) <;> (try simp [etas, elDef, -List.getD_eq_getElem?_getD] at h) <;> conv => whnf)
    | (refine And.intro ?_ ?_ <;> conv => whnf)
    | exact True.intro
    | (intro; conv => whnf)
  · exact leafI hK (by unfold compareM; rw [if_neg (by rcases h with h | h <;> simp [h])])
  · exact leafI hK (by simp only [nd_eta]; unfold compareM; rw [if_pos (by rw [h.1, h.2]; rfl)])
theorem s20 : (CtrOK Tryd.prog 20 (.pure F20) ∧ Callable Tryd.prog 20) := by
  refine pure_ok (E := E20) (mkE_cons s42 (mkE_cons s49 (mkE_nil tab_ok))) mix (O := O20) (F := F20) Tryd.func20 rfl (by rfl) (by kernel_rfl) (fun args o v h => ?_) (fun args o v h => ?_) (fun args o v h hbd hp K hK => ?_)
  · unfold F20 at h; split at h <;> cases h; first | trivial | (simp [v20, Scalar, Scalar2, Scalar1, stC, ndC, itC, chC, nwC])
  · unfold F20 at h; split at h <;> cases h; exact Nat.le_of_ble_eq_true rfl
  · unfold F20 at h; split at h
    case h_2 => cases h
    cases h
    exact a20 ⟨_, _, _, _, _⟩ ⟨_, _, _, _, _⟩ (by exact hbd) trivial K hK
noncomputable def c9 (code : List Int) (K : AV → List AV → Prop) : Prop :=
    Obl (byOk code) (∀ (s : Sto), K (.st (stC s)) [])
noncomputable def C9 : List AV → (AV → List AV → Prop) → Prop
  | [.ps .u8 code], K => c9 code K
  | _, _ => False
noncomputable def E9 : Ctx := mkE tab [(29, .gen .ps C29), (30, .gen .ow C30)]
noncomputable def O9 : Nat → List DI := ordL []
theorem a9 (code : List Int) (hb : BdAs [.ps .u8 code]) (K : AV → List AV → Prop) (h : c9 code K) : abody E9 O9 .ps Tryd.f9 (Tryd.f9.body.getD .skip) [.ps .u8 code] K := by
  simp only [BdAs, BdA, BdL, BdC, MX, ndC, shC, itC, stC, opC, chC, nwC, flC, rqC, rsC, enc, List.cons_append, List.nil_append, and_true, true_and] at hb
  unfold c9 at h
  obtain ⟨ho, hK⟩ := h
  conv => whnf
  repeat' first
    | (refine Cnd.mk (fun h => ?_) (fun h => ?_) <;> (try simp [etas, elDef, -List.getD_eq_getElem?_getD] at h) <;> conv => whnf)
    | (refine Obl.mk (by first | omega | rfl | exact inK_byte _ | (simp only [inK, Int.toNat_natCast, etas, elDef] <;> first | omega | grind) | grind [inK]) ?_ <;> conv => whnf)
    | (refine OblG.mk (by conv => whnf
                          repeat (first | (refine Bx.mk ?_) | (intro h; (try simp [etas, elDef, -List.getD_eq_getElem?_getD] at h); conv => whnf))
                          first | omega | rfl | exact inK_byte _ | (simp only [inK, Int.toNat_natCast, etas, elDef] <;> first | omega | grind) | grind [inK]) ?_ <;> conv => whnf)
    | (refine Gd.mk (fun h => ?_) <;> (try simp [etas, elDef, -List.getD_eq_getElem?_getD] at h) <;> conv => whnf)
    | (refine And.intro ?_ ?_ <;> conv => whnf)
    | exact True.intro
    | (intro; conv => whnf)
  all_goals exact hK ⟨_, _⟩
theorem s9 : (CtrOK Tryd.prog 9 (.gen .ps C9) ∧ Callable Tryd.prog 9) := by
  refine gen_ok (E := E9) (mkE_cons s29 (mkE_cons s30 (mkE_nil tab_ok))) mix (O := O9) (C := C9) (own := .ps) Tryd.func9 rfl (by rfl) (by kernel_rfl) (fun args K h hbd => ?_)
  unfold C9 at h; split at h
  case h_2 => exact h.elim
  exact ⟨Nat.le_of_ble_eq_true rfl, a9 _ (by exact hbd) _ h⟩
noncomputable def c13 (code : List Int) (K : AV → List AV → Prop) : Prop :=
    Obl (byOk code) (∀ (s : Sto) (b : Bs) (n : Nd), K (.tup [.st (stC s), .str b, .st (ndC n)]) [])
noncomputable def C13 : List AV → (AV → List AV → Prop) → Prop
  | [.ps .u8 code], K => c13 code K
  | _, _ => False
noncomputable def E13 : Ctx := mkE tab [(29, .gen .ps C29), (30, .gen .ow C30), (35, .gen .ps C35), (36, .gen .ps C36)]
noncomputable def O13 : Nat → List DI := ordL [(4, [.q 0, .q 1, .q 2, .l 3 [0], .l 4 [], .q 5, .l 6 []])]
theorem a13 (code : List Int) (hb : BdAs [.ps .u8 code]) (K : AV → List AV → Prop) (h : c13 code K) : abody E13 O13 .ps Tryd.f13 (Tryd.f13.body.getD .skip) [.ps .u8 code] K := by
  simp only [BdAs, BdA, BdL, BdC, MX, ndC, shC, itC, stC, opC, chC, nwC, flC, rqC, rsC, enc, List.cons_append, List.nil_append, and_true, true_and] at hb
  unfold c13 at h
  obtain ⟨ho, hK⟩ := h
  conv => whnf
  repeat' first
    | (refine Cnd.mk (fun h => ?_) (fun h => ?_) <;> (try simp [etas, elDef, -List.getD_eq_getElem?_getD] at h) <;> conv => whnf)
    | (refine Obl.mk (by first | omega | rfl | exact inK_byte _ | (simp only [inK, Int.toNat_natCast, etas, elDef] <;> first | omega | grind) | grind [inK]) ?_ <;> conv => whnf)
    | (refine OblG.mk (by conv => whnf
                          repeat (first | (refine Bx.mk ?_) | (intro h; (try simp [etas, elDef, -List.getD_eq_getElem?_getD] at h); conv => whnf))
                          first | omega | rfl | exact inK_byte _ | (simp only [inK, Int.toNat_natCast, etas, elDef] <;> first | omega | grind) | grind [inK]) ?_ <;> conv => whnf)
    | (refine Gd.mk (fun h => ?_) <;> (try simp [etas, elDef, -List.getD_eq_getElem?_getD] at h) <;> conv => whnf)
    | (refine And.intro ?_ ?_ <;> conv => whnf)
    | exact True.intro
    | (intro; conv => whnf)
  all_goals exact hK ⟨_, _⟩ _ ⟨_, _, _, _, _⟩
theorem s13 : (CtrOK Tryd.prog 13 (.gen .ps C13) ∧ Callable Tryd.prog 13) := by
  refine gen_ok (E := E13) (mkE_cons s29 (mkE_cons s30 (mkE_cons s35 (mkE_cons s36 (mkE_nil tab_ok))))) mix (O := O13) (C := C13) (own := .ps) Tryd.func13 rfl (by rfl) (by kernel_rfl) (fun args K h hbd => ?_)
  unfold C13 at h; split at h
  case h_2 => exact h.elim
  exact ⟨Nat.le_of_ble_eq_true rfl, a13 _ (by exact hbd) _ h⟩
end Go.Rs

