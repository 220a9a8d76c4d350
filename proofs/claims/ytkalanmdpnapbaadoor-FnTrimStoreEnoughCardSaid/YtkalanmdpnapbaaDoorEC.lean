import Derived.Test.YtkalanmdpnapbaaDoorEB
import Derived.Test.YtkalanmdpnapbaaDoorCI
import Derived.Test.YtkalanmdpnapbaaDoorCQ
import Derived.Test.YtkalanmdpnapbaaDoorMC
import Derived.Test.YtkalanmdpnapbaaDoorCX
import Derived.Test.YtkalanmdpnapbaaDoorMF
set_option linter.all false
namespace Go.Rs
open Go.Proofs
set_option maxRecDepth 100000
set_option linter.unusedVariables false
set_option linter.unusedSimpArgs false
noncomputable def v54 (l : List It) : AV := .int .i64 (oldI l)
noncomputable def o54 (l : List It) : Prop := 0 < l.length ∧ l.length ≤ 1000000
noncomputable def F54 : List AV → QR
  | [.ps .item l] => some (some (o54 l), v54 l)
  | _ => none
noncomputable def E54 : Ctx := mkE tab []
noncomputable def O54 : Nat → List DI := ordL [(5, [.q 0, .q 1, .q 2, .q 3, .q 4, .q 5, .q 6, .q 7])]
theorem a54 (l : List It) (hb : BdAs [.ps .item l]) (ho : o54 l) (K : AV → List AV → Prop) (hK : K (v54 l) []) : abody E54 O54 .ps Tryd.f54 (Tryd.f54.body.getD .skip) [.ps .item l] K := by
  simp only [BdAs, BdA, BdL, BdC, MX, ndC, shC, itC, stC, opC, chC, nwC, flC, rqC, rsC, enc, List.cons_append, List.nil_append, and_true, true_and] at hb
  unfold o54 at ho
  unfold v54 at hK
  conv => whnf
  repeat' first
    | (refine Cnd.mk (fun h => ?_) (fun h => ?_) <;> (try simp [etas, elDef, -List.getD_eq_getElem?_getD] at h) <;> conv => whnf)
    | (refine Obl.mk (by first | omega | rfl | exact inK_byte _ | (simp only [inK, Int.toNat_natCast, etas, elDef] <;> first | omega | grind) | grind [inK]) ?_ <;> conv => whnf)
    | (refine OblG.mk (by conv => whnf
                          repeat (first | (refine Bx.mk ?_) | (intro h; (try simp [etas, elDef, -List.getD_eq_getElem?_getD] at h); conv => whnf))
                          first | omega | rfl | exact inK_byte _ | (simp only [inK, Int.toNat_natCast, etas, elDef] <;> first | omega | grind) | grind [inK]) ?_ <;> conv => whnf)
    | (refine Gd.mk (fun h => ?_) <;> (try simp [etas, elDef, -List.getD_eq_getElem?_getD] at h) <;> conv => whnf)
    | (refine And.intro ?_ ?_ <;> conv => whnf)
    | exact True.intro
    | (intro; conv => whnf)
  refine aloop_intro Nat (fun k => k ≤ l.length ∧ True) (fun k => l.length - k) (fun k => [(8, .int .i64 k), (3, .int .i64 (oldK l k))]) (fun k => []) [] 0 [] [] ?_ ?_ (by exact sgOk_of (by rfl)) ?_
  · first | (simp; done) | (simp; assumption)
  · (conv => whnf); (repeat' (first | exact trivial | rfl | (refine nilEq ?_; first | rfl | (simp only [*]; done) | (simp [*]; done) | grind) | apply And.intro | ((first | refine intEq ?_ | refine boolEq ?_ | refine strEq ?_ | refine psEq ?_ | refine nilEq ?_ | refine arrEq ?_); (try simp only [Int.toNat_natCast, etas, elDef]); first | done | omega | grind | (simp only [*]; done) | (simp [*]; done)))); (all_goals (conv => whnf)); (repeat' (first | exact trivial | rfl | (refine nilEq ?_; first | rfl | (simp only [*]; done) | (simp [*]; done) | grind) | apply And.intro | ((first | refine intEq ?_ | refine boolEq ?_ | refine strEq ?_ | refine psEq ?_ | refine nilEq ?_ | refine arrEq ?_); (try simp only [Int.toNat_natCast, etas, elDef]); first | done | omega | grind | (simp only [*]; done) | (simp [*]; done)) | ((try simp only [Int.toNat_natCast, etas, elDef]); first | done | omega | grind | (simp only [*]; done) | (simp [*]; done))))
  rintro i ⟨hi, hj⟩
  conv => whnf
  have h1 := fun h => oldK_lt (k := i) (l := l) ho.1 h
  have h2 := oldK_succ l i
  repeat' first
    | (refine Cnd.mk (fun h => ?_) (fun h => ?_) <;> (try simp [etas, elDef, -List.getD_eq_getElem?_getD] at h) <;> conv => whnf)
    | (refine Obl.mk (by first | omega | rfl | exact inK_byte _ | (simp only [inK, Int.toNat_natCast, etas, elDef] <;> first | omega | grind) | grind [inK]) ?_ <;> conv => whnf)
    | (refine OblG.mk (by conv => whnf
                          repeat (first | (refine Bx.mk ?_) | (intro h; (try simp [etas, elDef, -List.getD_eq_getElem?_getD] at h); conv => whnf))
                          first | omega | rfl | exact inK_byte _ | (simp only [inK, Int.toNat_natCast, etas, elDef] <;> first | omega | grind) | grind [inK]) ?_ <;> conv => whnf)
    | (refine Gd.mk (fun h => ?_) <;> (try simp [etas, elDef, -List.getD_eq_getElem?_getD] at h) <;> conv => whnf)
    | (refine And.intro ?_ ?_ <;> conv => whnf)
    | exact True.intro
    | (intro; conv => whnf)
  · have e : oldK l (i + 1) = i := by rw [h2]; unfold oldS; rw [if_pos (of_decide_eq_true h)]
    exact ⟨i + 1, [], [], ⟨by omega, by grind⟩, by omega, by (conv => whnf); (repeat' (first | exact trivial | rfl | (refine nilEq ?_; first | rfl | (simp only [*]; done) | (simp [*]; done) | grind) | apply And.intro | ((first | refine intEq ?_ | refine boolEq ?_ | refine strEq ?_ | refine psEq ?_ | refine nilEq ?_ | refine arrEq ?_); (try simp only [Int.toNat_natCast, etas, elDef]); first | done | omega))); (all_goals (conv => whnf)); (repeat' (first | exact trivial | rfl | (refine nilEq ?_; first | rfl | (simp only [*]; done) | (simp [*]; done) | grind) | apply And.intro | ((first | refine intEq ?_ | refine boolEq ?_ | refine strEq ?_ | refine psEq ?_ | refine nilEq ?_ | refine arrEq ?_); (try simp only [Int.toNat_natCast, etas, elDef]); first | done | omega) | ((try simp only [Int.toNat_natCast, etas, elDef]); first | done | omega))), (by exact sgOk_of (by rfl))⟩
  · have e : oldK l (i + 1) = oldK l i := by rw [h2]; unfold oldS; rw [if_neg (of_decide_eq_false h)]
    exact ⟨i + 1, [], [], ⟨by omega, by grind⟩, by omega, by (conv => whnf); (repeat' (first | exact trivial | rfl | (refine nilEq ?_; first | rfl | (simp only [*]; done) | (simp [*]; done) | grind) | apply And.intro | ((first | refine intEq ?_ | refine boolEq ?_ | refine strEq ?_ | refine psEq ?_ | refine nilEq ?_ | refine arrEq ?_); (try simp only [Int.toNat_natCast, etas, elDef]); first | done | omega))); (all_goals (conv => whnf)); (repeat' (first | exact trivial | rfl | (refine nilEq ?_; first | rfl | (simp only [*]; done) | (simp [*]; done) | grind) | apply And.intro | ((first | refine intEq ?_ | refine boolEq ?_ | refine strEq ?_ | refine psEq ?_ | refine nilEq ?_ | refine arrEq ?_); (try simp only [Int.toNat_natCast, etas, elDef]); first | done | omega) | ((try simp only [Int.toNat_natCast, etas, elDef]); first | done | omega))), (by exact sgOk_of (by rfl))⟩
  · exact leafI hK (by unfold oldI; rw [show i = l.length by omega])
theorem s54 : (CtrOK Tryd.prog 54 (.pure F54) ∧ Callable Tryd.prog 54) := by
  refine pure_ok (E := E54) (mkE_nil tab_ok) mix (O := O54) (F := F54) Tryd.func54 rfl (by rfl) (by kernel_rfl) (fun args o v h => ?_) (fun args o v h => ?_) (fun args o v h hbd hp K hK => ?_)
  · unfold F54 at h; split at h <;> cases h; first | trivial | (simp [v54, Scalar, Scalar2, Scalar1, stC, ndC, itC, chC, nwC])
  · unfold F54 at h; split at h <;> cases h; exact Nat.le_of_ble_eq_true rfl
  · unfold F54 at h; split at h
    case h_2 => cases h
    cases h
    exact a54 _ (by exact hbd) (hp _ rfl) K hK
noncomputable def v57 (s : Sto) : AV := .int .i64 (oldI s.items)
noncomputable def o57 (s : Sto) : Prop := 0 < s.items.length ∧ s.items.length ≤ 1000000
noncomputable def F57 : List AV → QR
  | [.st [.ps .item s_0, .int .i64 s_1]] => some (some (o57 ⟨s_0, s_1⟩), v57 ⟨s_0, s_1⟩)
  | _ => none
noncomputable def E57 : Ctx := mkE tab []
noncomputable def O57 : Nat → List DI := ordL [(5, [.q 0, .q 1, .q 2, .q 3, .q 4, .q 5, .q 6, .q 7, .q 8, .q 9, .q 10, .q 11, .q 12])]
theorem a57 (s : Sto) (hb : BdAs [.st (stC s)]) (ho : o57 s) (K : AV → List AV → Prop) (hK : K (v57 s) []) : abody E57 O57 .ps Tryd.f57 (Tryd.f57.body.getD .skip) [.st (stC s)] K := by
  simp only [BdAs, BdA, BdL, BdC, MX, ndC, shC, itC, stC, opC, chC, nwC, flC, rqC, rsC, enc, List.cons_append, List.nil_append, and_true, true_and] at hb
  unfold o57 at ho
  unfold v57 at hK
  have h0 := oldK_one s.items
  conv => whnf
  repeat' first
    | (refine Cnd.mk (fun h => ?_) (fun h => ?_) <;> (try simp [etas, elDef, -List.getD_eq_getElem?_getD] at h) <;> conv => whnf)
    | (refine Obl.mk (by first | omega | rfl | exact inK_byte _ | (simp only [inK, Int.toNat_natCast, etas, elDef] <;> first | omega | grind) | grind [inK]) ?_ <;> conv => whnf)
    | (refine OblG.mk (by conv => whnf
                          repeat (first | (refine Bx.mk ?_) | (intro h; (try simp [etas, elDef, -List.getD_eq_getElem?_getD] at h); conv => whnf))
                          first | omega | rfl | exact inK_byte _ | (simp only [inK, Int.toNat_natCast, etas, elDef] <;> first | omega | grind) | grind [inK]) ?_ <;> conv => whnf)
    | (refine Gd.mk (fun h => ?_) <;> (try simp [etas, elDef, -List.getD_eq_getElem?_getD] at h) <;> conv => whnf)
    | (refine And.intro ?_ ?_ <;> conv => whnf)
    | exact True.intro
    | (intro; conv => whnf)
  refine aloop_intro Nat (fun k => 1 ≤ k ∧ k ≤ s.items.length) (fun k => s.items.length - k) (fun k => [(4, .int .i64 k), (3, .int .i64 (oldK s.items k))]) (fun _ => []) [1] 1 [] [] ⟨by omega, by omega⟩ ?_ (by exact sgOk_of (by rfl)) ?_
  · (conv => whnf); (repeat' (first | exact trivial | rfl | (refine nilEq ?_; first | rfl | (simp only [*]; done) | (simp [*]; done) | grind) | apply And.intro | ((first | refine intEq ?_ | refine boolEq ?_ | refine strEq ?_ | refine psEq ?_ | refine nilEq ?_ | refine arrEq ?_); (try simp only [Int.toNat_natCast, etas, elDef]); first | done | omega | grind | (simp only [*]; done) | (simp [*]; done)))); (all_goals (conv => whnf)); (repeat' (first | exact trivial | rfl | (refine nilEq ?_; first | rfl | (simp only [*]; done) | (simp [*]; done) | grind) | apply And.intro | ((first | refine intEq ?_ | refine boolEq ?_ | refine strEq ?_ | refine psEq ?_ | refine nilEq ?_ | refine arrEq ?_); (try simp only [Int.toNat_natCast, etas, elDef]); first | done | omega | grind | (simp only [*]; done) | (simp [*]; done)) | ((try simp only [Int.toNat_natCast, etas, elDef]); first | done | omega | grind | (simp only [*]; done) | (simp [*]; done))))
  rintro k ⟨hk1, hk2⟩
  conv => whnf
  have h1 := fun h => oldK_lt (k := k) (l := s.items) ho.1 h
  have h2 := oldK_succ s.items k
  repeat' first
    | (refine Cnd.mk (fun h => ?_) (fun h => ?_) <;> (try simp [etas, elDef, -List.getD_eq_getElem?_getD] at h) <;> conv => whnf)
    | (refine Obl.mk (by first | omega | rfl | exact inK_byte _ | (simp only [inK, Int.toNat_natCast, etas, elDef] <;> first | omega | grind) | grind [inK]) ?_ <;> conv => whnf)
    | (refine OblG.mk (by conv => whnf
                          repeat (first | (refine Bx.mk ?_) | (intro h; (try simp [etas, elDef, -List.getD_eq_getElem?_getD] at h); conv => whnf))
                          first | omega | rfl | exact inK_byte _ | (simp only [inK, Int.toNat_natCast, etas, elDef] <;> first | omega | grind) | grind [inK]) ?_ <;> conv => whnf)
    | (refine Gd.mk (fun h => ?_) <;> (try simp [etas, elDef, -List.getD_eq_getElem?_getD] at h) <;> conv => whnf)
    | (refine And.intro ?_ ?_ <;> conv => whnf)
    | exact True.intro
    | (intro; conv => whnf)
  · have e : oldK s.items (k + 1) = k := by rw [h2]; unfold oldS; rw [if_pos (of_decide_eq_true h)]
    exact ⟨k + 1, [], [], ⟨by omega, by omega⟩, by omega, by (conv => whnf); (repeat' (first | exact trivial | rfl | (refine nilEq ?_; first | rfl | (simp only [*]; done) | (simp [*]; done) | grind) | apply And.intro | ((first | refine intEq ?_ | refine boolEq ?_ | refine strEq ?_ | refine psEq ?_ | refine nilEq ?_ | refine arrEq ?_); (try simp only [Int.toNat_natCast, etas, elDef]); first | done | omega))); (all_goals (conv => whnf)); (repeat' (first | exact trivial | rfl | (refine nilEq ?_; first | rfl | (simp only [*]; done) | (simp [*]; done) | grind) | apply And.intro | ((first | refine intEq ?_ | refine boolEq ?_ | refine strEq ?_ | refine psEq ?_ | refine nilEq ?_ | refine arrEq ?_); (try simp only [Int.toNat_natCast, etas, elDef]); first | done | omega) | ((try simp only [Int.toNat_natCast, etas, elDef]); first | done | omega))), (by exact sgOk_of (by rfl))⟩
  · have e : oldK s.items (k + 1) = oldK s.items k := by rw [h2]; unfold oldS; rw [if_neg (of_decide_eq_false h)]
    exact ⟨k + 1, [], [], ⟨by omega, by omega⟩, by omega, by (conv => whnf); (repeat' (first | exact trivial | rfl | (refine nilEq ?_; first | rfl | (simp only [*]; done) | (simp [*]; done) | grind) | apply And.intro | ((first | refine intEq ?_ | refine boolEq ?_ | refine strEq ?_ | refine psEq ?_ | refine nilEq ?_ | refine arrEq ?_); (try simp only [Int.toNat_natCast, etas, elDef]); first | done | omega))); (all_goals (conv => whnf)); (repeat' (first | exact trivial | rfl | (refine nilEq ?_; first | rfl | (simp only [*]; done) | (simp [*]; done) | grind) | apply And.intro | ((first | refine intEq ?_ | refine boolEq ?_ | refine strEq ?_ | refine psEq ?_ | refine nilEq ?_ | refine arrEq ?_); (try simp only [Int.toNat_natCast, etas, elDef]); first | done | omega) | ((try simp only [Int.toNat_natCast, etas, elDef]); first | done | omega))), (by exact sgOk_of (by rfl))⟩
  · exact leafI hK (by unfold oldI; rw [show k = s.items.length by omega])
theorem s57 : (CtrOK Tryd.prog 57 (.pure F57) ∧ Callable Tryd.prog 57) := by
  refine pure_ok (E := E57) (mkE_nil tab_ok) mix (O := O57) (F := F57) Tryd.func57 rfl (by rfl) (by kernel_rfl) (fun args o v h => ?_) (fun args o v h => ?_) (fun args o v h hbd hp K hK => ?_)
  · unfold F57 at h; split at h <;> cases h; first | trivial | (simp [v57, Scalar, Scalar2, Scalar1, stC, ndC, itC, chC, nwC])
  · unfold F57 at h; split at h <;> cases h; exact Nat.le_of_ble_eq_true rfl
  · unfold F57 at h; split at h
    case h_2 => cases h
    cases h
    exact a57 ⟨_, _⟩ (by exact hbd) (hp _ rfl) K hK
theorem trim_room {l : List It} {c m : Int} (hs : storeM ⟨l, c⟩ = true) (h0 : 0 ≤ m) : l.length ≤ 10 ∧ sizeM l ≤ 26000 ∧ (m < sizeM l → oldI l < l.length ∧ validM (l.getD (oldI l) default).node = true ∧ (l.getD (oldI l) default).name.length ≤ 8 ∧ itSz (l.getD (oldI l) default) ≤ 2600 ∧
    sizeM (l.eraseIdx (oldI l)) + itSz (l.getD (oldI l) default) = sizeM l ∧ (l.eraseIdx (oldI l)).length + 1 = l.length ∧ dropL l (l.getD (oldI l) default).name = l.eraseIdx (oldI l)) := by
  refine ⟨(storeM_iff.1 hs).1, size_bound hs, fun h => ?_⟩
  have hl := size_pos h0 h
  have hi := oldI_lt hl
  exact ⟨hi, storeM_node hs hi, store_name hs hi, itSz_le hs (getD_mem (d := default) hi), size_erase hi, by have := List.length_eraseIdx_of_lt hi; omega, drop_erase hs hi⟩
noncomputable def c23 (s : Sto) (m : Int) (K : AV → List AV → Prop) : Prop :=
    K (.tup [.st (stC (trimS s m).1), .ps .str (trimS s m).2]) []
noncomputable def C23 : List AV → (AV → List AV → Prop) → Prop
  | [.st [.ps .item s_0, .int .i64 s_1], .int .i64 m], K => c23 ⟨s_0, s_1⟩ m K
  | _, _ => False
noncomputable def E23 : Ctx := mkE tab [(10, .pure F10), (26, .pure F26), (31, .pure F31), (38, .gen .ow C38), (54, .pure F54), (55, .gen .ow C55)]
noncomputable def O23 : Nat → List DI := ordL []
theorem a23 (s : Sto) (m : Int) (hb : BdAs [.st (stC s), .int .i64 m]) (K : AV → List AV → Prop) (h : c23 s m K) : abody E23 O23 .ps Tryd.f23 (Tryd.f23.body.getD .skip) [.st (stC s), .int .i64 m] K := by
  simp only [BdAs, BdA, BdL, BdC, MX, ndC, shC, itC, stC, opC, chC, nwC, flC, rqC, rsC, enc, List.cons_append, List.nil_append, and_true, true_and] at hb
  unfold c23 at h
  have hK9 := h
  have hsm := fun (h : storeM s = true) => storeM_sm h
  conv => whnf
  repeat' first
    | (refine Cnd.mk (fun h => ?_) (fun h => ?_) <;> (try simp [etas, elDef, -List.getD_eq_getElem?_getD] at h) <;> conv => whnf)
    | (refine Obl.mk (by first | omega | rfl | exact inK_byte _ | (simp only [inK, Int.toNat_natCast, etas, elDef, o31, o54] <;> first | omega | grind) | grind [inK, o31, o54]) ?_ <;> conv => whnf)
    | (refine OblG.mk (by conv => whnf
                          repeat (first | (refine Bx.mk ?_) | (intro h; (try simp [etas, elDef, -List.getD_eq_getElem?_getD] at h); conv => whnf))
                          first | omega | rfl | exact inK_byte _ | (simp only [inK, Int.toNat_natCast, etas, elDef, o31, o54] <;> first | omega | grind) | grind [inK, o31, o54]) ?_ <;> conv => whnf)
    | (refine Gd.mk (fun h => ?_) <;> (try simp [etas, elDef, -List.getD_eq_getElem?_getD] at h) <;> conv => whnf)
    | (refine And.intro ?_ ?_ <;> conv => whnf)
    | exact True.intro
    | (intro; conv => whnf)
  · exact leafV hK9 (by unfold trimS; rw [if_neg (by rcases h with h | h <;> simp [h])]; rfl)
  obtain ⟨hs, hm⟩ := h
  have hz : stSzM s = sizeM s.items := by unfold stSzM; rw [if_pos hs]
  have hT : trimS s m = (⟨(trimF m s.items).1, s.clock⟩, (trimF m s.items).2) := by unfold trimS; rw [if_pos ⟨hs, hm⟩]
  rw [hT] at hK9
  refine aloop_intro (List It × List Bs) (fun q => storeM ⟨q.1, s.clock⟩ = true ∧ q.2.length + q.1.length = s.items.length ∧ trimF m s.items = ((trimF m q.1).1, q.2 ++ (trimF m q.1).2)) (fun q => q.1.length) (fun q => [(8, .int .i64 (sizeM q.1)), (7, nlV .str q.2)]) (fun q => (6, .box [.ls 901, .int .i64 s.clock]) :: (901, .arr .item q.1) :: nlL .str q.2) [4] (s.items, []) [(901, 20000)] [] ?_ ?_ (by exact sgOk_of (by rfl)) ?_
  · exact ⟨hs, by simp, by simp⟩
  · (conv => whnf); (repeat' (first | exact trivial | rfl | (refine nilEq ?_; first | rfl | (simp only [*]; done) | (simp [*]; done) | grind) | apply And.intro | ((first | refine intEq ?_ | refine boolEq ?_ | refine strEq ?_ | refine psEq ?_ | refine nilEq ?_ | refine arrEq ?_); (try simp only [Int.toNat_natCast, etas, elDef]); first | done | omega | grind | (simp only [*]; done) | (simp [*]; done)))); (all_goals (conv => whnf)); (repeat' (first | exact trivial | rfl | (refine nilEq ?_; first | rfl | (simp only [*]; done) | (simp [*]; done) | grind) | apply And.intro | ((first | refine intEq ?_ | refine boolEq ?_ | refine strEq ?_ | refine psEq ?_ | refine nilEq ?_ | refine arrEq ?_); (try simp only [Int.toNat_natCast, etas, elDef]); first | done | omega | grind | (simp only [*]; done) | (simp [*]; done)) | ((try simp only [Int.toNat_natCast, etas, elDef]); first | done | omega | grind | (simp only [*]; done) | (simp [*]; done))))
  have h10 := (storeM_iff.1 hs).1
  rintro ⟨l, _ | ⟨a, r⟩⟩ ⟨hi1, hi2, hi3⟩
  · dsimp only at hi1 hi2 hi3
    obtain ⟨r1, r2, r3⟩ := trim_room hi1 hm
    have hst := fun (h : m < sizeM l) => trimF_step h (size_pos hm h)
    have hsp := fun (h : (sizeM l : Int) ≤ m) => trimF_stop h
    conv => whnf
    repeat' first
      | (refine Cnd.mk (fun h => ?_) (fun h => ?_) <;> (try simp [etas, elDef, -List.getD_eq_getElem?_getD] at h) <;> conv => whnf)
      | (refine Obl.mk (by first | omega | rfl | exact inK_byte _ | (simp only [inK, Int.toNat_natCast, etas, elDef, o31, o54] <;> first | omega | grind) | grind [inK, o31, o54]) ?_ <;> conv => whnf)
      | (refine OblG.mk (by conv => whnf
                            repeat (first | (refine Bx.mk ?_) | (intro h; (try simp [etas, elDef, -List.getD_eq_getElem?_getD] at h); conv => whnf))
                            first | omega | rfl | exact inK_byte _ | (simp only [inK, Int.toNat_natCast, etas, elDef, o31, o54] <;> first | omega | grind) | grind [inK, o31, o54]) ?_ <;> conv => whnf)
      | (refine Gd.mk (fun h => ?_) <;> (try simp [etas, elDef, -List.getD_eq_getElem?_getD] at h) <;> conv => whnf)
      | (refine And.intro ?_ ?_ <;> conv => whnf)
      | exact True.intro
      | (intro; conv => whnf)
    · obtain ⟨q1, q2, q3, q4, q5, q6, q7⟩ := r3 h
      exact ⟨(l.eraseIdx (oldI l), [(l.getD (oldI l) default).name]), [(901, 51000), (900, 44)], [], ⟨erase_store hi1 _, by simp at hi2 ⊢; omega, by rw [hi3, hst h]; simp⟩, by simp only; omega, by (conv => whnf); (repeat' (first | exact trivial | rfl | (refine nilEq ?_; first | rfl | (simp only [*]; done) | (simp [*]; done) | grind) | apply And.intro | ((first | refine intEq ?_ | refine boolEq ?_ | refine strEq ?_ | refine psEq ?_ | refine nilEq ?_ | refine arrEq ?_); (try simp only [Int.toNat_natCast, etas, elDef]); first | done | omega | simp))); (all_goals (conv => whnf)); (repeat' (first | exact trivial | rfl | (refine nilEq ?_; first | rfl | (simp only [*]; done) | (simp [*]; done) | grind) | apply And.intro | ((first | refine intEq ?_ | refine boolEq ?_ | refine strEq ?_ | refine psEq ?_ | refine nilEq ?_ | refine arrEq ?_); (try simp only [Int.toNat_natCast, etas, elDef]); first | done | omega | simp) | ((try simp only [Int.toNat_natCast, etas, elDef]); first | done | omega | simp))), (by exact sgOk_of (by rfl))⟩
    · exact leafV hK9 (by rw [hi3, hsp h]; rfl)
  · dsimp only at hi1 hi2 hi3
    obtain ⟨r1, r2, r3⟩ := trim_room hi1 hm
    have hst := fun (h : m < sizeM l) => trimF_step h (size_pos hm h)
    have hsp := fun (h : (sizeM l : Int) ≤ m) => trimF_stop h
    have hr2 : (a :: r).length + [(l.getD (oldI l) default).name].length ≤ 1073741824 := by simp at hi2 ⊢; omega
    conv => whnf
    repeat' first
      | (refine Cnd.mk (fun h => ?_) (fun h => ?_) <;> (try simp [etas, elDef, -List.getD_eq_getElem?_getD] at h) <;> conv => whnf)
      | (refine Obl.mk (by first | omega | rfl | exact inK_byte _ | (simp only [inK, Int.toNat_natCast, etas, elDef, o31, o54] <;> first | omega | grind) | grind [inK, o31, o54]) ?_ <;> conv => whnf)
      | (refine OblG.mk (by conv => whnf
                            repeat (first | (refine Bx.mk ?_) | (intro h; (try simp [etas, elDef, -List.getD_eq_getElem?_getD] at h); conv => whnf))
                            first | omega | rfl | exact inK_byte _ | (simp only [inK, Int.toNat_natCast, etas, elDef, o31, o54] <;> first | omega | grind) | grind [inK, o31, o54]) ?_ <;> conv => whnf)
      | (refine Gd.mk (fun h => ?_) <;> (try simp [etas, elDef, -List.getD_eq_getElem?_getD] at h) <;> conv => whnf)
      | (refine And.intro ?_ ?_ <;> conv => whnf)
      | exact True.intro
      | (intro; conv => whnf)
    · obtain ⟨q1, q2, q3, q4, q5, q6, q7⟩ := r3 h
      exact ⟨(l.eraseIdx (oldI l), a :: r ++ [(l.getD (oldI l) default).name]), [(901, 51000), (900, 44)], [], ⟨erase_store hi1 _, by simp at hi2 ⊢; omega, by rw [hi3, hst h]; simp⟩, by simp only; omega, by (conv => whnf); (repeat' (first | exact trivial | rfl | (refine nilEq ?_; first | rfl | (simp only [*]; done) | (simp [*]; done) | grind) | apply And.intro | ((first | refine intEq ?_ | refine boolEq ?_ | refine strEq ?_ | refine psEq ?_ | refine nilEq ?_ | refine arrEq ?_); (try simp only [Int.toNat_natCast, etas, elDef]); first | done | omega | simp))); (all_goals (conv => whnf)); (repeat' (first | exact trivial | rfl | (refine nilEq ?_; first | rfl | (simp only [*]; done) | (simp [*]; done) | grind) | apply And.intro | ((first | refine intEq ?_ | refine boolEq ?_ | refine strEq ?_ | refine psEq ?_ | refine nilEq ?_ | refine arrEq ?_); (try simp only [Int.toNat_natCast, etas, elDef]); first | done | omega | simp) | ((try simp only [Int.toNat_natCast, etas, elDef]); first | done | omega | simp))), (by exact sgOk_of (by rfl))⟩
    · exact leafV hK9 (by rw [hi3, hsp h]; simp; rfl)
theorem s23 : (CtrOK Tryd.prog 23 (.gen .ps C23) ∧ Callable Tryd.prog 23) := by
  refine gen_ok (E := E23) (mkE_cons s10 (mkE_cons s26 (mkE_cons s31 (mkE_cons s38 (mkE_cons s54 (mkE_cons s55 (mkE_nil tab_ok))))))) mix (O := O23) (C := C23) (own := .ps) Tryd.func23 rfl (by rfl) (by kernel_rfl) (fun args K h hbd => ?_)
  unfold C23 at h; split at h
  case h_2 => exact h.elim
  exact ⟨Nat.le_of_ble_eq_true rfl, a23 ⟨_, _⟩ _ (by exact hbd) _ h⟩
noncomputable def c24 (s : Sto) (m : Int) (K : AV → List AV → Prop) : Prop :=
    K (.tup [.st (stC (trimS s m).1), .ps .str (trimS s m).2]) []
noncomputable def C24 : List AV → (AV → List AV → Prop) → Prop
  | [.st [.ps .item s_0, .int .i64 s_1], .int .i64 m], K => c24 ⟨s_0, s_1⟩ m K
  | _, _ => False
noncomputable def E24 : Ctx := mkE tab [(32, .pure F32), (33, .pure F33), (56, .gen .ln C56), (57, .pure F57), (58, .gen .ln C58)]
noncomputable def O24 : Nat → List DI := ordL [(6, [.q 0, .q 1, .q 2, .q 3, .q 4, .q 5, .q 6, .q 7]), (8, [.q 0, .q 1, .q 4, .q 5, .l 2 [5], .q 3, .q 6, .l 7 []])]
theorem a24 (s : Sto) (m : Int) (hb : BdAs [.st (stC s), .int .i64 m]) (K : AV → List AV → Prop) (h : c24 s m K) : abody E24 O24 .ps Tryd.f24 (Tryd.f24.body.getD .skip) [.st (stC s), .int .i64 m] K := by
  simp only [BdAs, BdA, BdL, BdC, MX, ndC, shC, itC, stC, opC, chC, nwC, flC, rqC, rsC, enc, List.cons_append, List.nil_append, and_true, true_and] at hb
  unfold c24 at h
  have hK9 := h
  have hsm := fun (h : storeM s = true) => storeM_sm h
  conv => whnf
  repeat' first
    | (refine Cnd.mk (fun h => ?_) (fun h => ?_) <;> (try simp [etas, elDef, -List.getD_eq_getElem?_getD] at h) <;> conv => whnf)
    | (refine Obl.mk (by first | omega | rfl | exact inK_byte _ | (simp only [inK, Int.toNat_natCast, etas, elDef, o33, o57] <;> first | omega | grind) | grind [inK, o33, o57]) ?_ <;> conv => whnf)
    | (refine OblG.mk (by conv => whnf
                          repeat (first | (refine Bx.mk ?_) | (intro h; (try simp [etas, elDef, -List.getD_eq_getElem?_getD] at h); conv => whnf))
                          first | omega | rfl | exact inK_byte _ | (simp only [inK, Int.toNat_natCast, etas, elDef, o33, o57] <;> first | omega | grind) | grind [inK, o33, o57]) ?_ <;> conv => whnf)
    | (refine Gd.mk (fun h => ?_) <;> (try simp [etas, elDef, -List.getD_eq_getElem?_getD] at h) <;> conv => whnf)
    | (refine And.intro ?_ ?_ <;> conv => whnf)
    | exact True.intro
    | (intro; conv => whnf)
  · exact leafV hK9 (by unfold trimS; rw [if_neg (by rcases h with h | h <;> simp [h])]; rfl)
  obtain ⟨hs, hm⟩ := h
  have hT : trimS s m = (⟨(trimF m s.items).1, s.clock⟩, (trimF m s.items).2) := by unfold trimS; rw [if_pos ⟨hs, hm⟩]
  rw [hT] at hK9
  have h10 := (storeM_iff.1 hs).1
  have hck := (storeM_iff.1 hs).2.1
  refine aloop_intro (List It × List Bs) (fun q => storeM ⟨q.1, s.clock⟩ = true ∧ q.2.length + q.1.length = s.items.length ∧ trimF m s.items = ((trimF m q.1).1, q.2 ++ (trimF m q.1).2)) (fun q => q.1.length) (fun q => [(6, .ls 900)]) (fun q => [(7, .box [.ps .item q.1, .int .i64 s.clock]), (900, .arr .str q.2)]) [2, 4] (s.items, []) [(900, 9)] [] ?_ ?_ (by exact sgOk_of (by rfl)) ?_
  · exact ⟨hs, by simp, by simp⟩
  · (conv => whnf); (repeat' (first | exact trivial | rfl | (refine nilEq ?_; first | rfl | (simp only [*]; done) | (simp [*]; done) | grind) | apply And.intro | ((first | refine intEq ?_ | refine boolEq ?_ | refine strEq ?_ | refine psEq ?_ | refine nilEq ?_ | refine arrEq ?_); (try simp only [Int.toNat_natCast, etas, elDef]); first | done | omega | grind | (simp only [*]; done) | (simp [*]; done)))); (all_goals (conv => whnf)); (repeat' (first | exact trivial | rfl | (refine nilEq ?_; first | rfl | (simp only [*]; done) | (simp [*]; done) | grind) | apply And.intro | ((first | refine intEq ?_ | refine boolEq ?_ | refine strEq ?_ | refine psEq ?_ | refine nilEq ?_ | refine arrEq ?_); (try simp only [Int.toNat_natCast, etas, elDef]); first | done | omega | grind | (simp only [*]; done) | (simp [*]; done)) | ((try simp only [Int.toNat_natCast, etas, elDef]); first | done | omega | grind | (simp only [*]; done) | (simp [*]; done))))
  rintro ⟨l, g⟩ ⟨hi1, hi2, hi3⟩
  dsimp only at hi1 hi2 hi3
  obtain ⟨r1, r2, r3⟩ := trim_room hi1 hm
  have hst := fun (h : m < sizeM l) => trimF_step h (size_pos hm h)
  have hsp := fun (h : (sizeM l : Int) ≤ m) => trimF_stop h
  have hsl := storeM_sm hi1
  conv => whnf
  repeat' first
    | (refine Cnd.mk (fun h => ?_) (fun h => ?_) <;> (try simp [etas, elDef, -List.getD_eq_getElem?_getD] at h) <;> conv => whnf)
    | (refine Obl.mk (by first | omega | rfl | exact inK_byte _ | (simp only [inK, Int.toNat_natCast, etas, elDef, o33, o57] <;> first | omega | grind) | grind [inK, o33, o57]) ?_ <;> conv => whnf)
    | (refine OblG.mk (by conv => whnf
                          repeat (first | (refine Bx.mk ?_) | (intro h; (try simp [etas, elDef, -List.getD_eq_getElem?_getD] at h); conv => whnf))
                          first | omega | rfl | exact inK_byte _ | (simp only [inK, Int.toNat_natCast, etas, elDef, o33, o57] <;> first | omega | grind) | grind [inK, o33, o57]) ?_ <;> conv => whnf)
    | (refine Gd.mk (fun h => ?_) <;> (try simp [etas, elDef, -List.getD_eq_getElem?_getD] at h) <;> conv => whnf)
    | (refine And.intro ?_ ?_ <;> conv => whnf)
    | exact True.intro
    | (intro; conv => whnf)
  · obtain ⟨q1, q2, q3, q4, q5, q6, q7⟩ := r3 h
    exact ⟨(l.eraseIdx (oldI l), g ++ [(l.getD (oldI l) default).name]), [(900, 34)], [38000], ⟨erase_store hi1 _, by simp; omega, by rw [hi3, hst h]; simp⟩, by simp only; omega, by (conv => whnf); (repeat' (first | exact trivial | rfl | (refine nilEq ?_; first | rfl | (simp only [*]; done) | (simp [*]; done) | grind) | apply And.intro | ((first | refine intEq ?_ | refine boolEq ?_ | refine strEq ?_ | refine psEq ?_ | refine nilEq ?_ | refine arrEq ?_); (try simp only [Int.toNat_natCast, etas, elDef]); first | done | omega | exact q7 | simp))); (all_goals (conv => whnf)); (repeat' (first | exact trivial | rfl | (refine nilEq ?_; first | rfl | (simp only [*]; done) | (simp [*]; done) | grind) | apply And.intro | ((first | refine intEq ?_ | refine boolEq ?_ | refine strEq ?_ | refine psEq ?_ | refine nilEq ?_ | refine arrEq ?_); (try simp only [Int.toNat_natCast, etas, elDef]); first | done | omega | exact q7 | simp) | ((try simp only [Int.toNat_natCast, etas, elDef]); first | done | omega | exact q7 | simp))), (by exact sgOk_of (by rfl))⟩
  · exact leafV hK9 (by rw [hi3, hsp h]; simp; rfl)
theorem s24 : (CtrOK Tryd.prog 24 (.gen .ps C24) ∧ Callable Tryd.prog 24) := by
  refine gen_ok (E := E24) (mkE_cons s32 (mkE_cons s33 (mkE_cons s56 (mkE_cons s57 (mkE_cons s58 (mkE_nil tab_ok)))))) mix (O := O24) (C := C24) (own := .ps) Tryd.func24 rfl (by rfl) (by kernel_rfl) (fun args K h hbd => ?_)
  unfold C24 at h; split at h
  case h_2 => exact h.elim
  exact ⟨Nat.le_of_ble_eq_true rfl, a24 ⟨_, _⟩ _ (by exact hbd) _ h⟩
noncomputable def c22 (code : List Int) (K : AV → List AV → Prop) : Prop :=
    Obl (byOk code) (∀ (s : Sto) (m : Int), -1000 ≤ m ∧ m ≤ 100000 → K (.tup [.st (stC s), .int .i64 m]) [])
noncomputable def C22 : List AV → (AV → List AV → Prop) → Prop
  | [.ps .u8 code], K => c22 code K
  | _, _ => False
noncomputable def E22 : Ctx := mkE tab [(29, .gen .ps C29), (30, .gen .ow C30), (52, .gen .ps C52), (53, .gen .ps C53)]
noncomputable def O22 : Nat → List DI := ordL [(3, [.q 0, .q 1, .q 2, .l 3 [0], .l 4 [0], .l 5 [0], .l 6 [], .q 7])]
theorem a22 (code : List Int) (hb : BdAs [.ps .u8 code]) (K : AV → List AV → Prop) (h : c22 code K) : abody E22 O22 .ps Tryd.f22 (Tryd.f22.body.getD .skip) [.ps .u8 code] K := by
  simp only [BdAs, BdA, BdL, BdC, MX, ndC, shC, itC, stC, opC, chC, nwC, flC, rqC, rsC, enc, List.cons_append, List.nil_append, and_true, true_and] at hb
  unfold c22 at h
  obtain ⟨ho, hK⟩ := h
  conv => whnf
  repeat' first
    | (refine Cnd.mk (fun h => ?_) (fun h => ?_) <;> (try simp [etas, elDef, -List.getD_eq_getElem?_getD] at h) <;> conv => whnf)
    | (refine Obl.mk (by first | omega | rfl | exact inK_byte _ | (simp only [inK, Int.toNat_natCast, etas, elDef] <;> first | omega | grind) | grind [inK]) ?_ <;> conv => whnf)
    | (refine OblG.mk (by conv => whnf
                          repeat (first | (refine Bx.mk ?_) | (intro h; (try simp [etas, elDef, -List.getD_eq_getElem?_getD] at h); conv => whnf))
                          first | omega | rfl | exact inK_byte _ | (simp only [inK, Int.toNat_natCast, etas, elDef] <;> first | omega | grind) | grind [inK]) ?_ <;> conv => whnf)
    | (refine Gd.mk (fun h => ?_) <;> (try simp [etas, elDef, -List.getD_eq_getElem?_getD] at h) <;> conv => whnf)
    | (refine And.intro ?_ ?_ <;> conv => whnf)
    | exact True.intro
    | (intro; conv => whnf)
  all_goals (refine hK ⟨_, _⟩ _ ?_; rename_i h7; simp only [List.mem_cons, List.not_mem_nil, or_false] at h7; omega)
theorem s22 : (CtrOK Tryd.prog 22 (.gen .ps C22) ∧ Callable Tryd.prog 22) := by
  refine gen_ok (E := E22) (mkE_cons s29 (mkE_cons s30 (mkE_cons s52 (mkE_cons s53 (mkE_nil tab_ok))))) mix (O := O22) (C := C22) (own := .ps) Tryd.func22 rfl (by rfl) (by kernel_rfl) (fun args K h hbd => ?_)
  unfold C22 at h; split at h
  case h_2 => exact h.elim
  exact ⟨Nat.le_of_ble_eq_true rfl, a22 _ (by exact hbd) _ h⟩
end Go.Rs

