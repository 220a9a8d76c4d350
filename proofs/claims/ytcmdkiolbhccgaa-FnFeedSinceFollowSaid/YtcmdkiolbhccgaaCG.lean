import Derived.Test.YtcmdkiolbhccgaaCF
import Derived.Test.YtcmdkiolbhccgaaMB
set_option linter.all false
namespace Go.Rs
open Go.Proofs
set_option maxRecDepth 100000
set_option linter.unusedVariables false
set_option linter.unusedSimpArgs false
noncomputable def v41 (l : List It) (b : Bs) : AV := .tup [.int .i64 (lbI l b), .bool (foundI l b)]
noncomputable def o41 (l : List It) (b : Bs) : Prop := sortedI l
noncomputable def F41 : List AV → QR
  | [.ps .item l, .str b, .fn 42 []] => some (some (o41 l b), v41 l b)
  | _ => none
noncomputable def E41 : Ctx := mkE tab [(42, .pure F42)]
noncomputable def O41 : Nat → List DI := ordL []
theorem a41 (l : List It) (b : Bs) (hb : BdAs [.ps .item l, .str b, .fn 42 []]) (ho : o41 l b) (K : AV → List AV → Prop) (hK : K (v41 l b) []) : abody E41 O41 .ps Try.f41 (Try.f41.body.getD .skip) [.ps .item l, .str b, .fn 42 []] K := by
  simp only [BdAs, BdA, BdL, BdC, MX, ndC, shC, itC, stC, opC, chC, nwC, flC, rqC, rsC, enc, List.cons_append, List.nil_append, and_true, true_and] at hb
  unfold o41 at ho
  unfold v41 at hK
  have hle := lbI_le l b
  conv => whnf
  refine aloop_intro (Nat × Nat) (fun p => p.1 ≤ lbI l b ∧ lbI l b ≤ p.2 ∧ p.2 ≤ l.length) (fun p => p.2 - p.1) (fun p => [(9, .int .i64 p.1), (10, .int .i64 p.2)]) (fun _ => []) [] (0, l.length) [] [] ?_ ?_ (by exact sgOk_of (by rfl)) ?_
  · simp; exact hle
  · (conv => whnf); (repeat' (first | exact trivial | rfl | (refine nilEq ?_; first | rfl | (simp only [*]; done) | (simp [*]; done) | grind) | apply And.intro | ((first | refine intEq ?_ | refine boolEq ?_ | refine strEq ?_ | refine psEq ?_ | refine nilEq ?_ | refine arrEq ?_); (try simp only [Int.toNat_natCast, etas, elDef]); first | done | omega | grind | (simp only [*]; done) | (simp [*]; done)))); (all_goals (conv => whnf)); (repeat' (first | exact trivial | rfl | (refine nilEq ?_; first | rfl | (simp only [*]; done) | (simp [*]; done) | grind) | apply And.intro | ((first | refine intEq ?_ | refine boolEq ?_ | refine strEq ?_ | refine psEq ?_ | refine nilEq ?_ | refine arrEq ?_); (try simp only [Int.toNat_natCast, etas, elDef]); first | done | omega | grind | (simp only [*]; done) | (simp [*]; done)) | ((try simp only [Int.toNat_natCast, etas, elDef]); first | done | omega | grind | (simp only [*]; done) | (simp [*]; done))))
  rintro ⟨i, j⟩ ⟨h1, h2, h3⟩
  dsimp only at h1 h2 h3
  conv => whnf
  repeat' first
    | (refine Cnd.mk (fun h => ?_) (fun h => ?_) <;> (try simp [etas, elDef, -List.getD_eq_getElem?_getD] at h) <;> conv => whnf)
    | (refine Obl.mk (by first | omega | rfl | exact inK_byte _ | (simp only [inK, Int.toNat_natCast, etas, elDef] <;> first | omega | grind) | grind [inK]) ?_ <;> conv => whnf)
    | (refine OblG.mk (by conv => whnf
                          repeat (first | (refine Bx.mk ?_) | (intro h; (try simp [etas, elDef, -List.getD_eq_getElem?_getD] at h); conv => whnf))
                          first | omega | rfl | exact inK_byte _ | (simp only [inK, Int.toNat_natCast, etas, elDef] <;> first | omega | grind) | grind [inK]) ?_ <;> conv => whnf)
    | (refine Gd.mk (fun h => ?_) <;> (try simp [etas, elDef, -List.getD_eq_getElem?_getD] at h) <;> conv => whnf)
    | (refine And.intro ?_ ?_ <;> conv => whnf)
    | exact True.intro
    | (intro; conv => whnf)
  · have e : ((i + j : Int) / 2).toNat = (i + j) / 2 := by omega
    have h := of_decide_eq_true h
    rw [e, cmp_lt] at h
    have h4 := lbI_gt ho (by omega) h
    exact ⟨((i + j) / 2 + 1, j), [], [], ⟨by simp only; omega, by simp only; omega, by simp only; omega⟩, by simp only; omega, by (conv => whnf); (repeat' (first | exact trivial | rfl | (refine nilEq ?_; first | rfl | (simp only [*]; done) | (simp [*]; done) | grind) | apply And.intro | ((first | refine intEq ?_ | refine boolEq ?_ | refine strEq ?_ | refine psEq ?_ | refine nilEq ?_ | refine arrEq ?_); (try simp only [Int.toNat_natCast, etas, elDef]); (simp only; omega)))); (all_goals (conv => whnf)); (repeat' (first | exact trivial | rfl | (refine nilEq ?_; first | rfl | (simp only [*]; done) | (simp [*]; done) | grind) | apply And.intro | ((first | refine intEq ?_ | refine boolEq ?_ | refine strEq ?_ | refine psEq ?_ | refine nilEq ?_ | refine arrEq ?_); (try simp only [Int.toNat_natCast, etas, elDef]); (simp only; omega)) | ((try simp only [Int.toNat_natCast, etas, elDef]); (simp only; omega)))), (by exact sgOk_of (by rfl))⟩
  · have e : ((i + j : Int) / 2).toNat = (i + j) / 2 := by omega
    have h := of_decide_eq_false h
    rw [e, cmp_lt, Bool.not_eq_true] at h
    have h4 := lbI_ge h
    exact ⟨(i, (i + j) / 2), [], [], ⟨by simp only; omega, by simp only; omega, by simp only; omega⟩, by simp only; omega, by (conv => whnf); (repeat' (first | exact trivial | rfl | (refine nilEq ?_; first | rfl | (simp only [*]; done) | (simp [*]; done) | grind) | apply And.intro | ((first | refine intEq ?_ | refine boolEq ?_ | refine strEq ?_ | refine psEq ?_ | refine nilEq ?_ | refine arrEq ?_); (try simp only [Int.toNat_natCast, etas, elDef]); (simp only; omega)))); (all_goals (conv => whnf)); (repeat' (first | exact trivial | rfl | (refine nilEq ?_; first | rfl | (simp only [*]; done) | (simp [*]; done) | grind) | apply And.intro | ((first | refine intEq ?_ | refine boolEq ?_ | refine strEq ?_ | refine psEq ?_ | refine nilEq ?_ | refine arrEq ?_); (try simp only [Int.toNat_natCast, etas, elDef]); (simp only; omega)) | ((try simp only [Int.toNat_natCast, etas, elDef]); (simp only; omega)))), (by exact sgOk_of (by rfl))⟩
  · have e : i = lbI l b := by omega
    subst e
    refine leafV hK ?_
    simp only [foundI, Int.toNat_natCast, elDef, cmp_eq]
    simp
theorem s41 : (CtrOK Try.prog 41 (.pure F41) ∧ Callable Try.prog 41) := by
  refine pure_ok (E := E41) (mkE_cons s42 (mkE_nil tab_ok)) mix (O := O41) (F := F41) Try.func41 rfl (by rfl) (by kernel_rfl) (fun args o v h => ?_) (fun args o v h => ?_) (fun args o v h hbd hp K hK => ?_)
  · unfold F41 at h; split at h <;> cases h; first | trivial | (simp [v41, Scalar, Scalar2, Scalar1, stC, ndC, itC, chC, nwC])
  · unfold F41 at h; split at h <;> cases h; exact Nat.le_of_ble_eq_true rfl
  · unfold F41 at h; split at h
    case h_2 => cases h
    cases h
    exact a41 _ _ (by exact hbd) (hp _ rfl) K hK
noncomputable def v28 (l : List It) (b : Bs) : AV := .tup [.int .i64 (lbI l b), .bool (foundI l b)]
noncomputable def o28 (l : List It) (b : Bs) : Prop := sortedI l
noncomputable def F28 : List AV → QR
  | [.ps .item l, .str b] => some (some (o28 l b), v28 l b)
  | _ => none
noncomputable def E28 : Ctx := mkE tab [(41, .pure F41), (42, .pure F42)]
noncomputable def O28 : Nat → List DI := ordL []
theorem a28 (l : List It) (b : Bs) (hb : BdAs [.ps .item l, .str b]) (ho : o28 l b) (K : AV → List AV → Prop) (hK : K (v28 l b) []) : abody E28 O28 .ps Try.f28 (Try.f28.body.getD .skip) [.ps .item l, .str b] K := by
  simp only [BdAs, BdA, BdL, BdC, MX, ndC, shC, itC, stC, opC, chC, nwC, flC, rqC, rsC, enc, List.cons_append, List.nil_append, and_true, true_and] at hb
  unfold o28 at ho
  unfold v28 at hK
  conv => whnf
  repeat' first
    | (refine Cnd.mk (fun h => ?_) (fun h => ?_) <;> (try simp [etas, elDef, -List.getD_eq_getElem?_getD] at h) <;> conv => whnf)
    | (refine Obl.mk (by first | omega | rfl | exact inK_byte _ | (simp only [inK, Int.toNat_natCast, etas, elDef, o41] <;> first | omega | grind) | grind [inK, o41]) ?_ <;> conv => whnf)
    | (refine OblG.mk (by conv => whnf
                          repeat (first | (refine Bx.mk ?_) | (intro h; (try simp [etas, elDef, -List.getD_eq_getElem?_getD] at h); conv => whnf))
                          first | omega | rfl | exact inK_byte _ | (simp only [inK, Int.toNat_natCast, etas, elDef, o41] <;> first | omega | grind) | grind [inK, o41]) ?_ <;> conv => whnf)
    | (refine Gd.mk (fun h => ?_) <;> (try simp [etas, elDef, -List.getD_eq_getElem?_getD] at h) <;> conv => whnf)
    | (refine And.intro ?_ ?_ <;> conv => whnf)
    | exact True.intro
    | (intro; conv => whnf)
  exact hK
theorem s28 : (CtrOK Try.prog 28 (.pure F28) ∧ Callable Try.prog 28) := by
  refine pure_ok (E := E28) (mkE_cons s41 (mkE_cons s42 (mkE_nil tab_ok))) mix (O := O28) (F := F28) Try.func28 rfl (by rfl) (by kernel_rfl) (fun args o v h => ?_) (fun args o v h => ?_) (fun args o v h hbd hp K hK => ?_)
  · unfold F28 at h; split at h <;> cases h; first | trivial | (simp [v28, Scalar, Scalar2, Scalar1, stC, ndC, itC, chC, nwC])
  · unfold F28 at h; split at h <;> cases h; exact Nat.le_of_ble_eq_true rfl
  · unfold F28 at h; split at h
    case h_2 => cases h
    cases h
    exact a28 _ _ (by exact hbd) (hp _ rfl) K hK
noncomputable def c16 (n : Nd) (K : AV → List AV → Prop) : Prop :=
    Obl (smN n) (K (.st [.int .i64 n.kind, .int .i64 n.num, .str n.text, .own .str n.names, .own .node n.kids]) [])
noncomputable def m16 (n : Nd) : Nat := SizeOf.sizeOf n
noncomputable def C16 : List AV → (AV → List AV → Prop) → Prop
  | [.st [.int .i64 n_0, .int .i64 n_1, .str n_2, .ps .str n_3, .ps .node n_4]], K => c16 ⟨n_0, n_1, n_2, n_3, n_4⟩ K
  | _, _ => False
noncomputable def Ck16 (k : Nat) : List AV → (AV → List AV → Prop) → Prop
  | [.st [.int .i64 n_0, .int .i64 n_1, .str n_2, .ps .str n_3, .ps .node n_4]], K => Obl (m16 ⟨n_0, n_1, n_2, n_3, n_4⟩ < k) (c16 ⟨n_0, n_1, n_2, n_3, n_4⟩ K)
  | _, _ => False
noncomputable def E16 (k : Nat) : Ctx := mkE tab [(16, .gen .ow (Ck16 k))]
noncomputable def O16 : Nat → List DI := ordL [(10, [.q 0, .q 1, .q 2, .q 3, .l 4 [1], .q 5, .l 6 []])]
theorem a16 (k : Nat) (n : Nd) (hm : m16 n < k + 1) (hb : BdAs [.st (ndC n)]) (K : AV → List AV → Prop) (h : c16 n K) : abody (E16 k) O16 .ow Try.f16 (Try.f16.body.getD .skip) [.st (ndC n)] K := by
  simp only [BdAs, BdA, BdL, BdC, MX, ndC, shC, itC, stC, opC, chC, nwC, flC, rqC, rsC, enc, List.cons_append, List.nil_append, and_true, true_and] at hb
  unfold c16 at h
  unfold m16 at hm
  obtain ⟨hs, hK⟩ := h
  have hkid : ∀ j, j < n.kids.length → SizeOf.sizeOf (n.kids.getD j default) < k ∧ smN (n.kids.getD j default) := fun j hj => ⟨by have := kid_size hj; omega, hs.kid hj⟩
  have h3 := hs.kids
  have h2 := hs.names
  conv => whnf
  repeat' first
    | (refine Cnd.mk (fun h => ?_) (fun h => ?_) <;> (try simp [etas, elDef, -List.getD_eq_getElem?_getD] at h) <;> conv => whnf)
    | (refine Obl.mk (by first | omega | rfl | exact inK_byte _ | (simp only [inK, Int.toNat_natCast, etas, elDef, m16, m16] <;> first | omega | grind) | grind [inK, m16, m16]) ?_ <;> conv => whnf)
    | (refine OblG.mk (by conv => whnf
                          repeat (first | (refine Bx.mk ?_) | (intro h; (try simp [etas, elDef, -List.getD_eq_getElem?_getD] at h); conv => whnf))
                          first | omega | rfl | exact inK_byte _ | (simp only [inK, Int.toNat_natCast, etas, elDef, m16, m16] <;> first | omega | grind) | grind [inK, m16, m16]) ?_ <;> conv => whnf)
    | (refine Gd.mk (fun h => ?_) <;> (try simp [etas, elDef, -List.getD_eq_getElem?_getD] at h) <;> conv => whnf)
    | (refine And.intro ?_ ?_ <;> conv => whnf)
    | exact True.intro
    | (intro; conv => whnf)
  · refine aloop_intro Nat (fun k => k ≤ n.kids.length ∧ True) (fun k => n.kids.length - k) (fun k => [(39, .int .i64 k)]) (fun k => [(34, .arr .node (fillD default n.kids k))]) [1, 2, 3, 20] 0 [] [] ?_ ?_ (by exact sgOk_of (by rfl)) ?_
    · first | (simp; done) | (simp; assumption)
    · (conv => whnf); (repeat' (first | exact trivial | rfl | (refine nilEq ?_; first | rfl | (simp only [*]; done) | (simp [*]; done) | grind) | apply And.intro | ((first | refine intEq ?_ | refine boolEq ?_ | refine strEq ?_ | refine psEq ?_ | refine nilEq ?_ | refine arrEq ?_); (try simp only [Int.toNat_natCast, etas, elDef]); first | done | omega | grind | (simp only [*]; done) | (simp [*]; done)))); (all_goals (conv => whnf)); (repeat' (first | exact trivial | rfl | (refine nilEq ?_; first | rfl | (simp only [*]; done) | (simp [*]; done) | grind) | apply And.intro | ((first | refine intEq ?_ | refine boolEq ?_ | refine strEq ?_ | refine psEq ?_ | refine nilEq ?_ | refine arrEq ?_); (try simp only [Int.toNat_natCast, etas, elDef]); first | done | omega | grind | (simp only [*]; done) | (simp [*]; done)) | ((try simp only [Int.toNat_natCast, etas, elDef]); first | done | omega | grind | (simp only [*]; done) | (simp [*]; done))))
    rintro i ⟨hi, hj⟩
    conv => whnf
    have hl := fillD_len default n.kids hi
    have hset := fun h => fillD_set default n.kids (k := i) h
    repeat' first
      | (refine Cnd.mk (fun h => ?_) (fun h => ?_) <;> (try simp [etas, elDef, -List.getD_eq_getElem?_getD] at h) <;> conv => whnf)
      | (refine Obl.mk (by first | omega | rfl | exact inK_byte _ | (simp only [inK, Int.toNat_natCast, etas, elDef, m16, m16] <;> first | omega | grind) | grind [inK, m16, m16]) ?_ <;> conv => whnf)
      | (refine OblG.mk (by conv => whnf
                            repeat (first | (refine Bx.mk ?_) | (intro h; (try simp [etas, elDef, -List.getD_eq_getElem?_getD] at h); conv => whnf))
                            first | omega | rfl | exact inK_byte _ | (simp only [inK, Int.toNat_natCast, etas, elDef, m16, m16] <;> first | omega | grind) | grind [inK, m16, m16]) ?_ <;> conv => whnf)
      | (refine Gd.mk (fun h => ?_) <;> (try simp [etas, elDef, -List.getD_eq_getElem?_getD] at h) <;> conv => whnf)
      | (refine And.intro ?_ ?_ <;> conv => whnf)
      | exact True.intro
      | (intro; conv => whnf)
    · exact ⟨i + 1, [], [], ⟨by omega, by grind⟩, by omega, by (conv => whnf); (repeat' (first | exact trivial | rfl | (refine nilEq ?_; first | rfl | (simp only [*]; done) | (simp [*]; done) | grind) | apply And.intro | ((first | refine intEq ?_ | refine boolEq ?_ | refine strEq ?_ | refine psEq ?_ | refine nilEq ?_ | refine arrEq ?_); (try simp only [Int.toNat_natCast, etas, elDef]); first | done | omega | grind | (simp only [*]; done) | (simp [*]; done)))); (all_goals (conv => whnf)); (repeat' (first | exact trivial | rfl | (refine nilEq ?_; first | rfl | (simp only [*]; done) | (simp [*]; done) | grind) | apply And.intro | ((first | refine intEq ?_ | refine boolEq ?_ | refine strEq ?_ | refine psEq ?_ | refine nilEq ?_ | refine arrEq ?_); (try simp only [Int.toNat_natCast, etas, elDef]); first | done | omega | grind | (simp only [*]; done) | (simp [*]; done)) | ((try simp only [Int.toNat_natCast, etas, elDef]); first | done | omega | grind | (simp only [*]; done) | (simp [*]; done)))), (by exact sgOk_of (by rfl))⟩
    · exact leafV hK (by simp_all [fillD_all default n.kids ‹n.kids.length ≤ i›])
  · exact leafV hK (by simp [h])
  · refine aloop_intro Nat (fun k => k ≤ n.kids.length ∧ True) (fun k => n.kids.length - k) (fun k => [(39, .int .i64 k)]) (fun k => [(34, .arr .node (fillD default n.kids k))]) [1, 2, 3] 0 [] [] ?_ ?_ (by exact sgOk_of (by rfl)) ?_
    · first | (simp; done) | (simp; assumption)
    · (conv => whnf); (repeat' (first | exact trivial | rfl | (refine nilEq ?_; first | rfl | (simp only [*]; done) | (simp [*]; done) | grind) | apply And.intro | ((first | refine intEq ?_ | refine boolEq ?_ | refine strEq ?_ | refine psEq ?_ | refine nilEq ?_ | refine arrEq ?_); (try simp only [Int.toNat_natCast, etas, elDef]); first | done | omega | grind | (simp only [*]; done) | (simp [*]; done)))); (all_goals (conv => whnf)); (repeat' (first | exact trivial | rfl | (refine nilEq ?_; first | rfl | (simp only [*]; done) | (simp [*]; done) | grind) | apply And.intro | ((first | refine intEq ?_ | refine boolEq ?_ | refine strEq ?_ | refine psEq ?_ | refine nilEq ?_ | refine arrEq ?_); (try simp only [Int.toNat_natCast, etas, elDef]); first | done | omega | grind | (simp only [*]; done) | (simp [*]; done)) | ((try simp only [Int.toNat_natCast, etas, elDef]); first | done | omega | grind | (simp only [*]; done) | (simp [*]; done))))
    rintro i ⟨hi, hj⟩
    conv => whnf
    have hl := fillD_len default n.kids hi
    have hset := fun h => fillD_set default n.kids (k := i) h
    repeat' first
      | (refine Cnd.mk (fun h => ?_) (fun h => ?_) <;> (try simp [etas, elDef, -List.getD_eq_getElem?_getD] at h) <;> conv => whnf)
      | (refine Obl.mk (by first | omega | rfl | exact inK_byte _ | (simp only [inK, Int.toNat_natCast, etas, elDef, m16, m16] <;> first | omega | grind) | grind [inK, m16, m16]) ?_ <;> conv => whnf)
      | (refine OblG.mk (by conv => whnf
                            repeat (first | (refine Bx.mk ?_) | (intro h; (try simp [etas, elDef, -List.getD_eq_getElem?_getD] at h); conv => whnf))
                            first | omega | rfl | exact inK_byte _ | (simp only [inK, Int.toNat_natCast, etas, elDef, m16, m16] <;> first | omega | grind) | grind [inK, m16, m16]) ?_ <;> conv => whnf)
      | (refine Gd.mk (fun h => ?_) <;> (try simp [etas, elDef, -List.getD_eq_getElem?_getD] at h) <;> conv => whnf)
      | (refine And.intro ?_ ?_ <;> conv => whnf)
      | exact True.intro
      | (intro; conv => whnf)
    · exact ⟨i + 1, [], [], ⟨by omega, by grind⟩, by omega, by (conv => whnf); (repeat' (first | exact trivial | rfl | (refine nilEq ?_; first | rfl | (simp only [*]; done) | (simp [*]; done) | grind) | apply And.intro | ((first | refine intEq ?_ | refine boolEq ?_ | refine strEq ?_ | refine psEq ?_ | refine nilEq ?_ | refine arrEq ?_); (try simp only [Int.toNat_natCast, etas, elDef]); first | done | omega | grind | (simp only [*]; done) | (simp [*]; done)))); (all_goals (conv => whnf)); (repeat' (first | exact trivial | rfl | (refine nilEq ?_; first | rfl | (simp only [*]; done) | (simp [*]; done) | grind) | apply And.intro | ((first | refine intEq ?_ | refine boolEq ?_ | refine strEq ?_ | refine psEq ?_ | refine nilEq ?_ | refine arrEq ?_); (try simp only [Int.toNat_natCast, etas, elDef]); first | done | omega | grind | (simp only [*]; done) | (simp [*]; done)) | ((try simp only [Int.toNat_natCast, etas, elDef]); first | done | omega | grind | (simp only [*]; done) | (simp [*]; done)))), (by exact sgOk_of (by rfl))⟩
    · exact leafV hK (by simp_all [fillD_all default n.kids ‹n.kids.length ≤ i›])
  · exact leafV hK (by simp_all)
theorem r16 : ∀ k, (CtrOK Try.prog 16 (.gen .ow (Ck16 k)) ∧ Callable Try.prog 16) := by
  intro k
  induction k with
  | zero =>
    exact ⟨fun args K h => by
        unfold Ck16 at h; split at h
        · exact absurd h.o (Nat.not_lt_zero _)
        · exact h.elim, callable Try.func16 rfl (by rfl)⟩
  | succ k ih =>
    refine gen_ok (E := E16 k) (mkE_cons ih (mkE_nil tab_ok)) mix (O := O16) (C := (Ck16 (k + 1))) (own := .ow) Try.func16 rfl (by rfl) (by kernel_rfl) (fun args K h hbd => ?_)
    unfold Ck16 at h; split at h
    case h_2 => exact h.elim
    exact ⟨Nat.le_of_ble_eq_true rfl, a16 k ⟨_, _, _, _, _⟩ h.o (by exact hbd) _ h.k⟩
theorem s16 : (CtrOK Try.prog 16 (.gen .ow C16) ∧ Callable Try.prog 16) := by
  refine ⟨fun args K h => ?_, (r16 0).2⟩
  unfold C16 at h; split at h
  · exact (r16 (m16 ⟨_, _, _, _, _⟩ + 1)).1 _ K ⟨Nat.lt_succ_self _, h⟩
  · exact h.elim
noncomputable def c39 (x : It) (K : AV → List AV → Prop) : Prop :=
    Obl (smN x.node) (K (.st (itC x)) [])
noncomputable def C39 : List AV → (AV → List AV → Prop) → Prop
  | [.st [.str x_0, .int .i64 x_1, .int .i64 x_2_0, .int .i64 x_2_1, .str x_2_2, .ps .str x_2_3, .ps .node x_2_4]], K => c39 ⟨x_0, x_1, ⟨x_2_0, x_2_1, x_2_2, x_2_3, x_2_4⟩⟩ K
  | _, _ => False
noncomputable def E39 : Ctx := mkE tab [(16, .gen .ow C16)]
noncomputable def O39 : Nat → List DI := ordL [(1, [.q 0, .q 1, .q 2, .q 3, .q 4, .q 5, .l 6 [1, 3], .q 7, .l 8 []])]
theorem a39 (x : It) (hb : BdAs [.st (itC x)]) (K : AV → List AV → Prop) (h : c39 x K) : abody E39 O39 .ps Try.f39 (Try.f39.body.getD .skip) [.st (itC x)] K := by
  simp only [BdAs, BdA, BdL, BdC, MX, ndC, shC, itC, stC, opC, chC, nwC, flC, rqC, rsC, enc, List.cons_append, List.nil_append, and_true, true_and] at hb
  unfold c39 at h
  obtain ⟨hs, hK⟩ := h
  conv => whnf
  repeat' first
    | (refine Cnd.mk (fun h => ?_) (fun h => ?_) <;> (try simp [etas, elDef, -List.getD_eq_getElem?_getD] at h) <;> conv => whnf)
    | (refine Obl.mk (by first | omega | rfl | exact inK_byte _ | (simp only [inK, Int.toNat_natCast, etas, elDef, m16] <;> first | omega | grind) | grind [inK, m16]) ?_ <;> conv => whnf)
    | (refine OblG.mk (by conv => whnf
                          repeat (first | (refine Bx.mk ?_) | (intro h; (try simp [etas, elDef, -List.getD_eq_getElem?_getD] at h); conv => whnf))
                          first | omega | rfl | exact inK_byte _ | (simp only [inK, Int.toNat_natCast, etas, elDef, m16] <;> first | omega | grind) | grind [inK, m16]) ?_ <;> conv => whnf)
    | (refine Gd.mk (fun h => ?_) <;> (try simp [etas, elDef, -List.getD_eq_getElem?_getD] at h) <;> conv => whnf)
    | (refine And.intro ?_ ?_ <;> conv => whnf)
    | exact True.intro
    | (intro; conv => whnf)
  all_goals exact leafV hK rfl
theorem s39 : (CtrOK Try.prog 39 (.gen .ps C39) ∧ Callable Try.prog 39) := by
  refine gen_ok (E := E39) (mkE_cons s16 (mkE_nil tab_ok)) mix (O := O39) (C := C39) (own := .ps) Try.func39 rfl (by rfl) (by kernel_rfl) (fun args K h hbd => ?_)
  unfold C39 at h; split at h
  case h_2 => exact h.elim
  exact ⟨Nat.le_of_ble_eq_true rfl, a39 ⟨_, _, ⟨_, _, _, _, _⟩⟩ (by exact hbd) _ h⟩
noncomputable def c26 (s : Sto) (K : AV → List AV → Prop) : Prop :=
    Obl (smS s) (K (.st [.own .item s.items, .int .i64 s.clock]) [])
noncomputable def C26 : List AV → (AV → List AV → Prop) → Prop
  | [.st [.ps .item s_0, .int .i64 s_1]], K => c26 ⟨s_0, s_1⟩ K
  | _, _ => False
noncomputable def E26 : Ctx := mkE tab [(39, .gen .ps C39)]
noncomputable def O26 : Nat → List DI := ordL [(7, [.q 0, .q 1, .q 2, .q 3, .l 4 [1], .q 5, .l 6 []])]
theorem a26 (s : Sto) (hb : BdAs [.st (stC s)]) (K : AV → List AV → Prop) (h : c26 s K) : abody E26 O26 .ow Try.f26 (Try.f26.body.getD .skip) [.st (stC s)] K := by
  simp only [BdAs, BdA, BdL, BdC, MX, ndC, shC, itC, stC, opC, chC, nwC, flC, rqC, rsC, enc, List.cons_append, List.nil_append, and_true, true_and] at hb
  unfold c26 at h
  obtain ⟨hs, hK⟩ := h
  have hit : ∀ j, j < s.items.length → smN (s.items.getD j default).node := fun j hj => hs.item hj
  have h3 := hs.1
  conv => whnf
  repeat' first
    | (refine Cnd.mk (fun h => ?_) (fun h => ?_) <;> (try simp [etas, elDef, -List.getD_eq_getElem?_getD] at h) <;> conv => whnf)
    | (refine Obl.mk (by first | omega | rfl | exact inK_byte _ | (simp only [inK, Int.toNat_natCast, etas, elDef] <;> first | omega | grind) | grind [inK]) ?_ <;> conv => whnf)
    | (refine OblG.mk (by conv => whnf
                          repeat (first | (refine Bx.mk ?_) | (intro h; (try simp [etas, elDef, -List.getD_eq_getElem?_getD] at h); conv => whnf))
                          first | omega | rfl | exact inK_byte _ | (simp only [inK, Int.toNat_natCast, etas, elDef] <;> first | omega | grind) | grind [inK]) ?_ <;> conv => whnf)
    | (refine Gd.mk (fun h => ?_) <;> (try simp [etas, elDef, -List.getD_eq_getElem?_getD] at h) <;> conv => whnf)
    | (refine And.intro ?_ ?_ <;> conv => whnf)
    | exact True.intro
    | (intro; conv => whnf)
  · refine aloop_intro Nat (fun k => k ≤ s.items.length ∧ True) (fun k => s.items.length - k) (fun k => [(21, .int .i64 k)]) (fun k => [(16, .arr .item (fillD default s.items k))]) [1, 2, 3] 0 [] [] ?_ ?_ (by exact sgOk_of (by rfl)) ?_
    · first | (simp; done) | (simp; assumption)
    · (conv => whnf); (repeat' (first | exact trivial | rfl | (refine nilEq ?_; first | rfl | (simp only [*]; done) | (simp [*]; done) | grind) | apply And.intro | ((first | refine intEq ?_ | refine boolEq ?_ | refine strEq ?_ | refine psEq ?_ | refine nilEq ?_ | refine arrEq ?_); (try simp only [Int.toNat_natCast, etas, elDef]); first | done | omega | grind | (simp only [*]; done) | (simp [*]; done)))); (all_goals (conv => whnf)); (repeat' (first | exact trivial | rfl | (refine nilEq ?_; first | rfl | (simp only [*]; done) | (simp [*]; done) | grind) | apply And.intro | ((first | refine intEq ?_ | refine boolEq ?_ | refine strEq ?_ | refine psEq ?_ | refine nilEq ?_ | refine arrEq ?_); (try simp only [Int.toNat_natCast, etas, elDef]); first | done | omega | grind | (simp only [*]; done) | (simp [*]; done)) | ((try simp only [Int.toNat_natCast, etas, elDef]); first | done | omega | grind | (simp only [*]; done) | (simp [*]; done))))
    rintro i ⟨hi, hj⟩
    conv => whnf
    have hl := fillD_len default s.items hi
    have hset := fun h => fillD_set default s.items (k := i) h
    repeat' first
      | (refine Cnd.mk (fun h => ?_) (fun h => ?_) <;> (try simp [etas, elDef, -List.getD_eq_getElem?_getD] at h) <;> conv => whnf)
      | (refine Obl.mk (by first | omega | rfl | exact inK_byte _ | (simp only [inK, Int.toNat_natCast, etas, elDef] <;> first | omega | grind) | grind [inK]) ?_ <;> conv => whnf)
      | (refine OblG.mk (by conv => whnf
                            repeat (first | (refine Bx.mk ?_) | (intro h; (try simp [etas, elDef, -List.getD_eq_getElem?_getD] at h); conv => whnf))
                            first | omega | rfl | exact inK_byte _ | (simp only [inK, Int.toNat_natCast, etas, elDef] <;> first | omega | grind) | grind [inK]) ?_ <;> conv => whnf)
      | (refine Gd.mk (fun h => ?_) <;> (try simp [etas, elDef, -List.getD_eq_getElem?_getD] at h) <;> conv => whnf)
      | (refine And.intro ?_ ?_ <;> conv => whnf)
      | exact True.intro
      | (intro; conv => whnf)
    · exact ⟨i + 1, [], [], ⟨by omega, by grind⟩, by omega, by (conv => whnf); (repeat' (first | exact trivial | rfl | (refine nilEq ?_; first | rfl | (simp only [*]; done) | (simp [*]; done) | grind) | apply And.intro | ((first | refine intEq ?_ | refine boolEq ?_ | refine strEq ?_ | refine psEq ?_ | refine nilEq ?_ | refine arrEq ?_); (try simp only [Int.toNat_natCast, etas, elDef]); first | done | omega | grind | (simp only [*]; done) | (simp [*]; done)))); (all_goals (conv => whnf)); (repeat' (first | exact trivial | rfl | (refine nilEq ?_; first | rfl | (simp only [*]; done) | (simp [*]; done) | grind) | apply And.intro | ((first | refine intEq ?_ | refine boolEq ?_ | refine strEq ?_ | refine psEq ?_ | refine nilEq ?_ | refine arrEq ?_); (try simp only [Int.toNat_natCast, etas, elDef]); first | done | omega | grind | (simp only [*]; done) | (simp [*]; done)) | ((try simp only [Int.toNat_natCast, etas, elDef]); first | done | omega | grind | (simp only [*]; done) | (simp [*]; done)))), (by exact sgOk_of (by rfl))⟩
    · exact leafV hK (by simp_all [fillD_all default s.items ‹s.items.length ≤ i›])
  · exact leafV hK (by simp_all)
theorem s26 : (CtrOK Try.prog 26 (.gen .ow C26) ∧ Callable Try.prog 26) := by
  refine gen_ok (E := E26) (mkE_cons s39 (mkE_nil tab_ok)) mix (O := O26) (C := C26) (own := .ow) Try.func26 rfl (by rfl) (by kernel_rfl) (fun args K h hbd => ?_)
  unfold C26 at h; split at h
  case h_2 => exact h.elim
  exact ⟨Nat.le_of_ble_eq_true rfl, a26 ⟨_, _⟩ (by exact hbd) _ h⟩
end Go.Rs

