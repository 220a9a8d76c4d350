import Derived.Test.YtbaknkjebncbbaaCF
import Derived.Test.YtbaknkjebncbbaaMB
set_option linter.all false
namespace Go.Rs
open Go.Proofs
set_option maxRecDepth 100000
set_option linter.unusedVariables false
set_option linter.unusedSimpArgs false
noncomputable def v69 (l : List It) (b : Bs) : AV := .tup [.int .i64 (lbI l b), .bool (foundI l b)]
noncomputable def o69 (l : List It) (b : Bs) : Prop := sortedI l
noncomputable def F69 : List AV → QR
  | [.ps .item l, .str b, .fn 70 []] => some (some (o69 l b), v69 l b)
  | _ => none
noncomputable def E69 : Ctx := mkE tab [(70, .pure F70)]
noncomputable def O69 : Nat → List DI := ordL []
theorem a69 (l : List It) (b : Bs) (hb : BdAs [.ps .item l, .str b, .fn 70 []]) (ho : o69 l b) (K : AV → List AV → Prop) (hK : K (v69 l b) []) : abody E69 O69 .ps Try.f69 (Try.f69.body.getD .skip) [.ps .item l, .str b, .fn 70 []] K := by
  simp only [BdAs, BdA, BdL, BdC, MX, ndC, shC, itC, stC, opC, chC, nwC, flC, rqC, rsC, enc, List.cons_append, List.nil_append, and_true, true_and] at hb
  unfold o69 at ho
  unfold v69 at hK
  have hle := lbI_le l b
  conv => whnf
  refine aloop_intro (Nat × Nat) (fun p => p.1 ≤ lbI l b ∧ lbI l b ≤ p.2 ∧ p.2 ≤ l.length) (fun p => p.2 - p.1) (fun p => [(9, .int .i64 p.1), (10, .int .i64 p.2)]) (fun _ => []) [] (0, l.length) [] [] ?_ ?_ (by exact sgOk_of (by rfl)) ?_
  · simp; exact hle
  · (conv => whnf); (repeat' (first | exact trivial | rfl | (refine nilEq ?_; first | rfl | (simp only [*]; done) | (simp [*]; done) | grind) | apply And.intro | ((first | refine intEq ?_ | refine boolEq ?_ | refine strEq ?_ | refine psEq ?_ | refine nilEq ?_ | refine arrEq ?_); (try simp only [Int.toNat_natCast, etas, elDef]); first | done | omega | grind | (simp only [*]; done) | (simp [*]; done)))); (all_goals (conv => whnf)); (repeat' (first | exact trivial | rfl | (refine nilEq ?_; first | rfl | (simp only [*]; done) | (simp [*]; done) | grind) | apply And.intro | ((first | refine intEq ?_ | refine boolEq ?_ | refine strEq ?_ | refine psEq ?_ | refine nilEq ?_ | refine arrEq ?_); (try simp only [Int.toNat_natCast, etas, elDef]); first | done | omega | grind | (simp only [*]; done) | (simp [*]; done)) | ((try simp only [Int.toNat_natCast, etas, elDef]); first | done | omega | grind | (simp only [*]; done) | (simp [*]; done))))
  rintro ⟨i, j⟩ ⟨h1, h2, h3⟩
  dsimp only at h1 h2 h3
  conv => whnf
  repeat' first
    | (refine Cnd.mk (fun h => ?_) (fun h => ?_) <;> (try simp [etas, elDef, -List.getD_eq_getElem?_getD] at h) <;> conv => whnf)
    | (refine Obl.mk (by first | omega | rfl | exact inK_byte _ | (simp only [inK, Int.toNat_natCast, etas, elDef] <;> first | omega | grind) | grind [inK]) ?_ <;> conv => whnf)
    | (refine OblG.mk (by conv => whnf
                          repeat (first | (refine Bx.mk ?_) | (intro h; (try simp [etas, elDef, -List.getD_eq_getElem?_getD] at h); conv => whnf))
                          first | omega | rfl | exact inK_byte _ | (simp only [inK, Int.toNat_natCast, etas, elDef] <;> first | omega | grind) | grind [inK]) ?_ <;> conv => whnf)
    | (refine Gd.mk (fun h => ?_) <;> (try simp [etas, elDef, -List.getD_eq_getElem?_getD] at h) <;> conv => whnf)
    | (refine And.intro ?_ ?_ <;> conv => whnf)
    | exact True.intro
    | (intro; conv => whnf)
  · have e : ((i + j : Int) / 2).toNat = (i + j) / 2 := by omega
    have h := of_decide_eq_true h
    rw [e, cmp_lt] at h
    have h4 := lbI_gt ho (by omega) h
    exact ⟨((i + j) / 2 + 1, j), [], [], ⟨by simp only; omega, by simp only; omega, by simp only; omega⟩, by simp only; omega, by (conv => whnf); (repeat' (first | exact trivial | rfl | (refine nilEq ?_; first | rfl | (simp only [*]; done) | (simp [*]; done) | grind) | apply And.intro | ((first | refine intEq ?_ | refine boolEq ?_ | refine strEq ?_ | refine psEq ?_ | refine nilEq ?_ | refine arrEq ?_); (try simp only [Int.toNat_natCast, etas, elDef]); (simp only; omega)))); (all_goals (conv => whnf)); (repeat' (first | exact trivial | rfl | (refine nilEq ?_; first | rfl | (simp only [*]; done) | (simp [*]; done) | grind) | apply And.intro | ((first | refine intEq ?_ | refine boolEq ?_ | refine strEq ?_ | refine psEq ?_ | refine nilEq ?_ | refine arrEq ?_); (try simp only [Int.toNat_natCast, etas, elDef]); (simp only; omega)) | ((try simp only [Int.toNat_natCast, etas, elDef]); (simp only; omega)))), (by exact sgOk_of (by rfl))⟩
  · have e : ((i + j : Int) / 2).toNat = (i + j) / 2 := by omega
    have h := of_decide_eq_false h
    rw [e, cmp_lt, Bool.not_eq_true] at h
    have h4 := lbI_ge h
    exact ⟨(i, (i + j) / 2), [], [], ⟨by simp only; omega, by simp only; omega, by simp only; omega⟩, by simp only; omega, by (conv => whnf); (repeat' (first | exact trivial | rfl | (refine nilEq ?_; first | rfl | (simp only [*]; done) | (simp [*]; done) | grind) | apply And.intro | ((first | refine intEq ?_ | refine boolEq ?_ | refine strEq ?_ | refine psEq ?_ | refine nilEq ?_ | refine arrEq ?_); (try simp only [Int.toNat_natCast, etas, elDef]); (simp only; omega)))); (all_goals (conv => whnf)); (repeat' (first | exact trivial | rfl | (refine nilEq ?_; first | rfl | (simp only [*]; done) | (simp [*]; done) | grind) | apply And.intro | ((first | refine intEq ?_ | refine boolEq ?_ | refine strEq ?_ | refine psEq ?_ | refine nilEq ?_ | refine arrEq ?_); (try simp only [Int.toNat_natCast, etas, elDef]); (simp only; omega)) | ((try simp only [Int.toNat_natCast, etas, elDef]); (simp only; omega)))), (by exact sgOk_of (by rfl))⟩
  · have e : i = lbI l b := by omega
    subst e
    refine leafV hK ?_
    simp only [foundI, Int.toNat_natCast, elDef, cmp_eq]
    simp
theorem s69 : (CtrOK Try.prog 69 (.pure F69) ∧ Callable Try.prog 69) := by
  refine pure_ok (E := E69) (mkE_cons s70 (mkE_nil tab_ok)) mix (O := O69) (F := F69) Try.func69 rfl (by rfl) (by kernel_rfl) (fun args o v h => ?_) (fun args o v h => ?_) (fun args o v h hbd hp K hK => ?_)
  · unfold F69 at h; split at h <;> cases h; first | trivial | (simp [v69, Scalar, Scalar2, Scalar1, stC, ndC, itC, chC, nwC])
  · unfold F69 at h; split at h <;> cases h; exact Nat.le_of_ble_eq_true rfl
  · unfold F69 at h; split at h
    case h_2 => cases h
    cases h
    exact a69 _ _ (by exact hbd) (hp _ rfl) K hK
noncomputable def v61 (l : List It) (b : Bs) : AV := .tup [.int .i64 (lbI l b), .bool (foundI l b)]
noncomputable def o61 (l : List It) (b : Bs) : Prop := sortedI l
noncomputable def F61 : List AV → QR
  | [.ps .item l, .str b] => some (some (o61 l b), v61 l b)
  | _ => none
noncomputable def E61 : Ctx := mkE tab [(69, .pure F69), (70, .pure F70)]
noncomputable def O61 : Nat → List DI := ordL []
theorem a61 (l : List It) (b : Bs) (hb : BdAs [.ps .item l, .str b]) (ho : o61 l b) (K : AV → List AV → Prop) (hK : K (v61 l b) []) : abody E61 O61 .ps Try.f61 (Try.f61.body.getD .skip) [.ps .item l, .str b] K := by
  simp only [BdAs, BdA, BdL, BdC, MX, ndC, shC, itC, stC, opC, chC, nwC, flC, rqC, rsC, enc, List.cons_append, List.nil_append, and_true, true_and] at hb
  unfold o61 at ho
  unfold v61 at hK
  conv => whnf
  repeat' first
    | (refine Cnd.mk (fun h => ?_) (fun h => ?_) <;> (try simp [etas, elDef, -List.getD_eq_getElem?_getD] at h) <;> conv => whnf)
    | (refine Obl.mk (by first | omega | rfl | exact inK_byte _ | (simp only [inK, Int.toNat_natCast, etas, elDef, o69] <;> first | omega | grind) | grind [inK, o69]) ?_ <;> conv => whnf)
    | (refine OblG.mk (by conv => whnf
                          repeat (first | (refine Bx.mk ?_) | (intro h; (try simp [etas, elDef, -List.getD_eq_getElem?_getD] at h); conv => whnf))
                          first | omega | rfl | exact inK_byte _ | (simp only [inK, Int.toNat_natCast, etas, elDef, o69] <;> first | omega | grind) | grind [inK, o69]) ?_ <;> conv => whnf)
    | (refine Gd.mk (fun h => ?_) <;> (try simp [etas, elDef, -List.getD_eq_getElem?_getD] at h) <;> conv => whnf)
    | (refine And.intro ?_ ?_ <;> conv => whnf)
    | exact True.intro
    | (intro; conv => whnf)
  exact hK
theorem s61 : (CtrOK Try.prog 61 (.pure F61) ∧ Callable Try.prog 61) := by
  refine pure_ok (E := E61) (mkE_cons s69 (mkE_cons s70 (mkE_nil tab_ok))) mix (O := O61) (F := F61) Try.func61 rfl (by rfl) (by kernel_rfl) (fun args o v h => ?_) (fun args o v h => ?_) (fun args o v h hbd hp K hK => ?_)
  · unfold F61 at h; split at h <;> cases h; first | trivial | (simp [v61, Scalar, Scalar2, Scalar1, stC, ndC, itC, chC, nwC])
  · unfold F61 at h; split at h <;> cases h; exact Nat.le_of_ble_eq_true rfl
  · unfold F61 at h; split at h
    case h_2 => cases h
    cases h
    exact a61 _ _ (by exact hbd) (hp _ rfl) K hK
noncomputable def c64 (n : Nd) (K : AV → List AV → Prop) : Prop :=
    Obl (smN n) (K (.st [.int .i64 n.kind, .int .i64 n.num, .str n.text, .own .str n.names, .own .node n.kids]) [])
noncomputable def m64 (n : Nd) : Nat := SizeOf.sizeOf n
noncomputable def C64 : List AV → (AV → List AV → Prop) → Prop
  | [.st [.int .i64 n_0, .int .i64 n_1, .str n_2, .ps .str n_3, .ps .node n_4]], K => c64 ⟨n_0, n_1, n_2, n_3, n_4⟩ K
  | _, _ => False
noncomputable def Ck64 (k : Nat) : List AV → (AV → List AV → Prop) → Prop
  | [.st [.int .i64 n_0, .int .i64 n_1, .str n_2, .ps .str n_3, .ps .node n_4]], K => Obl (m64 ⟨n_0, n_1, n_2, n_3, n_4⟩ < k) (c64 ⟨n_0, n_1, n_2, n_3, n_4⟩ K)
  | _, _ => False
noncomputable def E64 (k : Nat) : Ctx := mkE tab [(64, .gen .ow (Ck64 k))]
noncomputable def O64 : Nat → List DI := ordL [(10, [.q 0, .q 1, .q 2, .q 3, .l 4 [1], .q 5, .l 6 []])]
theorem a64 (k : Nat) (n : Nd) (hm : m64 n < k + 1) (hb : BdAs [.st (ndC n)]) (K : AV → List AV → Prop) (h : c64 n K) : abody (E64 k) O64 .ow Try.f64 (Try.f64.body.getD .skip) [.st (ndC n)] K := by
  simp only [BdAs, BdA, BdL, BdC, MX, ndC, shC, itC, stC, opC, chC, nwC, flC, rqC, rsC, enc, List.cons_append, List.nil_append, and_true, true_and] at hb
  unfold c64 at h
  unfold m64 at hm
  obtain ⟨hs, hK⟩ := h
  have hkid : ∀ j, j < n.kids.length → SizeOf.sizeOf (n.kids.getD j default) < k ∧ smN (n.kids.getD j default) := fun j hj => ⟨by have := kid_size hj; omega, hs.kid hj⟩
  have h3 := hs.kids
  have h2 := hs.names
  conv => whnf
  repeat' first
    | (refine Cnd.mk (fun h => ?_) (fun h => ?_) <;> (try simp [etas, elDef, -List.getD_eq_getElem?_getD] at h) <;> conv => whnf)
    | (refine Obl.mk (by first | omega | rfl | exact inK_byte _ | (simp only [inK, Int.toNat_natCast, etas, elDef, m64, m64] <;> first | omega | grind) | grind [inK, m64, m64]) ?_ <;> conv => whnf)
    | (refine OblG.mk (by conv => whnf
                          repeat (first | (refine Bx.mk ?_) | (intro h; (try simp [etas, elDef, -List.getD_eq_getElem?_getD] at h); conv => whnf))
                          first | omega | rfl | exact inK_byte _ | (simp only [inK, Int.toNat_natCast, etas, elDef, m64, m64] <;> first | omega | grind) | grind [inK, m64, m64]) ?_ <;> conv => whnf)
    | (refine Gd.mk (fun h => ?_) <;> (try simp [etas, elDef, -List.getD_eq_getElem?_getD] at h) <;> conv => whnf)
    | (refine And.intro ?_ ?_ <;> conv => whnf)
    | exact True.intro
    | (intro; conv => whnf)
  · refine aloop_intro Nat (fun k => k ≤ n.kids.length ∧ True) (fun k => n.kids.length - k) (fun k => [(39, .int .i64 k)]) (fun k => [(34, .arr .node (fillD default n.kids k))]) [1, 2, 3, 20] 0 [] [] ?_ ?_ (by exact sgOk_of (by rfl)) ?_
    · first | (simp; done) | (simp; assumption)
    · (conv => whnf); (repeat' (first | exact trivial | rfl | (refine nilEq ?_; first | rfl | (simp only [*]; done) | (simp [*]; done) | grind) | apply And.intro | ((first | refine intEq ?_ | refine boolEq ?_ | refine strEq ?_ | refine psEq ?_ | refine nilEq ?_ | refine arrEq ?_); (try simp only [Int.toNat_natCast, etas, elDef]); first | done | omega | grind | (simp only [*]; done) | (simp [*]; done)))); (all_goals (conv => whnf)); (repeat' (first | exact trivial | rfl | (refine nilEq ?_; first | rfl | (simp only [*]; done) | (simp [*]; done) | grind) | apply And.intro | ((first | refine intEq ?_ | refine boolEq ?_ | refine strEq ?_ | refine psEq ?_ | refine nilEq ?_ | refine arrEq ?_); (try simp only [Int.toNat_natCast, etas, elDef]); first | done | omega | grind | (simp only [*]; done) | (simp [*]; done)) | ((try simp only [Int.toNat_natCast, etas, elDef]); first | done | omega | grind | (simp only [*]; done) | (simp [*]; done))))
    rintro i ⟨hi, hj⟩
    conv => whnf
    have hl := fillD_len default n.kids hi
    have hset := fun h => fillD_set default n.kids (k := i) h
    repeat' first
      | (refine Cnd.mk (fun h => ?_) (fun h => ?_) <;> (try simp [etas, elDef, -List.getD_eq_getElem?_getD] at h) <;> conv => whnf)
      | (refine Obl.mk (by first | omega | rfl | exact inK_byte _ | (simp only [inK, Int.toNat_natCast, etas, elDef, m64, m64] <;> first | omega | grind) | grind [inK, m64, m64]) ?_ <;> conv => whnf)
      | (refine OblG.mk (by conv => whnf
                            repeat (first | (refine Bx.mk ?_) | (intro h; (try simp [etas, elDef, -List.getD_eq_getElem?_getD] at h); conv => whnf))
                            first | omega | rfl | exact inK_byte _ | (simp only [inK, Int.toNat_natCast, etas, elDef, m64, m64] <;> first | omega | grind) | grind [inK, m64, m64]) ?_ <;> conv => whnf)
      | (refine Gd.mk (fun h => ?_) <;> (try simp [etas, elDef, -List.getD_eq_getElem?_getD] at h) <;> conv => whnf)
      | (refine And.intro ?_ ?_ <;> conv => whnf)
      | exact True.intro
      | (intro; conv => whnf)
    · exact ⟨i + 1, [], [], ⟨by omega, by grind⟩, by omega, by (conv => whnf); (repeat' (first | exact trivial | rfl | (refine nilEq ?_; first | rfl | (simp only [*]; done) | (simp [*]; done) | grind) | apply And.intro | ((first | refine intEq ?_ | refine boolEq ?_ | refine strEq ?_ | refine psEq ?_ | refine nilEq ?_ | refine arrEq ?_); (try simp only [Int.toNat_natCast, etas, elDef]); first | done | omega | grind | (simp only [*]; done) | (simp [*]; done)))); (all_goals (conv => whnf)); (repeat' (first | exact trivial | rfl | (refine nilEq ?_; first | rfl | (simp only [*]; done) | (simp [*]; done) | grind) | apply And.intro | ((first | refine intEq ?_ | refine boolEq ?_ | refine strEq ?_ | refine psEq ?_ | refine nilEq ?_ | refine arrEq ?_); (try simp only [Int.toNat_natCast, etas, elDef]); first | done | omega | grind | (simp only [*]; done) | (simp [*]; done)) | ((try simp only [Int.toNat_natCast, etas, elDef]); first | done | omega | grind | (simp only [*]; done) | (simp [*]; done)))), (by exact sgOk_of (by rfl))⟩
    · exact leafV hK (by simp_all [fillD_all default n.kids ‹n.kids.length ≤ i›])
  · exact leafV hK (by simp [h])
  · refine aloop_intro Nat (fun k => k ≤ n.kids.length ∧ True) (fun k => n.kids.length - k) (fun k => [(39, .int .i64 k)]) (fun k => [(34, .arr .node (fillD default n.kids k))]) [1, 2, 3] 0 [] [] ?_ ?_ (by exact sgOk_of (by rfl)) ?_
    · first | (simp; done) | (simp; assumption)
    · (conv => whnf); (repeat' (first | exact trivial | rfl | (refine nilEq ?_; first | rfl | (simp only [*]; done) | (simp [*]; done) | grind) | apply And.intro | ((first | refine intEq ?_ | refine boolEq ?_ | refine strEq ?_ | refine psEq ?_ | refine nilEq ?_ | refine arrEq ?_); (try simp only [Int.toNat_natCast, etas, elDef]); first | done | omega | grind | (simp only [*]; done) | (simp [*]; done)))); (all_goals (conv => whnf)); (repeat' (first | exact trivial | rfl | (refine nilEq ?_; first | rfl | (simp only [*]; done) | (simp [*]; done) | grind) | apply And.intro | ((first | refine intEq ?_ | refine boolEq ?_ | refine strEq ?_ | refine psEq ?_ | refine nilEq ?_ | refine arrEq ?_); (try simp only [Int.toNat_natCast, etas, elDef]); first | done | omega | grind | (simp only [*]; done) | (simp [*]; done)) | ((try simp only [Int.toNat_natCast, etas, elDef]); first | done | omega | grind | (simp only [*]; done) | (simp [*]; done))))
    rintro i ⟨hi, hj⟩
    conv => whnf
    have hl := fillD_len default n.kids hi
    have hset := fun h => fillD_set default n.kids (k := i) h
    repeat' first
      | (refine Cnd.mk (fun h => ?_) (fun h => ?_) <;> (try simp [etas, elDef, -List.getD_eq_getElem?_getD] at h) <;> conv => whnf)
      | (refine Obl.mk (by first | omega | rfl | exact inK_byte _ | (simp only [inK, Int.toNat_natCast, etas, elDef, m64, m64] <;> first | omega | grind) | grind [inK, m64, m64]) ?_ <;> conv => whnf)
      | (refine OblG.mk (by conv => whnf
                            repeat (first | (refine Bx.mk ?_) | (intro h; (try simp [etas, elDef, -List.getD_eq_getElem?_getD] at h); conv => whnf))
                            first | omega | rfl | exact inK_byte _ | (simp only [inK, Int.toNat_natCast, etas, elDef, m64, m64] <;> first | omega | grind) | grind [inK, m64, m64]) ?_ <;> conv => whnf)
      | (refine Gd.mk (fun h => ?_) <;> (try simp [etas, elDef, -List.getD_eq_getElem?_getD] at h) <;> conv => whnf)
      | (refine And.intro ?_ ?_ <;> conv => whnf)
      | exact True.intro
      | (intro; conv => whnf)
    · exact ⟨i + 1, [], [], ⟨by omega, by grind⟩, by omega, by (conv => whnf); (repeat' (first | exact trivial | rfl | (refine nilEq ?_; first | rfl | (simp only [*]; done) | (simp [*]; done) | grind) | apply And.intro | ((first | refine intEq ?_ | refine boolEq ?_ | refine strEq ?_ | refine psEq ?_ | refine nilEq ?_ | refine arrEq ?_); (try simp only [Int.toNat_natCast, etas, elDef]); first | done | omega | grind | (simp only [*]; done) | (simp [*]; done)))); (all_goals (conv => whnf)); (repeat' (first | exact trivial | rfl | (refine nilEq ?_; first | rfl | (simp only [*]; done) | (simp [*]; done) | grind) | apply And.intro | ((first | refine intEq ?_ | refine boolEq ?_ | refine strEq ?_ | refine psEq ?_ | refine nilEq ?_ | refine arrEq ?_); (try simp only [Int.toNat_natCast, etas, elDef]); first | done | omega | grind | (simp only [*]; done) | (simp [*]; done)) | ((try simp only [Int.toNat_natCast, etas, elDef]); first | done | omega | grind | (simp only [*]; done) | (simp [*]; done)))), (by exact sgOk_of (by rfl))⟩
    · exact leafV hK (by simp_all [fillD_all default n.kids ‹n.kids.length ≤ i›])
  · exact leafV hK (by simp_all)
theorem r64 : ∀ k, (CtrOK Try.prog 64 (.gen .ow (Ck64 k)) ∧ Callable Try.prog 64) := by
  intro k
  induction k with
  | zero =>
    exact ⟨fun args K h => by
        unfold Ck64 at h; split at h
        · exact absurd h.o (Nat.not_lt_zero _)
        · exact h.elim, callable Try.func64 rfl (by rfl)⟩
  | succ k ih =>
    refine gen_ok (E := E64 k) (mkE_cons ih (mkE_nil tab_ok)) mix (O := O64) (C := (Ck64 (k + 1))) (own := .ow) Try.func64 rfl (by rfl) (by kernel_rfl) (fun args K h hbd => ?_)
    unfold Ck64 at h; split at h
    case h_2 => exact h.elim
    exact ⟨Nat.le_of_ble_eq_true rfl, a64 k ⟨_, _, _, _, _⟩ h.o (by exact hbd) _ h.k⟩
theorem s64 : (CtrOK Try.prog 64 (.gen .ow C64) ∧ Callable Try.prog 64) := by
  refine ⟨fun args K h => ?_, (r64 0).2⟩
  unfold C64 at h; split at h
  · exact (r64 (m64 ⟨_, _, _, _, _⟩ + 1)).1 _ K ⟨Nat.lt_succ_self _, h⟩
  · exact h.elim
noncomputable def c56 (x : It) (K : AV → List AV → Prop) : Prop :=
    Obl (smN x.node) (K (.st (itC x)) [])
noncomputable def C56 : List AV → (AV → List AV → Prop) → Prop
  | [.st [.str x_0, .int .i64 x_1, .int .i64 x_2_0, .int .i64 x_2_1, .str x_2_2, .ps .str x_2_3, .ps .node x_2_4]], K => c56 ⟨x_0, x_1, ⟨x_2_0, x_2_1, x_2_2, x_2_3, x_2_4⟩⟩ K
  | _, _ => False
noncomputable def E56 : Ctx := mkE tab [(64, .gen .ow C64)]
noncomputable def O56 : Nat → List DI := ordL [(1, [.q 0, .q 1, .q 2, .q 3, .q 4, .q 5, .l 6 [1, 3], .q 7, .l 8 []])]
theorem a56 (x : It) (hb : BdAs [.st (itC x)]) (K : AV → List AV → Prop) (h : c56 x K) : abody E56 O56 .ps Try.f56 (Try.f56.body.getD .skip) [.st (itC x)] K := by
  simp only [BdAs, BdA, BdL, BdC, MX, ndC, shC, itC, stC, opC, chC, nwC, flC, rqC, rsC, enc, List.cons_append, List.nil_append, and_true, true_and] at hb
  unfold c56 at h
  obtain ⟨hs, hK⟩ := h
  conv => whnf
  repeat' first
    | (refine Cnd.mk (fun h => ?_) (fun h => ?_) <;> (try simp [etas, elDef, -List.getD_eq_getElem?_getD] at h) <;> conv => whnf)
    | (refine Obl.mk (by first | omega | rfl | exact inK_byte _ | (simp only [inK, Int.toNat_natCast, etas, elDef, m64] <;> first | omega | grind) | grind [inK, m64]) ?_ <;> conv => whnf)
    | (refine OblG.mk (by conv => whnf
                          repeat (first | (refine Bx.mk ?_) | (intro h; (try simp [etas, elDef, -List.getD_eq_getElem?_getD] at h); conv => whnf))
                          first | omega | rfl | exact inK_byte _ | (simp only [inK, Int.toNat_natCast, etas, elDef, m64] <;> first | omega | grind) | grind [inK, m64]) ?_ <;> conv => whnf)
    | (refine Gd.mk (fun h => ?_) <;> (try simp [etas, elDef, -List.getD_eq_getElem?_getD] at h) <;> conv => whnf)
    | (refine And.intro ?_ ?_ <;> conv => whnf)
    | exact True.intro
    | (intro; conv => whnf)
  all_goals exact leafV hK rfl
theorem s56 : (CtrOK Try.prog 56 (.gen .ps C56) ∧ Callable Try.prog 56) := by
  refine gen_ok (E := E56) (mkE_cons s64 (mkE_nil tab_ok)) mix (O := O56) (C := C56) (own := .ps) Try.func56 rfl (by rfl) (by kernel_rfl) (fun args K h hbd => ?_)
  unfold C56 at h; split at h
  case h_2 => exact h.elim
  exact ⟨Nat.le_of_ble_eq_true rfl, a56 ⟨_, _, ⟨_, _, _, _, _⟩⟩ (by exact hbd) _ h⟩
noncomputable def c44 (s : Sto) (K : AV → List AV → Prop) : Prop :=
    Obl (smS s) (K (.st [.own .item s.items, .int .i64 s.clock]) [])
noncomputable def C44 : List AV → (AV → List AV → Prop) → Prop
  | [.st [.ps .item s_0, .int .i64 s_1]], K => c44 ⟨s_0, s_1⟩ K
  | _, _ => False
noncomputable def E44 : Ctx := mkE tab [(56, .gen .ps C56)]
noncomputable def O44 : Nat → List DI := ordL [(7, [.q 0, .q 1, .q 2, .q 3, .l 4 [1], .q 5, .l 6 []])]
theorem a44 (s : Sto) (hb : BdAs [.st (stC s)]) (K : AV → List AV → Prop) (h : c44 s K) : abody E44 O44 .ow Try.f44 (Try.f44.body.getD .skip) [.st (stC s)] K := by
  simp only [BdAs, BdA, BdL, BdC, MX, ndC, shC, itC, stC, opC, chC, nwC, flC, rqC, rsC, enc, List.cons_append, List.nil_append, and_true, true_and] at hb
  unfold c44 at h
  obtain ⟨hs, hK⟩ := h
  have hit : ∀ j, j < s.items.length → smN (s.items.getD j default).node := fun j hj => hs.item hj
  have h3 := hs.1
  conv => whnf
  repeat' first
    | (refine Cnd.mk (fun h => ?_) (fun h => ?_) <;> (try simp [etas, elDef, -List.getD_eq_getElem?_getD] at h) <;> conv => whnf)
    | (refine Obl.mk (by first | omega | rfl | exact inK_byte _ | (simp only [inK, Int.toNat_natCast, etas, elDef] <;> first | omega | grind) | grind [inK]) ?_ <;> conv => whnf)
    | (refine OblG.mk (by conv => whnf
                          repeat (first | (refine Bx.mk ?_) | (intro h; (try simp [etas, elDef, -List.getD_eq_getElem?_getD] at h); conv => whnf))
                          first | omega | rfl | exact inK_byte _ | (simp only [inK, Int.toNat_natCast, etas, elDef] <;> first | omega | grind) | grind [inK]) ?_ <;> conv => whnf)
    | (refine Gd.mk (fun h => ?_) <;> (try simp [etas, elDef, -List.getD_eq_getElem?_getD] at h) <;> conv => whnf)
    | (refine And.intro ?_ ?_ <;> conv => whnf)
    | exact True.intro
    | (intro; conv => whnf)
  · refine aloop_intro Nat (fun k => k ≤ s.items.length ∧ True) (fun k => s.items.length - k) (fun k => [(21, .int .i64 k)]) (fun k => [(16, .arr .item (fillD default s.items k))]) [1, 2, 3] 0 [] [] ?_ ?_ (by exact sgOk_of (by rfl)) ?_
    · first | (simp; done) | (simp; assumption)
    · (conv => whnf); (repeat' (first | exact trivial | rfl | (refine nilEq ?_; first | rfl | (simp only [*]; done) | (simp [*]; done) | grind) | apply And.intro | ((first | refine intEq ?_ | refine boolEq ?_ | refine strEq ?_ | refine psEq ?_ | refine nilEq ?_ | refine arrEq ?_); (try simp only [Int.toNat_natCast, etas, elDef]); first | done | omega | grind | (simp only [*]; done) | (simp [*]; done)))); (all_goals (conv => whnf)); (repeat' (first | exact trivial | rfl | (refine nilEq ?_; first | rfl | (simp only [*]; done) | (simp [*]; done) | grind) | apply And.intro | ((first | refine intEq ?_ | refine boolEq ?_ | refine strEq ?_ | refine psEq ?_ | refine nilEq ?_ | refine arrEq ?_); (try simp only [Int.toNat_natCast, etas, elDef]); first | done | omega | grind | (simp only [*]; done) | (simp [*]; done)) | ((try simp only [Int.toNat_natCast, etas, elDef]); first | done | omega | grind | (simp only [*]; done) | (simp [*]; done))))
    rintro i ⟨hi, hj⟩
    conv => whnf
    have hl := fillD_len default s.items hi
    have hset := fun h => fillD_set default s.items (k := i) h
    repeat' first
      | (refine Cnd.mk (fun h => ?_) (fun h => ?_) <;> (try simp [etas, elDef, -List.getD_eq_getElem?_getD] at h) <;> conv => whnf)
      | (refine Obl.mk (by first | omega | rfl | exact inK_byte _ | (simp only [inK, Int.toNat_natCast, etas, elDef] <;> first | omega | grind) | grind [inK]) ?_ <;> conv => whnf)
      | (refine OblG.mk (by conv => whnf
                            repeat (first | (refine Bx.mk ?_) | (intro h; (try simp [etas, elDef, -List.getD_eq_getElem?_getD] at h); conv => whnf))
                            first | omega | rfl | exact inK_byte _ | (simp only [inK, Int.toNat_natCast, etas, elDef] <;> first | omega | grind) | grind [inK]) ?_ <;> conv => whnf)
      | (refine Gd.mk (fun h => ?_) <;> (try simp [etas, elDef, -List.getD_eq_getElem?_getD] at h) <;> conv => whnf)
      | (refine And.intro ?_ ?_ <;> conv => whnf)
      | exact True.intro
      | (intro; conv => whnf)
    · exact ⟨i + 1, [], [], ⟨by omega, by grind⟩, by omega, by (conv => whnf); (repeat' (first | exact trivial | rfl | (refine nilEq ?_; first | rfl | (simp only [*]; done) | (simp [*]; done) | grind) | apply And.intro | ((first | refine intEq ?_ | refine boolEq ?_ | refine strEq ?_ | refine psEq ?_ | refine nilEq ?_ | refine arrEq ?_); (try simp only [Int.toNat_natCast, etas, elDef]); first | done | omega | grind | (simp only [*]; done) | (simp [*]; done)))); (all_goals (conv => whnf)); (repeat' (first | exact trivial | rfl | (refine nilEq ?_; first | rfl | (simp only [*]; done) | (simp [*]; done) | grind) | apply And.intro | ((first | refine intEq ?_ | refine boolEq ?_ | refine strEq ?_ | refine psEq ?_ | refine nilEq ?_ | refine arrEq ?_); (try simp only [Int.toNat_natCast, etas, elDef]); first | done | omega | grind | (simp only [*]; done) | (simp [*]; done)) | ((try simp only [Int.toNat_natCast, etas, elDef]); first | done | omega | grind | (simp only [*]; done) | (simp [*]; done)))), (by exact sgOk_of (by rfl))⟩
    · exact leafV hK (by simp_all [fillD_all default s.items ‹s.items.length ≤ i›])
  · exact leafV hK (by simp_all)
theorem s44 : (CtrOK Try.prog 44 (.gen .ow C44) ∧ Callable Try.prog 44) := by
  refine gen_ok (E := E44) (mkE_cons s56 (mkE_nil tab_ok)) mix (O := O44) (C := C44) (own := .ow) Try.func44 rfl (by rfl) (by kernel_rfl) (fun args K h hbd => ?_)
  unfold C44 at h; split at h
  case h_2 => exact h.elim
  exact ⟨Nat.le_of_ble_eq_true rfl, a44 ⟨_, _⟩ (by exact hbd) _ h⟩
end Go.Rs

