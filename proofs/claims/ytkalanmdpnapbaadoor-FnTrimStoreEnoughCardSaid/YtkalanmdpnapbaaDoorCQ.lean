import Derived.Test.YtkalanmdpnapbaaDoorCP
set_option linter.all false
namespace Go.Rs
open Go.Proofs
set_option maxRecDepth 100000
set_option linter.unusedVariables false
set_option linter.unusedSimpArgs false
noncomputable def c112 (n : Nd) (p : List Bs) (K : AV → List AV → Prop) : Prop :=
    Obl (okN n) (K (optN (findM n p)) [])
noncomputable def C112 : List AV → (AV → List AV → Prop) → Prop
  | [.st [.int .i64 n_0, .int .i64 n_1, .str n_2, .ps .str n_3, .ps .node n_4], .ps .str p], K => c112 ⟨n_0, n_1, n_2, n_3, n_4⟩ p K
  | _, _ => False
noncomputable def E112 : Ctx := mkE tab [(67, .gen .ps C67), (108, .pure F108)]
noncomputable def O112 : Nat → List DI := ordL [(4, [.q 0, .q 1, .q 2, .q 3, .q 4, .q 5, .q 6])]
theorem a112 (n : Nd) (p : List Bs) (hb : BdAs [.st (ndC n), .ps .str p]) (K : AV → List AV → Prop) (h : c112 n p K) : abody E112 O112 .ps Tryd.f112 (Tryd.f112.body.getD .skip) [.st (ndC n), .ps .str p] K := by
  simp only [BdAs, BdA, BdL, BdC, MX, ndC, shC, itC, stC, opC, chC, nwC, flC, rqC, rsC, enc, List.cons_append, List.nil_append, and_true, true_and] at hb
  unfold c112 at h
  obtain ⟨ho, hK⟩ := h
  conv => whnf
  repeat' first
    | (refine Cnd.mk (fun h => ?_) (fun h => ?_) <;> (try simp [etas, elDef, -List.getD_eq_getElem?_getD] at h) <;> conv => whnf)
    | (refine Obl.mk (by first | omega | rfl | exact inK_byte _ | (simp only [inK, Int.toNat_natCast, etas, elDef, m67, o108] <;> first | omega | grind) | grind [inK, m67, o108]) ?_ <;> conv => whnf)
    | (refine OblG.mk (by conv => whnf
                          repeat (first | (refine Bx.mk ?_) | (intro h; (try simp [etas, elDef, -List.getD_eq_getElem?_getD] at h); conv => whnf))
                          first | omega | rfl | exact inK_byte _ | (simp only [inK, Int.toNat_natCast, etas, elDef, m67, o108] <;> first | omega | grind) | grind [inK, m67, o108]) ?_ <;> conv => whnf)
    | (refine Gd.mk (fun h => ?_) <;> (try simp [etas, elDef, -List.getD_eq_getElem?_getD] at h) <;> conv => whnf)
    | (refine And.intro ?_ ?_ <;> conv => whnf)
    | exact True.intro
    | (intro; conv => whnf)
  refine aloop_intro (Nat × Nd) (fun q => q.1 ≤ p.length ∧ okN q.2 ∧ findM n p = findM q.2 (p.drop q.1)) (fun q => p.length - q.1) (fun q => [(6, .int .i64 q.1)]) (fun q => [(2, .box (ndC q.2))]) [4] (0, n) [] [] ⟨Nat.zero_le _, ho, rfl⟩ ?_ (by exact sgOk_of (by rfl)) ?_
  · (conv => whnf); (repeat' (first | exact trivial | rfl | (refine nilEq ?_; first | rfl | (simp only [*]; done) | (simp [*]; done) | grind) | apply And.intro | ((first | refine intEq ?_ | refine boolEq ?_ | refine strEq ?_ | refine psEq ?_ | refine nilEq ?_ | refine arrEq ?_); (try simp only [Int.toNat_natCast, etas, elDef]); first | done | omega | grind | (simp only [*]; done) | (simp [*]; done)))); (all_goals (conv => whnf)); (repeat' (first | exact trivial | rfl | (refine nilEq ?_; first | rfl | (simp only [*]; done) | (simp [*]; done) | grind) | apply And.intro | ((first | refine intEq ?_ | refine boolEq ?_ | refine strEq ?_ | refine psEq ?_ | refine nilEq ?_ | refine arrEq ?_); (try simp only [Int.toNat_natCast, etas, elDef]); first | done | omega | grind | (simp only [*]; done) | (simp [*]; done)) | ((try simp only [Int.toNat_natCast, etas, elDef]); first | done | omega | grind | (simp only [*]; done) | (simp [*]; done))))
  rintro ⟨i, m⟩ ⟨hi, hm, hj⟩
  dsimp only at hi hm hj
  have hst := fun h => findM_drop (n := m) (p := p) (i := i) h
  have hpl := placeM_ge m (p.getD i [])
  have h6 := okN_kids hm
  have h5 := (okN_names hm).2.1
  have hsm := hm.sm
  conv => whnf
  repeat' first
    | (refine Cnd.mk (fun h => ?_) (fun h => ?_) <;> (try simp [etas, elDef, -List.getD_eq_getElem?_getD] at h) <;> conv => whnf)
    | (refine Obl.mk (by first | omega | rfl | exact inK_byte _ | (simp only [inK, Int.toNat_natCast, etas, elDef, m67, o108] <;> first | omega | grind) | grind [inK, m67, o108]) ?_ <;> conv => whnf)
    | (refine OblG.mk (by conv => whnf
                          repeat (first | (refine Bx.mk ?_) | (intro h; (try simp [etas, elDef, -List.getD_eq_getElem?_getD] at h); conv => whnf))
                          first | omega | rfl | exact inK_byte _ | (simp only [inK, Int.toNat_natCast, etas, elDef, m67, o108] <;> first | omega | grind) | grind [inK, m67, o108]) ?_ <;> conv => whnf)
    | (refine Gd.mk (fun h => ?_) <;> (try simp [etas, elDef, -List.getD_eq_getElem?_getD] at h) <;> conv => whnf)
    | (refine And.intro ?_ ?_ <;> conv => whnf)
    | exact True.intro
    | (intro; conv => whnf)
  · have e : findM n p = none := by rw [hj, hst (by assumption), if_pos h]
    exact leafV hK (by rw [e]; rfl)
  · have e : findM n p = findM (m.kids.getD (placeM m (p.getD i [])).toNat default) (p.drop (i + 1)) := by rw [hj, hst (by assumption), if_neg (by omega)]
    exact ⟨(i + 1, m.kids.getD (placeM m (p.getD i [])).toNat default), [], [], ⟨by simp only; omega, okN_kid hm (by omega), e⟩, by simp only; omega, by (conv => whnf); (repeat' (first | exact trivial | rfl | (refine nilEq ?_; first | rfl | (simp only [*]; done) | (simp [*]; done) | grind) | apply And.intro | ((first | refine intEq ?_ | refine boolEq ?_ | refine strEq ?_ | refine psEq ?_ | refine nilEq ?_ | refine arrEq ?_); (try simp only [Int.toNat_natCast, etas, elDef]); first | done | omega | grind | (simp only [*]; done) | (simp [*]; done)))); (all_goals (conv => whnf)); (repeat' (first | exact trivial | rfl | (refine nilEq ?_; first | rfl | (simp only [*]; done) | (simp [*]; done) | grind) | apply And.intro | ((first | refine intEq ?_ | refine boolEq ?_ | refine strEq ?_ | refine psEq ?_ | refine nilEq ?_ | refine arrEq ?_); (try simp only [Int.toNat_natCast, etas, elDef]); first | done | omega | grind | (simp only [*]; done) | (simp [*]; done)) | ((try simp only [Int.toNat_natCast, etas, elDef]); first | done | omega | grind | (simp only [*]; done) | (simp [*]; done)))), (by exact sgOk_of (by rfl))⟩
  · have e : findM n p = some m := by rw [hj, List.drop_of_length_le (by omega)]; rfl
    exact leafV hK (by rw [e]; rfl)
theorem s112 : (CtrOK Tryd.prog 112 (.gen .ps C112) ∧ Callable Tryd.prog 112) := by
  refine gen_ok (E := E112) (mkE_cons s67 (mkE_cons s108 (mkE_nil tab_ok))) mix (O := O112) (C := C112) (own := .ps) Tryd.func112 rfl (by rfl) (by kernel_rfl) (fun args K h hbd => ?_)
  unfold C112 at h; split at h
  case h_2 => exact h.elim
  exact ⟨Nat.le_of_ble_eq_true rfl, a112 ⟨_, _, _, _, _⟩ _ (by exact hbd) _ h⟩
noncomputable def c95 (n : Nd) (K : AV → List AV → Prop) : Prop :=
    Obl (okN n) (∀ l : List (List Bs), l.length = countM n → (∀ x ∈ l, x.length < depthM n) → K (.ps .strs l) [])
noncomputable def m95 (n : Nd) : Nat := SizeOf.sizeOf n
noncomputable def C95 : List AV → (AV → List AV → Prop) → Prop
  | [.st [.int .i64 n_0, .int .i64 n_1, .str n_2, .ps .str n_3, .ps .node n_4]], K => c95 ⟨n_0, n_1, n_2, n_3, n_4⟩ K
  | _, _ => False
noncomputable def Ck95 (k : Nat) : List AV → (AV → List AV → Prop) → Prop
  | [.st [.int .i64 n_0, .int .i64 n_1, .str n_2, .ps .str n_3, .ps .node n_4]], K => Obl (m95 ⟨n_0, n_1, n_2, n_3, n_4⟩ < k) (c95 ⟨n_0, n_1, n_2, n_3, n_4⟩ K)
  | _, _ => False
noncomputable def E95 (k : Nat) : Ctx := mkE tab [(84, .pure F84), (95, .gen .ps (Ck95 k))]
noncomputable def O95 : Nat → List DI := ordL []
theorem a95 (k : Nat) (n : Nd) (hm : m95 n < k + 1) (hb : BdAs [.st (ndC n)]) (K : AV → List AV → Prop) (h : c95 n K) : abody (E95 k) O95 .ps Tryd.f95 (Tryd.f95.body.getD .skip) [.st (ndC n)] K := by
  simp only [BdAs, BdA, BdL, BdC, MX, ndC, shC, itC, stC, opC, chC, nwC, flC, rqC, rsC, enc, List.cons_append, List.nil_append, and_true, true_and] at hb
  unfold c95 at h
  unfold m95 at hm
  obtain ⟨ho, hK⟩ := h
  have hkid : ∀ j, j < n.kids.length → SizeOf.sizeOf (n.kids.getD j default) < k ∧ okN (n.kids.getD j default) := fun j hj => ⟨by have := kid_size hj; omega, okN_kid ho hj⟩
  have hc := okN_count ho
  have h6 := okN_kids ho
  have h5 := (okN_names ho).2.1
  have hd5 : depthM n ≤ 5 := by obtain ⟨d, hd, hs⟩ := ho; have := depth_le hs; omega
  have hkd := fun j (h : j < n.kids.length) => depth_kid (n := n) h
  rw [countM_eq] at hc
  have hle : ∀ k, sumN countM (n.kids.take k) ≤ sumN countM n.kids := fun k => sumN_take_le
  conv => whnf
  repeat' first
    | (refine Cnd.mk (fun h => ?_) (fun h => ?_) <;> (try simp [etas, elDef, -List.getD_eq_getElem?_getD] at h) <;> conv => whnf)
    | (refine Obl.mk (by first | omega | rfl | exact inK_byte _ | (simp only [inK, Int.toNat_natCast, etas, elDef, m95, o84, m84, m95] <;> first | omega | grind) | grind [inK, m95, o84, m84, m95]) ?_ <;> conv => whnf)
    | (refine OblG.mk (by conv => whnf
                          repeat (first | (refine Bx.mk ?_) | (intro h; (try simp [etas, elDef, -List.getD_eq_getElem?_getD] at h); conv => whnf))
                          first | omega | rfl | exact inK_byte _ | (simp only [inK, Int.toNat_natCast, etas, elDef, m95, o84, m84, m95] <;> first | omega | grind) | grind [inK, m95, o84, m84, m95]) ?_ <;> conv => whnf)
    | (refine Gd.mk (fun h => ?_) <;> (try simp [etas, elDef, -List.getD_eq_getElem?_getD] at h) <;> conv => whnf)
    | (refine And.intro ?_ ?_ <;> conv => whnf)
    | exact True.intro
    | (intro; conv => whnf)
  refine aloop_intro (Nat × List (List Bs)) (fun q => q.1 ≤ n.kids.length ∧ q.2.length = 1 + sumN countM (n.kids.take q.1) ∧ ∀ x ∈ q.2, x.length < depthM n) (fun q => n.kids.length - q.1) (fun q => [(4, .int .i64 q.1), (3, .ls 900)]) (fun q => [(900, .arr .strs q.2)]) [1] (0, [[]]) [(900, 9)] [] ⟨Nat.zero_le _, by simp [sumN], by simp; have := depth_pos n; omega⟩ ?_ (by exact sgOk_of (by rfl)) ?_
  · (conv => whnf); (repeat' (first | exact trivial | rfl | (refine nilEq ?_; first | rfl | (simp only [*]; done) | (simp [*]; done) | grind) | apply And.intro | ((first | refine intEq ?_ | refine boolEq ?_ | refine strEq ?_ | refine psEq ?_ | refine nilEq ?_ | refine arrEq ?_); (try simp only [Int.toNat_natCast, etas, elDef]); first | done | omega | grind | (simp only [*]; done) | (simp [*]; done)))); (all_goals (conv => whnf)); (repeat' (first | exact trivial | rfl | (refine nilEq ?_; first | rfl | (simp only [*]; done) | (simp [*]; done) | grind) | apply And.intro | ((first | refine intEq ?_ | refine boolEq ?_ | refine strEq ?_ | refine psEq ?_ | refine nilEq ?_ | refine arrEq ?_); (try simp only [Int.toNat_natCast, etas, elDef]); first | done | omega | grind | (simp only [*]; done) | (simp [*]; done)) | ((try simp only [Int.toNat_natCast, etas, elDef]); first | done | omega | grind | (simp only [*]; done) | (simp [*]; done))))
  rintro ⟨i, l⟩ ⟨hi, hl, hx⟩
  dsimp only at hi hl hx
  have hst := fun h => sumN_take (f := countM) (l := n.kids) (k := i) h
  have hli1 := hle (i + 1)
  have hkk := hkid i
  have hkd2 := hkd i
  conv => whnf
  repeat' first
    | (refine Cnd.mk (fun h => ?_) (fun h => ?_) <;> (try simp [etas, elDef, -List.getD_eq_getElem?_getD] at h) <;> conv => whnf)
    | (refine Obl.mk (by first | omega | rfl | exact inK_byte _ | (simp only [inK, Int.toNat_natCast, etas, elDef, m95, o84, m84, m95] <;> first | omega | grind) | grind [inK, m95, o84, m84, m95]) ?_ <;> conv => whnf)
    | (refine OblG.mk (by conv => whnf
                          repeat (first | (refine Bx.mk ?_) | (intro h; (try simp [etas, elDef, -List.getD_eq_getElem?_getD] at h); conv => whnf))
                          first | omega | rfl | exact inK_byte _ | (simp only [inK, Int.toNat_natCast, etas, elDef, m95, o84, m84, m95] <;> first | omega | grind) | grind [inK, m95, o84, m84, m95]) ?_ <;> conv => whnf)
    | (refine Gd.mk (fun h => ?_) <;> (try simp [etas, elDef, -List.getD_eq_getElem?_getD] at h) <;> conv => whnf)
    | (refine And.intro ?_ ?_ <;> conv => whnf)
    | exact True.intro
    | (intro; conv => whnf)
  · rename_i l2 hl2 hx2
    dsimp only at hl2 hx2
    simp only [nd_eta, Int.toNat_natCast, elDef] at hl2 hx2
    have hkd3 := hkd2 (by assumption)
    have hst2 := hst (by assumption)
    refine aloop_intro (Nat × List (List Bs)) (fun q => q.1 ≤ l2.length ∧ q.2.length = l.length + q.1 ∧ ∀ x ∈ q.2, x.length < depthM n) (fun q => l2.length - q.1) (fun q => [(7, .int .i64 q.1), (3, .ls 901)]) (fun q => [(901, .arr .strs q.2)]) [1] (0, l) [(901, 900)] [] ⟨Nat.zero_le _, rfl, hx⟩ ?_ (by exact sgOk_of (by rfl)) ?_
    · (conv => whnf); (repeat' (first | exact trivial | rfl | (refine nilEq ?_; first | rfl | (simp only [*]; done) | (simp [*]; done) | grind) | apply And.intro | ((first | refine intEq ?_ | refine boolEq ?_ | refine strEq ?_ | refine psEq ?_ | refine nilEq ?_ | refine arrEq ?_); (try simp only [Int.toNat_natCast, etas, elDef]); first | done | omega | grind | (simp only [*]; done) | (simp [*]; done)))); (all_goals (conv => whnf)); (repeat' (first | exact trivial | rfl | (refine nilEq ?_; first | rfl | (simp only [*]; done) | (simp [*]; done) | grind) | apply And.intro | ((first | refine intEq ?_ | refine boolEq ?_ | refine strEq ?_ | refine psEq ?_ | refine nilEq ?_ | refine arrEq ?_); (try simp only [Int.toNat_natCast, etas, elDef]); first | done | omega | grind | (simp only [*]; done) | (simp [*]; done)) | ((try simp only [Int.toNat_natCast, etas, elDef]); first | done | omega | grind | (simp only [*]; done) | (simp [*]; done))))
    rintro ⟨j, l3⟩ ⟨hj1, hj2, hj3⟩
    dsimp only at hj1 hj2 hj3
    have hb1 : j < l2.length → [n.names.getD i []].length + (l2.getD j []).length ≤ 1073741824 := fun h => by
      have := hx2 _ (getD_mem (d := []) h)
      simp only [List.length_cons, List.length_nil, List.cons_append, List.nil_append]; omega
    have hb2 : j < l2.length → l3.length + [[n.names.getD i []] ++ l2.getD j []].length ≤ 1073741824 := fun h => by simp; omega
    have hb3 : j < l2.length → ([n.names.getD i []] ++ l2.getD j []).length < depthM n := fun h => by
      have := hx2 _ (getD_mem (d := []) h)
      simp only [List.length_cons, List.length_nil, List.cons_append, List.nil_append]; omega
    rcases Nat.lt_or_ge j l2.length with hjl | hjl
    · have hb1 := hb1 hjl
      have hb2 := hb2 hjl
      have hb3 := hb3 hjl
      conv => whnf
      repeat' first
        | (refine Cnd.mk (fun h => ?_) (fun h => ?_) <;> (try simp [etas, elDef, -List.getD_eq_getElem?_getD] at h) <;> conv => whnf)
        | (refine Obl.mk (by first | omega | rfl | exact inK_byte _ | (simp only [inK, Int.toNat_natCast, etas, elDef, m95, o84, m84, m95] <;> first | omega | grind) | grind [inK, m95, o84, m84, m95]) ?_ <;> conv => whnf)
        | (refine OblG.mk (by conv => whnf
                              repeat (first | (refine Bx.mk ?_) | (intro h; (try simp [etas, elDef, -List.getD_eq_getElem?_getD] at h); conv => whnf))
                              first | omega | rfl | exact inK_byte _ | (simp only [inK, Int.toNat_natCast, etas, elDef, m95, o84, m84, m95] <;> first | omega | grind) | grind [inK, m95, o84, m84, m95]) ?_ <;> conv => whnf)
        | (refine Gd.mk (fun h => ?_) <;> (try simp [etas, elDef, -List.getD_eq_getElem?_getD] at h) <;> conv => whnf)
        | (refine And.intro ?_ ?_ <;> conv => whnf)
        | exact True.intro
        | (intro; conv => whnf)
      · refine ⟨(j + 1, l3 ++ [[n.names.getD i []] ++ l2.getD j []]), [(901, 48)], [], ⟨by simp only; omega, by simp only [List.length_append, List.length_cons, List.length_nil]; omega, ?_⟩, by simp only; omega, by (conv => whnf); (repeat' (first | exact trivial | rfl | (refine nilEq ?_; first | rfl | (simp only [*]; done) | (simp [*]; done) | grind) | apply And.intro | ((first | refine intEq ?_ | refine boolEq ?_ | refine strEq ?_ | refine psEq ?_ | refine nilEq ?_ | refine arrEq ?_); (try simp only [Int.toNat_natCast, etas, elDef]); first | done | omega | grind | (simp only [*]; done) | (simp [*]; done)))); (all_goals (conv => whnf)); (repeat' (first | exact trivial | rfl | (refine nilEq ?_; first | rfl | (simp only [*]; done) | (simp [*]; done) | grind) | apply And.intro | ((first | refine intEq ?_ | refine boolEq ?_ | refine strEq ?_ | refine psEq ?_ | refine nilEq ?_ | refine arrEq ?_); (try simp only [Int.toNat_natCast, etas, elDef]); first | done | omega | grind | (simp only [*]; done) | (simp [*]; done)) | ((try simp only [Int.toNat_natCast, etas, elDef]); first | done | omega | grind | (simp only [*]; done) | (simp [*]; done)))), (by exact sgOk_of (by rfl))⟩
        intro x hx
        rcases List.mem_append.1 hx with hx | hx
        · exact hj3 x hx
        · simp only [List.mem_singleton] at hx; subst hx; exact hb3
      · exfalso; omega
    · conv => whnf
      repeat' first
        | (refine Cnd.mk (fun h => ?_) (fun h => ?_) <;> (try simp [etas, elDef, -List.getD_eq_getElem?_getD] at h) <;> conv => whnf)
        | (refine Obl.mk (by first | omega | rfl | exact inK_byte _ | (simp only [inK, Int.toNat_natCast, etas, elDef, m95, o84, m84, m95] <;> first | omega | grind) | grind [inK, m95, o84, m84, m95]) ?_ <;> conv => whnf)
        | (refine OblG.mk (by conv => whnf
                              repeat (first | (refine Bx.mk ?_) | (intro h; (try simp [etas, elDef, -List.getD_eq_getElem?_getD] at h); conv => whnf))
                              first | omega | rfl | exact inK_byte _ | (simp only [inK, Int.toNat_natCast, etas, elDef, m95, o84, m84, m95] <;> first | omega | grind) | grind [inK, m95, o84, m84, m95]) ?_ <;> conv => whnf)
        | (refine Gd.mk (fun h => ?_) <;> (try simp [etas, elDef, -List.getD_eq_getElem?_getD] at h) <;> conv => whnf)
        | (refine And.intro ?_ ?_ <;> conv => whnf)
        | exact True.intro
        | (intro; conv => whnf)
      all_goals first | (exfalso; omega) | skip
      exact ⟨(i + 1, l3), [(900, 901)], [], ⟨by simp only; omega, by simp only; omega, hj3⟩, by simp only; omega, by (conv => whnf); (repeat' (first | exact trivial | rfl | (refine nilEq ?_; first | rfl | (simp only [*]; done) | (simp [*]; done) | grind) | apply And.intro | ((first | refine intEq ?_ | refine boolEq ?_ | refine strEq ?_ | refine psEq ?_ | refine nilEq ?_ | refine arrEq ?_); (try simp only [Int.toNat_natCast, etas, elDef]); first | done | omega | grind | (simp only [*]; done) | (simp [*]; done)))); (all_goals (conv => whnf)); (repeat' (first | exact trivial | rfl | (refine nilEq ?_; first | rfl | (simp only [*]; done) | (simp [*]; done) | grind) | apply And.intro | ((first | refine intEq ?_ | refine boolEq ?_ | refine strEq ?_ | refine psEq ?_ | refine nilEq ?_ | refine arrEq ?_); (try simp only [Int.toNat_natCast, etas, elDef]); first | done | omega | grind | (simp only [*]; done) | (simp [*]; done)) | ((try simp only [Int.toNat_natCast, etas, elDef]); first | done | omega | grind | (simp only [*]; done) | (simp [*]; done)))), (by exact sgOk_of (by rfl))⟩
  · rename_i l2 hl2 hx2
    dsimp only at hl2 hx2
    simp only [nd_eta, Int.toNat_natCast, elDef] at hl2 hx2
    have hkd3 := hkd2 (by assumption)
    have hst2 := hst (by assumption)
    refine aloop_intro (Nat × List (List Bs)) (fun q => q.1 ≤ l2.length ∧ q.2.length = l.length + q.1 ∧ ∀ x ∈ q.2, x.length < depthM n) (fun q => l2.length - q.1) (fun q => [(7, .int .i64 q.1), (3, .ls 901)]) (fun q => [(901, .arr .strs q.2)]) [1] (0, l) [(901, 900)] [] ⟨Nat.zero_le _, rfl, hx⟩ ?_ (by exact sgOk_of (by rfl)) ?_
    · (conv => whnf); (repeat' (first | exact trivial | rfl | (refine nilEq ?_; first | rfl | (simp only [*]; done) | (simp [*]; done) | grind) | apply And.intro | ((first | refine intEq ?_ | refine boolEq ?_ | refine strEq ?_ | refine psEq ?_ | refine nilEq ?_ | refine arrEq ?_); (try simp only [Int.toNat_natCast, etas, elDef]); first | done | omega | grind | (simp only [*]; done) | (simp [*]; done)))); (all_goals (conv => whnf)); (repeat' (first | exact trivial | rfl | (refine nilEq ?_; first | rfl | (simp only [*]; done) | (simp [*]; done) | grind) | apply And.intro | ((first | refine intEq ?_ | refine boolEq ?_ | refine strEq ?_ | refine psEq ?_ | refine nilEq ?_ | refine arrEq ?_); (try simp only [Int.toNat_natCast, etas, elDef]); first | done | omega | grind | (simp only [*]; done) | (simp [*]; done)) | ((try simp only [Int.toNat_natCast, etas, elDef]); first | done | omega | grind | (simp only [*]; done) | (simp [*]; done))))
    rintro ⟨j, l3⟩ ⟨hj1, hj2, hj3⟩
    dsimp only at hj1 hj2 hj3
    have hb1 : j < l2.length → [decM i].length + (l2.getD j []).length ≤ 1073741824 := fun h => by
      have := hx2 _ (getD_mem (d := []) h)
      simp only [List.length_cons, List.length_nil, List.cons_append, List.nil_append]; omega
    have hb2 : j < l2.length → l3.length + [[decM i] ++ l2.getD j []].length ≤ 1073741824 := fun h => by simp; omega
    have hb3 : j < l2.length → ([decM i] ++ l2.getD j []).length < depthM n := fun h => by
      have := hx2 _ (getD_mem (d := []) h)
      simp only [List.length_cons, List.length_nil, List.cons_append, List.nil_append]; omega
    rcases Nat.lt_or_ge j l2.length with hjl | hjl
    · have hb1 := hb1 hjl
      have hb2 := hb2 hjl
      have hb3 := hb3 hjl
      conv => whnf
      repeat' first
        | (refine Cnd.mk (fun h => ?_) (fun h => ?_) <;> (try simp [etas, elDef, -List.getD_eq_getElem?_getD] at h) <;> conv => whnf)
        | (refine Obl.mk (by first | omega | rfl | exact inK_byte _ | (simp only [inK, Int.toNat_natCast, etas, elDef, m95, o84, m84, m95] <;> first | omega | grind) | grind [inK, m95, o84, m84, m95]) ?_ <;> conv => whnf)
        | (refine OblG.mk (by conv => whnf
                              repeat (first | (refine Bx.mk ?_) | (intro h; (try simp [etas, elDef, -List.getD_eq_getElem?_getD] at h); conv => whnf))
                              first | omega | rfl | exact inK_byte _ | (simp only [inK, Int.toNat_natCast, etas, elDef, m95, o84, m84, m95] <;> first | omega | grind) | grind [inK, m95, o84, m84, m95]) ?_ <;> conv => whnf)
        | (refine Gd.mk (fun h => ?_) <;> (try simp [etas, elDef, -List.getD_eq_getElem?_getD] at h) <;> conv => whnf)
        | (refine And.intro ?_ ?_ <;> conv => whnf)
        | exact True.intro
        | (intro; conv => whnf)
      · refine ⟨(j + 1, l3 ++ [[decM i] ++ l2.getD j []]), [(901, 48)], [], ⟨by simp only; omega, by simp only [List.length_append, List.length_cons, List.length_nil]; omega, ?_⟩, by simp only; omega, by (conv => whnf); (repeat' (first | exact trivial | rfl | (refine nilEq ?_; first | rfl | (simp only [*]; done) | (simp [*]; done) | grind) | apply And.intro | ((first | refine intEq ?_ | refine boolEq ?_ | refine strEq ?_ | refine psEq ?_ | refine nilEq ?_ | refine arrEq ?_); (try simp only [Int.toNat_natCast, etas, elDef]); first | done | omega | grind | (simp only [*]; done) | (simp [*]; done)))); (all_goals (conv => whnf)); (repeat' (first | exact trivial | rfl | (refine nilEq ?_; first | rfl | (simp only [*]; done) | (simp [*]; done) | grind) | apply And.intro | ((first | refine intEq ?_ | refine boolEq ?_ | refine strEq ?_ | refine psEq ?_ | refine nilEq ?_ | refine arrEq ?_); (try simp only [Int.toNat_natCast, etas, elDef]); first | done | omega | grind | (simp only [*]; done) | (simp [*]; done)) | ((try simp only [Int.toNat_natCast, etas, elDef]); first | done | omega | grind | (simp only [*]; done) | (simp [*]; done)))), (by exact sgOk_of (by rfl))⟩
        intro x hx
        rcases List.mem_append.1 hx with hx | hx
        · exact hj3 x hx
        · simp only [List.mem_singleton] at hx; subst hx; exact hb3
      · exfalso; omega
    · conv => whnf
      repeat' first
        | (refine Cnd.mk (fun h => ?_) (fun h => ?_) <;> (try simp [etas, elDef, -List.getD_eq_getElem?_getD] at h) <;> conv => whnf)
        | (refine Obl.mk (by first | omega | rfl | exact inK_byte _ | (simp only [inK, Int.toNat_natCast, etas, elDef, m95, o84, m84, m95] <;> first | omega | grind) | grind [inK, m95, o84, m84, m95]) ?_ <;> conv => whnf)
        | (refine OblG.mk (by conv => whnf
                              repeat (first | (refine Bx.mk ?_) | (intro h; (try simp [etas, elDef, -List.getD_eq_getElem?_getD] at h); conv => whnf))
                              first | omega | rfl | exact inK_byte _ | (simp only [inK, Int.toNat_natCast, etas, elDef, m95, o84, m84, m95] <;> first | omega | grind) | grind [inK, m95, o84, m84, m95]) ?_ <;> conv => whnf)
        | (refine Gd.mk (fun h => ?_) <;> (try simp [etas, elDef, -List.getD_eq_getElem?_getD] at h) <;> conv => whnf)
        | (refine And.intro ?_ ?_ <;> conv => whnf)
        | exact True.intro
        | (intro; conv => whnf)
      all_goals first | (exfalso; omega) | skip
      exact ⟨(i + 1, l3), [(900, 901)], [], ⟨by simp only; omega, by simp only; omega, hj3⟩, by simp only; omega, by (conv => whnf); (repeat' (first | exact trivial | rfl | (refine nilEq ?_; first | rfl | (simp only [*]; done) | (simp [*]; done) | grind) | apply And.intro | ((first | refine intEq ?_ | refine boolEq ?_ | refine strEq ?_ | refine psEq ?_ | refine nilEq ?_ | refine arrEq ?_); (try simp only [Int.toNat_natCast, etas, elDef]); first | done | omega | grind | (simp only [*]; done) | (simp [*]; done)))); (all_goals (conv => whnf)); (repeat' (first | exact trivial | rfl | (refine nilEq ?_; first | rfl | (simp only [*]; done) | (simp [*]; done) | grind) | apply And.intro | ((first | refine intEq ?_ | refine boolEq ?_ | refine strEq ?_ | refine psEq ?_ | refine nilEq ?_ | refine arrEq ?_); (try simp only [Int.toNat_natCast, etas, elDef]); first | done | omega | grind | (simp only [*]; done) | (simp [*]; done)) | ((try simp only [Int.toNat_natCast, etas, elDef]); first | done | omega | grind | (simp only [*]; done) | (simp [*]; done)))), (by exact sgOk_of (by rfl))⟩
  · exact hK _ (by simp only; rw [hl, countM_eq, List.take_of_length_le (by omega)]) hx
theorem r95 : ∀ k, (CtrOK Tryd.prog 95 (.gen .ps (Ck95 k)) ∧ Callable Tryd.prog 95) := by
  intro k
  induction k with
  | zero =>
    exact ⟨fun args K h => by
        unfold Ck95 at h; split at h
        · exact absurd h.o (Nat.not_lt_zero _)
        · exact h.elim, callable Tryd.func95 rfl (by rfl)⟩
  | succ k ih =>
    refine gen_ok (E := E95 k) (mkE_cons s84 (mkE_cons ih (mkE_nil tab_ok))) mix (O := O95) (C := (Ck95 (k + 1))) (own := .ps) Tryd.func95 rfl (by rfl) (by kernel_rfl) (fun args K h hbd => ?_)
    unfold Ck95 at h; split at h
    case h_2 => exact h.elim
    exact ⟨Nat.le_of_ble_eq_true rfl, a95 k ⟨_, _, _, _, _⟩ h.o (by exact hbd) _ h.k⟩
theorem s95 : (CtrOK Tryd.prog 95 (.gen .ps C95) ∧ Callable Tryd.prog 95) := by
  refine ⟨fun args K h => ?_, (r95 0).2⟩
  unfold C95 at h; split at h
  · exact (r95 (m95 ⟨_, _, _, _, _⟩ + 1)).1 _ K ⟨Nat.lt_succ_self _, h⟩
  · exact h.elim
end Go.Rs

