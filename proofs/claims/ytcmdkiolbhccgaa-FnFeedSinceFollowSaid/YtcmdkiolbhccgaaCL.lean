import Derived.Test.YtcmdkiolbhccgaaCK
set_option linter.all false
namespace Go.Rs
open Go.Proofs
set_option maxRecDepth 100000
set_option linter.unusedVariables false
set_option linter.unusedSimpArgs false
noncomputable def c69 (code : List Int) (p : Int) (d : Int) (K : AV → List AV → Prop) : Prop :=
    Obl ((0 ≤ p ∧ p + costN d ≤ 100000000) ∧ byOk code ∧ 0 ≤ d ∧ d ≤ 3) (∀ (n1 n2 : Int) (n3 : Bs) (n4 : List Bs) (n5 : List Nd) (p' : Int), smN ⟨n1, n2, n3, n4, n5⟩ → p ≤ p' ∧ p' ≤ p + costN d → K (.st [.int .i64 n1, .int .i64 n2, .str n3, .own .str n4, .own .node n5]) [.ref [.ps .u8 code, .int .i64 p']])
noncomputable def m69 (code : List Int) (p : Int) (d : Int) : Nat := (2 * d + 1).toNat
noncomputable def C69 : List AV → (AV → List AV → Prop) → Prop
  | [.ref [.ps .u8 code, .int .i64 p], .int .i64 d], K => c69 code p d K
  | _, _ => False
noncomputable def Ck69 (k : Nat) : List AV → (AV → List AV → Prop) → Prop
  | [.ref [.ps .u8 code, .int .i64 p], .int .i64 d], K => Obl (m69 code p d < k) (c69 code p d K)
  | _, _ => False
noncomputable def c70 (code : List Int) (p : Int) (d : Int) (K : AV → List AV → Prop) : Prop :=
    Obl ((0 ≤ p ∧ p + costR d ≤ 100000000) ∧ byOk code ∧ 1 ≤ d ∧ d ≤ 3) (∀ (n1 n2 : Int) (n3 : Bs) (n4 : List Bs) (n5 : List Nd) (p' : Int), smN ⟨n1, n2, n3, n4, n5⟩ → p ≤ p' ∧ p' ≤ p + costR d → K (.st [.int .i64 n1, .int .i64 n2, .str n3, .own .str n4, .own .node n5]) [.ref [.ps .u8 code, .int .i64 p']])
noncomputable def m70 (code : List Int) (p : Int) (d : Int) : Nat := (2 * d).toNat
noncomputable def C70 : List AV → (AV → List AV → Prop) → Prop
  | [.ref [.ps .u8 code, .int .i64 p], .int .i64 d], K => c70 code p d K
  | _, _ => False
noncomputable def Ck70 (k : Nat) : List AV → (AV → List AV → Prop) → Prop
  | [.ref [.ps .u8 code, .int .i64 p], .int .i64 d], K => Obl (m70 code p d < k) (c70 code p d K)
  | _, _ => False
noncomputable def E69 (k : Nat) : Ctx := mkE tab [(33, .gen .ps C33), (44, .gen .ps C44), (69, .gen .ow (Ck69 k)), (70, .gen .ow (Ck70 k)), (80, .gen .ps C80)]
noncomputable def O69 : Nat → List DI := ordL []
theorem a69 (k : Nat) (code : List Int) (p : Int) (d : Int) (hm : m69 code p d < k + 1) (hb : BdAs [.ref [.ps .u8 code, .int .i64 p], .int .i64 d]) (K : AV → List AV → Prop) (h : c69 code p d K) : abody (E69 k) O69 .ow Try.f69 (Try.f69.body.getD .skip) [.ref [.ps .u8 code, .int .i64 p], .int .i64 d] K := by
  simp only [BdAs, BdA, BdL, BdC, MX, ndC, shC, itC, stC, opC, chC, nwC, flC, rqC, rsC, enc, List.cons_append, List.nil_append, and_true, true_and] at hb
  unfold c69 at h
  unfold m69 at hm
  obtain ⟨⟨hp, ho, hd⟩, hK⟩ := h
  obtain ⟨hc1, hc2, hc3, hc4, hc5, hc6⟩ := cost_facts d
  have hc7 := (cost_facts (d - 1)).2.2
  conv => whnf
  repeat' first
    | (refine Cnd.mk (fun h => ?_) (fun h => ?_) <;> (try simp [etas, elDef, -List.getD_eq_getElem?_getD] at h) <;> conv => whnf)
    | (refine Obl.mk (by first | omega | rfl | exact inK_byte _ | (simp only [inK, Int.toNat_natCast, etas, elDef, m69, m70, m69, m70] <;> first | omega | grind) | grind [inK, m69, m70, m69, m70]) ?_ <;> conv => whnf)
    | (refine OblG.mk (by conv => whnf
                          repeat (first | (refine Bx.mk ?_) | (intro h; (try simp [etas, elDef, -List.getD_eq_getElem?_getD] at h); conv => whnf))
                          first | omega | rfl | exact inK_byte _ | (simp only [inK, Int.toNat_natCast, etas, elDef, m69, m70, m69, m70] <;> first | omega | grind) | grind [inK, m69, m70, m69, m70]) ?_ <;> conv => whnf)
    | (refine Gd.mk (fun h => ?_) <;> (try simp [etas, elDef, -List.getD_eq_getElem?_getD] at h) <;> conv => whnf)
    | (refine And.intro ?_ ?_ <;> conv => whnf)
    | exact True.intro
    | (intro; conv => whnf)
  · exact hK _ _ _ _ _ _ (smN_leaf (by simp)) (by omega)
  · exact hK _ _ _ _ _ _ (smN_leaf (by omega)) (by omega)
  · exfalso; omega
  · exfalso; omega
  · exact hK _ _ _ _ _ _ (smN_leaf (by simp)) (by omega)
  · exact hK _ _ _ _ _ _ (smN_leaf (by simp)) (by omega)
  · exact hK _ _ _ _ _ _ (smN_leaf (by omega)) (by omega)
  · rename_i r hr
    have hr3 := mul_le_c (c := r) (T := costN (d - 1)) (k := 3) (by omega) (by omega)
    refine aloop_intro (Int × Int × List Nd) (fun ⟨c, q, l⟩ => (0 ≤ c ∧ c ≤ 3 ∧ l.length + c ≤ 3) ∧ (∀ x ∈ l, smN x) ∧ p ≤ q ∧ q + c * costN (d - 1) ≤ p + 2 + 3 * costN (d - 1)) (fun ⟨c, q, l⟩ => c.toNat) (fun ⟨c, q, l⟩ => [(7, .int .i64 c), (6, .ls 900)]) (fun ⟨c, q, l⟩ => [(900, .arr .node l), (1000000, .box [.ps .u8 code, .int .i64 q])]) [4] (r, p + 2, []) [(900, 32)] [] ?_ ?_ (by exact sgOk_of (by rfl)) ?_
    · first | (simp; done) | (simp; assumption) | (simp only; grind)
    · (conv => whnf); (repeat' (first | exact trivial | rfl | (refine nilEq ?_; first | rfl | (simp only [*]; done) | (simp [*]; done) | grind) | apply And.intro | ((first | refine intEq ?_ | refine boolEq ?_ | refine strEq ?_ | refine psEq ?_ | refine nilEq ?_ | refine arrEq ?_); (try simp only [Int.toNat_natCast, etas, elDef]); first | done | omega | grind | (simp only [*]; done) | (simp [*]; done)))); (all_goals (conv => whnf)); (repeat' (first | exact trivial | rfl | (refine nilEq ?_; first | rfl | (simp only [*]; done) | (simp [*]; done) | grind) | apply And.intro | ((first | refine intEq ?_ | refine boolEq ?_ | refine strEq ?_ | refine psEq ?_ | refine nilEq ?_ | refine arrEq ?_); (try simp only [Int.toNat_natCast, etas, elDef]); first | done | omega | grind | (simp only [*]; done) | (simp [*]; done)) | ((try simp only [Int.toNat_natCast, etas, elDef]); first | done | omega | grind | (simp only [*]; done) | (simp [*]; done))))
    rintro ⟨c, q, l⟩ hinv
    dsimp only at hinv
    conv => whnf
    obtain ⟨hi1, hi2, hi3, hi4⟩ := hinv
    have hs := mul_step c (costN (d - 1))
    have hn := mul_nn (c := c) (T := costN (d - 1)) (by omega) (by omega)
    repeat' first
      | (refine Cnd.mk (fun h => ?_) (fun h => ?_) <;> (try simp [etas, elDef, -List.getD_eq_getElem?_getD] at h) <;> conv => whnf)
      | (refine Obl.mk (by first | omega | rfl | exact inK_byte _ | (simp only [inK, Int.toNat_natCast, etas, elDef, m69, m70, m69, m70] <;> first | omega | grind) | grind [inK, m69, m70, m69, m70]) ?_ <;> conv => whnf)
      | (refine OblG.mk (by conv => whnf
                            repeat (first | (refine Bx.mk ?_) | (intro h; (try simp [etas, elDef, -List.getD_eq_getElem?_getD] at h); conv => whnf))
                            first | omega | rfl | exact inK_byte _ | (simp only [inK, Int.toNat_natCast, etas, elDef, m69, m70, m69, m70] <;> first | omega | grind) | grind [inK, m69, m70, m69, m70]) ?_ <;> conv => whnf)
      | (refine Gd.mk (fun h => ?_) <;> (try simp [etas, elDef, -List.getD_eq_getElem?_getD] at h) <;> conv => whnf)
      | (refine And.intro ?_ ?_ <;> conv => whnf)
      | exact True.intro
      | (intro; conv => whnf)
    · rename_i m1 m2 m3 m4 m5 q' hsm hq
      exact ⟨(c - 1, q', l ++ [⟨m1, m2, m3, m4, m5⟩]), [(900, 45)], [], ⟨by simp; omega, by simp; intro x hx; rcases hx with hx | rfl; exact hi2 x hx; exact hsm, by omega, by omega⟩, by simp only; omega, by (conv => whnf); (repeat' (first | exact trivial | rfl | (refine nilEq ?_; first | rfl | (simp only [*]; done) | (simp [*]; done) | grind) | apply And.intro | ((first | refine intEq ?_ | refine boolEq ?_ | refine strEq ?_ | refine psEq ?_ | refine nilEq ?_ | refine arrEq ?_); (try simp only [Int.toNat_natCast, etas, elDef]); first | done | omega | grind | (simp only [*]; done) | (simp [*]; done)))); (all_goals (conv => whnf)); (repeat' (first | exact trivial | rfl | (refine nilEq ?_; first | rfl | (simp only [*]; done) | (simp [*]; done) | grind) | apply And.intro | ((first | refine intEq ?_ | refine boolEq ?_ | refine strEq ?_ | refine psEq ?_ | refine nilEq ?_ | refine arrEq ?_); (try simp only [Int.toNat_natCast, etas, elDef]); first | done | omega | grind | (simp only [*]; done) | (simp [*]; done)) | ((try simp only [Int.toNat_natCast, etas, elDef]); first | done | omega | grind | (simp only [*]; done) | (simp [*]; done)))), (by exact sgOk_of (by rfl))⟩
    · exact hK _ _ _ _ _ _ (smN_mk (by simp) (by simp) (by omega) hi2) (by omega)
  · rename_i hsm hq
    exact hK _ _ _ _ _ _ hsm (by omega)
  · exact hK _ _ _ _ _ _ (smN_leaf (by simp)) (by omega)
noncomputable def E70 (k : Nat) : Ctx := mkE tab [(44, .gen .ps C44), (69, .gen .ow (Ck69 k)), (81, .gen .ps C81), (82, .pure F82), (83, .gen .ow C83)]
noncomputable def O70 : Nat → List DI := ordL []
theorem a70 (k : Nat) (code : List Int) (p : Int) (d : Int) (hm : m70 code p d < k + 1) (hb : BdAs [.ref [.ps .u8 code, .int .i64 p], .int .i64 d]) (K : AV → List AV → Prop) (h : c70 code p d K) : abody (E70 k) O70 .ow Try.f70 (Try.f70.body.getD .skip) [.ref [.ps .u8 code, .int .i64 p], .int .i64 d] K := by
  simp only [BdAs, BdA, BdL, BdC, MX, ndC, shC, itC, stC, opC, chC, nwC, flC, rqC, rsC, enc, List.cons_append, List.nil_append, and_true, true_and] at hb
  unfold c70 at h
  unfold m70 at hm
  obtain ⟨⟨hp, ho, hd⟩, hK⟩ := h
  obtain ⟨hc1, hc2, hc3, hc4, hc5, hc6⟩ := cost_facts d
  have hc7 := (cost_facts (d - 1)).2.2
  conv => whnf
  repeat' first
    | (refine Cnd.mk (fun h => ?_) (fun h => ?_) <;> (try simp [etas, elDef, -List.getD_eq_getElem?_getD] at h) <;> conv => whnf)
    | (refine Obl.mk (by first | omega | rfl | exact inK_byte _ | (simp only [inK, Int.toNat_natCast, etas, elDef, m69, m70, m69, o82] <;> first | omega | grind) | grind [inK, m69, m70, m69, o82]) ?_ <;> conv => whnf)
    | (refine OblG.mk (by conv => whnf
                          repeat (first | (refine Bx.mk ?_) | (intro h; (try simp [etas, elDef, -List.getD_eq_getElem?_getD] at h); conv => whnf))
                          first | omega | rfl | exact inK_byte _ | (simp only [inK, Int.toNat_natCast, etas, elDef, m69, m70, m69, o82] <;> first | omega | grind) | grind [inK, m69, m70, m69, o82]) ?_ <;> conv => whnf)
    | (refine Gd.mk (fun h => ?_) <;> (try simp [etas, elDef, -List.getD_eq_getElem?_getD] at h) <;> conv => whnf)
    | (refine And.intro ?_ ?_ <;> conv => whnf)
    | exact True.intro
    | (intro; conv => whnf)
  rename_i r hr
  have hr0 : 0 ≤ r ∧ r ≤ 4 := by simp at hr; omega
  have hr3 := mul_le_c (c := r) (T := costN (d - 1) + 1) (k := 4) (by omega) (by omega)
  have hm0 : mapOk ⟨4, 0, [], [], []⟩ r := ⟨rfl, fun _ => rfl, smN_leaf (by simp), by simp; omega, by omega⟩
  refine aloop_intro (Int × Int × Nd) (fun ⟨c, q, m⟩ => mapOk m c ∧ p ≤ q ∧ q + c * (costN (d - 1) + 1) ≤ p + 1 + 4 * (costN (d - 1) + 1)) (fun ⟨c, q, m⟩ => c.toNat) (fun ⟨c, q, m⟩ => [(6, .int .i64 c)]) (fun ⟨c, q, m⟩ => [(5, .box [.int .i64 m.kind, .int .i64 m.num, .str m.text, .ls 901, .ls 902]), (901, .arr .str m.names), (902, .arr .node m.kids), (1000000, .box [.ps .u8 code, .int .i64 q])]) [4] (r, p + 1, ⟨4, 0, [], [], []⟩) [(901, 9), (902, 10)] [] ?_ ?_ (by exact sgOk_of (by rfl)) ?_
  · first | (simp; done) | (simp; assumption) | (simp only; grind)
  · (conv => whnf); (repeat' (first | exact trivial | rfl | (refine nilEq ?_; first | rfl | (simp only [*]; done) | (simp [*]; done) | grind) | apply And.intro | ((first | refine intEq ?_ | refine boolEq ?_ | refine strEq ?_ | refine psEq ?_ | refine nilEq ?_ | refine arrEq ?_); (try simp only [Int.toNat_natCast, etas, elDef]); first | done | omega | grind | (simp only [*]; done) | (simp [*]; done)))); (all_goals (conv => whnf)); (repeat' (first | exact trivial | rfl | (refine nilEq ?_; first | rfl | (simp only [*]; done) | (simp [*]; done) | grind) | apply And.intro | ((first | refine intEq ?_ | refine boolEq ?_ | refine strEq ?_ | refine psEq ?_ | refine nilEq ?_ | refine arrEq ?_); (try simp only [Int.toNat_natCast, etas, elDef]); first | done | omega | grind | (simp only [*]; done) | (simp [*]; done)) | ((try simp only [Int.toNat_natCast, etas, elDef]); first | done | omega | grind | (simp only [*]; done) | (simp [*]; done))))
  rintro ⟨c, q, m⟩ hinv
  dsimp only at hinv
  conv => whnf
  obtain ⟨hi1, hi2, hi3⟩ := hinv
  have hs := mul_step c (costN (d - 1) + 1)
  have hn := mul_nn (c := c) (T := costN (d - 1) + 1) hi1.2.2.2.2 (by omega)
  have hn2 : 0 < c → 0 ≤ (c - 1) * (costN (d - 1) + 1) := fun h => mul_nn (by omega) (by omega)
  have hmk := hi1.1
  have hme : m.kind = 4 → m.names.length = m.kids.length := hi1.2.1
  have hml := hi1.2.2.2
  have hms := smN_eta hi1.2.2.1
  have hevm : evenN ⟨m.kind, m.num, m.text, m.names, m.kids⟩ := hi1.2.1
  repeat' first
    | (refine Cnd.mk (fun h => ?_) (fun h => ?_) <;> (try simp [etas, elDef, -List.getD_eq_getElem?_getD] at h) <;> conv => whnf)
    | (refine Obl.mk (by first | omega | rfl | exact inK_byte _ | (simp only [inK, Int.toNat_natCast, etas, elDef, m69, m70, m69, o82] <;> first | omega | grind) | grind [inK, m69, m70, m69, o82]) ?_ <;> conv => whnf)
    | (refine OblG.mk (by conv => whnf
                          repeat (first | (refine Bx.mk ?_) | (intro h; (try simp [etas, elDef, -List.getD_eq_getElem?_getD] at h); conv => whnf))
                          first | omega | rfl | exact inK_byte _ | (simp only [inK, Int.toNat_natCast, etas, elDef, m69, m70, m69, o82] <;> first | omega | grind) | grind [inK, m69, m70, m69, o82]) ?_ <;> conv => whnf)
    | (refine Gd.mk (fun h => ?_) <;> (try simp [etas, elDef, -List.getD_eq_getElem?_getD] at h) <;> conv => whnf)
    | (refine And.intro ?_ ?_ <;> conv => whnf)
    | exact True.intro
    | (intro; conv => whnf)
  · rename_i b hb9 x1 x2 x3 x4 x5 q' hx hq
    have hpl : placeM ⟨m.kind, m.num, m.text, m.names, m.kids⟩ b < 0 := by simpa only [nd_eta] using h
    have hadd := hi1.add (by omega) hx (b := b) h
    rw [← nd_eta m] at hadd
    refine Obl.mk ⟨⟨hms, hx⟩, by omega, by have := hme hmk; omega, hevm, hpl⟩ ?_
    conv => whnf
    repeat' first
      | (refine Cnd.mk (fun h => ?_) (fun h => ?_) <;> (try simp [etas, elDef, -List.getD_eq_getElem?_getD] at h) <;> conv => whnf)
      | (refine Obl.mk (by first | omega | rfl | exact inK_byte _ | (simp only [inK, Int.toNat_natCast, etas, elDef, m69, m70, m69, o82] <;> first | omega | grind) | grind [inK, m69, m70, m69, o82]) ?_ <;> conv => whnf)
      | (refine OblG.mk (by conv => whnf
                            repeat (first | (refine Bx.mk ?_) | (intro h; (try simp [etas, elDef, -List.getD_eq_getElem?_getD] at h); conv => whnf))
                            first | omega | rfl | exact inK_byte _ | (simp only [inK, Int.toNat_natCast, etas, elDef, m69, m70, m69, o82] <;> first | omega | grind) | grind [inK, m69, m70, m69, o82]) ?_ <;> conv => whnf)
      | (refine Gd.mk (fun h => ?_) <;> (try simp [etas, elDef, -List.getD_eq_getElem?_getD] at h) <;> conv => whnf)
      | (refine And.intro ?_ ?_ <;> conv => whnf)
      | exact True.intro
      | (intro; conv => whnf)
    exact ⟨(c - 1, q', (addHereM ⟨m.kind, m.num, m.text, m.names, m.kids⟩ b ⟨x1, x2, x3, x4, x5⟩).getD default), [(901, 34000), (902, 34001)], [], ⟨hadd, by omega, by omega⟩, by simp only; omega, by (conv => whnf); (repeat' (first | exact trivial | rfl | (refine nilEq ?_; first | rfl | (simp only [*]; done) | (simp [*]; done) | grind) | apply And.intro | ((first | refine intEq ?_ | refine boolEq ?_ | refine strEq ?_ | refine psEq ?_ | refine nilEq ?_ | refine arrEq ?_); (try simp only [Int.toNat_natCast, etas, elDef]); first | done | omega | grind | (simp only [*]; done) | (simp [*]; done)))); (all_goals (conv => whnf)); (repeat' (first | exact trivial | rfl | (refine nilEq ?_; first | rfl | (simp only [*]; done) | (simp [*]; done) | grind) | apply And.intro | ((first | refine intEq ?_ | refine boolEq ?_ | refine strEq ?_ | refine psEq ?_ | refine nilEq ?_ | refine arrEq ?_); (try simp only [Int.toNat_natCast, etas, elDef]); first | done | omega | grind | (simp only [*]; done) | (simp [*]; done)) | ((try simp only [Int.toNat_natCast, etas, elDef]); first | done | omega | grind | (simp only [*]; done) | (simp [*]; done)))), (by exact sgOk_of (by rfl))⟩
  · rename_i b hb9 x1 x2 x3 x4 x5 q' hx hq
    exact ⟨(c - 1, q', m), [], [], ⟨hi1.stay (by omega), by omega, by omega⟩, by simp only; omega, by (conv => whnf); (repeat' (first | exact trivial | rfl | (refine nilEq ?_; first | rfl | (simp only [*]; done) | (simp [*]; done) | grind) | apply And.intro | ((first | refine intEq ?_ | refine boolEq ?_ | refine strEq ?_ | refine psEq ?_ | refine nilEq ?_ | refine arrEq ?_); (try simp only [Int.toNat_natCast, etas, elDef]); first | done | omega | grind | (simp only [*]; done) | (simp [*]; done)))); (all_goals (conv => whnf)); (repeat' (first | exact trivial | rfl | (refine nilEq ?_; first | rfl | (simp only [*]; done) | (simp [*]; done) | grind) | apply And.intro | ((first | refine intEq ?_ | refine boolEq ?_ | refine strEq ?_ | refine psEq ?_ | refine nilEq ?_ | refine arrEq ?_); (try simp only [Int.toNat_natCast, etas, elDef]); first | done | omega | grind | (simp only [*]; done) | (simp [*]; done)) | ((try simp only [Int.toNat_natCast, etas, elDef]); first | done | omega | grind | (simp only [*]; done) | (simp [*]; done)))), (by exact sgOk_of (by rfl))⟩
  · exact hK _ _ _ _ _ _ hms (by omega)
theorem r69_70 : ∀ k, (CtrOK Try.prog 69 (.gen .ow (Ck69 k)) ∧ Callable Try.prog 69) ∧ (CtrOK Try.prog 70 (.gen .ow (Ck70 k)) ∧ Callable Try.prog 70) := by
  intro k
  induction k with
  | zero =>
    exact ⟨⟨fun args K h => by
        unfold Ck69 at h; split at h
        · exact absurd h.o (Nat.not_lt_zero _)
        · exact h.elim, callable Try.func69 rfl (by rfl)⟩, ⟨fun args K h => by
        unfold Ck70 at h; split at h
        · exact absurd h.o (Nat.not_lt_zero _)
        · exact h.elim, callable Try.func70 rfl (by rfl)⟩⟩
  | succ k ih =>
    refine ⟨?_, ?_⟩
    · refine gen_ok (E := E69 k) (mkE_cons s33 (mkE_cons s44 (mkE_cons ih.1 (mkE_cons ih.2 (mkE_cons s80 (mkE_nil tab_ok)))))) mix (O := O69) (C := (Ck69 (k + 1))) (own := .ow) Try.func69 rfl (by rfl) (by kernel_rfl) (fun args K h hbd => ?_)
      unfold Ck69 at h; split at h
      case h_2 => exact h.elim
      exact ⟨Nat.le_of_ble_eq_true rfl, a69 k _ _ _ h.o (by exact hbd) _ h.k⟩
    · refine gen_ok (E := E70 k) (mkE_cons s44 (mkE_cons ih.1 (mkE_cons s81 (mkE_cons s82 (mkE_cons s83 (mkE_nil tab_ok)))))) mix (O := O70) (C := (Ck70 (k + 1))) (own := .ow) Try.func70 rfl (by rfl) (by kernel_rfl) (fun args K h hbd => ?_)
      unfold Ck70 at h; split at h
      case h_2 => exact h.elim
      exact ⟨Nat.le_of_ble_eq_true rfl, a70 k _ _ _ h.o (by exact hbd) _ h.k⟩
theorem s69 : (CtrOK Try.prog 69 (.gen .ow C69) ∧ Callable Try.prog 69) := by
  refine ⟨fun args K h => ?_, (r69_70 0).1.2⟩
  unfold C69 at h; split at h
  · exact (r69_70 (m69 _ _ _ + 1)).1.1 _ K ⟨Nat.lt_succ_self _, h⟩
  · exact h.elim
theorem s70 : (CtrOK Try.prog 70 (.gen .ow C70) ∧ Callable Try.prog 70) := by
  refine ⟨fun args K h => ?_, (r69_70 0).2.2⟩
  unfold C70 at h; split at h
  · exact (r69_70 (m70 _ _ _ + 1)).2.1 _ K ⟨Nat.lt_succ_self _, h⟩
  · exact h.elim
noncomputable def c57 (code : List Int) (p : Int) (K : AV → List AV → Prop) : Prop :=
    Obl ((0 ≤ p ∧ p ≤ 10000000) ∧ byOk code) (∀ (n1 n2 : Int) (n3 : Bs) (n4 : List Bs) (n5 : List Nd) (p' : Int), smN ⟨n1, n2, n3, n4, n5⟩ ∧ n4.length ≤ 1000 → p ≤ p' ∧ p' ≤ p + 2000 → K (.st [.int .i64 n1, .int .i64 n2, .str n3, .own .str n4, .own .node n5]) [.ref [.ps .u8 code, .int .i64 p']])
noncomputable def C57 : List AV → (AV → List AV → Prop) → Prop
  | [.ref [.ps .u8 code, .int .i64 p]], K => c57 code p K
  | _, _ => False
noncomputable def E57 : Ctx := mkE tab [(33, .gen .ps C33), (61, .pure F61), (69, .gen .ow C69), (70, .gen .ow C70)]
noncomputable def O57 : Nat → List DI := ordL []
theorem a57 (code : List Int) (p : Int) (hb : BdAs [.ref [.ps .u8 code, .int .i64 p]]) (K : AV → List AV → Prop) (h : c57 code p K) : abody E57 O57 .ow Try.f57 (Try.f57.body.getD .skip) [.ref [.ps .u8 code, .int .i64 p]] K := by
  simp only [BdAs, BdA, BdL, BdC, MX, ndC, shC, itC, stC, opC, chC, nwC, flC, rqC, rsC, enc, List.cons_append, List.nil_append, and_true, true_and] at hb
  unfold c57 at h
  obtain ⟨⟨hp, ho⟩, hK⟩ := h
  have hc := (cost_facts 3).2.2
  have hv : ∀ {n1 n2 : Int} {n3 : Bs} {n4 : List Bs} {n5 : List Nd}, validM ⟨n1, n2, n3, n4, n5⟩ = true → smN ⟨n1, n2, n3, n4, n5⟩ ∧ n4.length ≤ 1000 := fun h => ⟨validM_sm h, by have := (okN_names (validM_ok h)).1; simp only at this; omega⟩
  conv => whnf
  repeat' first
    | (refine Cnd.mk (fun h => ?_) (fun h => ?_) <;> (try simp [etas, elDef, -List.getD_eq_getElem?_getD] at h) <;> conv => whnf)
    | (refine Obl.mk (by first | omega | rfl | exact inK_byte _ | (simp only [inK, Int.toNat_natCast, etas, elDef, m69, m70] <;> first | omega | grind) | grind [inK, m69, m70]) ?_ <;> conv => whnf)
    | (refine OblG.mk (by conv => whnf
                          repeat (first | (refine Bx.mk ?_) | (intro h; (try simp [etas, elDef, -List.getD_eq_getElem?_getD] at h); conv => whnf))
                          first | omega | rfl | exact inK_byte _ | (simp only [inK, Int.toNat_natCast, etas, elDef, m69, m70] <;> first | omega | grind) | grind [inK, m69, m70]) ?_ <;> conv => whnf)
    | (refine Gd.mk (fun h => ?_) <;> (try simp [etas, elDef, -List.getD_eq_getElem?_getD] at h) <;> conv => whnf)
    | (refine And.intro ?_ ?_ <;> conv => whnf)
    | exact True.intro
    | (intro; conv => whnf)
  · exact hK _ _ _ _ _ _ ⟨smN_leaf (by simp), by simp⟩ (by omega)
  · exact hK _ _ _ _ _ _ (hv h) (by omega)
  · exact hK _ _ _ _ _ _ ⟨smN_leaf (by simp), by simp⟩ (by omega)
  · exact hK _ _ _ _ _ _ (hv h) (by omega)
theorem s57 : (CtrOK Try.prog 57 (.gen .ow C57) ∧ Callable Try.prog 57) := by
  refine gen_ok (E := E57) (mkE_cons s33 (mkE_cons s61 (mkE_cons s69 (mkE_cons s70 (mkE_nil tab_ok))))) mix (O := O57) (C := C57) (own := .ow) Try.func57 rfl (by rfl) (by kernel_rfl) (fun args K h hbd => ?_)
  unfold C57 at h; split at h
  case h_2 => exact h.elim
  exact ⟨Nat.le_of_ble_eq_true rfl, a57 _ _ (by exact hbd) _ h⟩
noncomputable def c56 (code : List Int) (p : Int) (s : Sto) (K : AV → List AV → Prop) : Prop :=
    Obl ((0 ≤ p ∧ p ≤ 10000000) ∧ byOk code) (∀ (b : Bs) (p' : Int), p ≤ p' ∧ p' ≤ p + 3 → K (.str b) [.ref [.ps .u8 code, .int .i64 p']])
noncomputable def C56 : List AV → (AV → List AV → Prop) → Prop
  | [.ref [.ps .u8 code, .int .i64 p], .st [.ps .item s_0, .int .i64 s_1]], K => c56 code p ⟨s_0, s_1⟩ K
  | _, _ => False
noncomputable def E56 : Ctx := mkE tab [(33, .gen .ps C33), (67, .gen .ps C67), (68, .gen .ps C68)]
noncomputable def O56 : Nat → List DI := ordL [(2, [.q 0, .q 1, .q 2, .q 3, .q 4, .q 5, .l 6 [1], .q 7, .q 8, .q 9, .q 10])]
theorem a56 (code : List Int) (p : Int) (s : Sto) (hb : BdAs [.ref [.ps .u8 code, .int .i64 p], .st (stC s)]) (K : AV → List AV → Prop) (h : c56 code p s K) : abody E56 O56 .ps Try.f56 (Try.f56.body.getD .skip) [.ref [.ps .u8 code, .int .i64 p], .st (stC s)] K := by
  simp only [BdAs, BdA, BdL, BdC, MX, ndC, shC, itC, stC, opC, chC, nwC, flC, rqC, rsC, enc, List.cons_append, List.nil_append, and_true, true_and] at hb
  unfold c56 at h
  obtain ⟨⟨hp, ho⟩, hK⟩ := h
  conv => whnf
  repeat' first
    | (refine Cnd.mk (fun h => ?_) (fun h => ?_) <;> (try simp [etas, elDef, -List.getD_eq_getElem?_getD] at h) <;> conv => whnf)
    | (refine Obl.mk (by first | omega | rfl | exact inK_byte _ | (simp only [inK, Int.toNat_natCast, etas, elDef] <;> first | omega | grind) | grind [inK]) ?_ <;> conv => whnf)
    | (refine OblG.mk (by conv => whnf
                          repeat (first | (refine Bx.mk ?_) | (intro h; (try simp [etas, elDef, -List.getD_eq_getElem?_getD] at h); conv => whnf))
                          first | omega | rfl | exact inK_byte _ | (simp only [inK, Int.toNat_natCast, etas, elDef] <;> first | omega | grind) | grind [inK]) ?_ <;> conv => whnf)
    | (refine Gd.mk (fun h => ?_) <;> (try simp [etas, elDef, -List.getD_eq_getElem?_getD] at h) <;> conv => whnf)
    | (refine And.intro ?_ ?_ <;> conv => whnf)
    | exact True.intro
    | (intro; conv => whnf)
  all_goals exact hK _ _ (by omega)
theorem s56 : (CtrOK Try.prog 56 (.gen .ps C56) ∧ Callable Try.prog 56) := by
  refine gen_ok (E := E56) (mkE_cons s33 (mkE_cons s67 (mkE_cons s68 (mkE_nil tab_ok)))) mix (O := O56) (C := C56) (own := .ps) Try.func56 rfl (by rfl) (by kernel_rfl) (fun args K h hbd => ?_)
  unfold C56 at h; split at h
  case h_2 => exact h.elim
  exact ⟨Nat.le_of_ble_eq_true rfl, a56 _ _ ⟨_, _⟩ (by exact hbd) _ h⟩
noncomputable def c58 (code : List Int) (p : Int) (K : AV → List AV → Prop) : Prop :=
    Obl ((0 ≤ p ∧ p ≤ 10000000) ∧ byOk code) (∀ (n : Nd) (p' : Int), smN n → p ≤ p' ∧ p' ≤ p + 2100 → K (.st (ndC n)) [.ref [.ps .u8 code, .int .i64 p']])
noncomputable def C58 : List AV → (AV → List AV → Prop) → Prop
  | [.ref [.ps .u8 code, .int .i64 p]], K => c58 code p K
  | _, _ => False
noncomputable def E58 : Ctx := mkE tab [(20, .gen .ps C20), (33, .gen .ps C33), (44, .gen .ps C44), (57, .gen .ow C57)]
noncomputable def O58 : Nat → List DI := ordL []
theorem a58 (code : List Int) (p : Int) (hb : BdAs [.ref [.ps .u8 code, .int .i64 p]]) (K : AV → List AV → Prop) (h : c58 code p K) : abody E58 O58 .ps Try.f58 (Try.f58.body.getD .skip) [.ref [.ps .u8 code, .int .i64 p]] K := by
  simp only [BdAs, BdA, BdL, BdC, MX, ndC, shC, itC, stC, opC, chC, nwC, flC, rqC, rsC, enc, List.cons_append, List.nil_append, and_true, true_and] at hb
  unfold c58 at h
  obtain ⟨⟨hp, ho⟩, hK⟩ := h
  conv => whnf
  repeat' first
    | (refine Cnd.mk (fun h => ?_) (fun h => ?_) <;> (try simp [etas, elDef, -List.getD_eq_getElem?_getD] at h) <;> conv => whnf)
    | (refine Obl.mk (by first | omega | rfl | exact inK_byte _ | (simp only [inK, Int.toNat_natCast, etas, elDef, m20] <;> first | omega | grind) | grind [inK, m20]) ?_ <;> conv => whnf)
    | (refine OblG.mk (by conv => whnf
                          repeat (first | (refine Bx.mk ?_) | (intro h; (try simp [etas, elDef, -List.getD_eq_getElem?_getD] at h); conv => whnf))
                          first | omega | rfl | exact inK_byte _ | (simp only [inK, Int.toNat_natCast, etas, elDef, m20] <;> first | omega | grind) | grind [inK, m20]) ?_ <;> conv => whnf)
    | (refine Gd.mk (fun h => ?_) <;> (try simp [etas, elDef, -List.getD_eq_getElem?_getD] at h) <;> conv => whnf)
    | (refine And.intro ?_ ?_ <;> conv => whnf)
    | exact True.intro
    | (intro; conv => whnf)
  · rename_i hs hq r1 h1 r2 h2
    exact hK ⟨_, _, _, _, _⟩ _ (smN_ch hs.1 hs.1.text hs.1.names) (by omega)
  · rename_i hs hq r1 h1 _ r2 h2
    exact hK ⟨_, _, _, _, _⟩ _ (smN_ch hs.1 hs.1.text hs.1.names) (by omega)
  · rename_i hs hq r1 h1 _ _
    exact hK ⟨_, _, _, _, _⟩ _ (smN_ch hs.1 (by simp) hs.1.names) (by omega)
  · rename_i hs hq r1 h1 _ _ _
    exact hK ⟨_, _, _, _, _⟩ _ (smN_ch hs.1 hs.1.text (by simp; omega)) (by omega)
  · rename_i hs hq r1 h1 _ _ _ _
    exact hK ⟨_, _, _, _, _⟩ _ (smN_one (smN_one (smN_one (smN_one hs.1)))) (by omega)
  · rename_i n1 n2 n3 n4 n5 p' hs hq r1 h1 _ _ _ _ _
    have hb0 := hs.1
    refine aloop_intro (Int × Int × List Nd) (fun ⟨c, q, l⟩ => (0 ≤ c ∧ c ≤ 7 ∧ l.length = c) ∧ (∀ x ∈ l, smN x) ∧ p' + 1 ≤ q ∧ q ≤ p' + 1 + c) (fun ⟨c, q, l⟩ => (7 - c).toNat) (fun ⟨c, q, l⟩ => [(5, .int .i64 c), (4, .ls 900)]) (fun ⟨c, q, l⟩ => [(900, .arr .node l), (3, .box (ndC ⟨n1, n2, n3, n4, n5⟩)), (1000000, .box [.ps .u8 code, .int .i64 q])]) [2] (0, p' + 1, []) [(900, 45)] [8000, 8001] ?_ ?_ (by exact sgOk_of (by rfl)) ?_
    · first | (simp; done) | (simp; assumption) | (simp only; grind)
    · (conv => whnf); (repeat' (first | exact trivial | rfl | (refine nilEq ?_; first | rfl | (simp only [*]; done) | (simp [*]; done) | grind) | apply And.intro | ((first | refine intEq ?_ | refine boolEq ?_ | refine strEq ?_ | refine psEq ?_ | refine nilEq ?_ | refine arrEq ?_); (try simp only [Int.toNat_natCast, etas, elDef]); first | done | omega | grind | (simp only [*]; done) | (simp [*]; done)))); (all_goals (conv => whnf)); (repeat' (first | exact trivial | rfl | (refine nilEq ?_; first | rfl | (simp only [*]; done) | (simp [*]; done) | grind) | apply And.intro | ((first | refine intEq ?_ | refine boolEq ?_ | refine strEq ?_ | refine psEq ?_ | refine nilEq ?_ | refine arrEq ?_); (try simp only [Int.toNat_natCast, etas, elDef]); first | done | omega | grind | (simp only [*]; done) | (simp [*]; done)) | ((try simp only [Int.toNat_natCast, etas, elDef]); first | done | omega | grind | (simp only [*]; done) | (simp [*]; done))))
    rintro ⟨c, q, l⟩ hinv
    dsimp only at hinv
    conv => whnf
    obtain ⟨hi1, hi2, hi3⟩ := hinv
    repeat' first
      | (refine Cnd.mk (fun h => ?_) (fun h => ?_) <;> (try simp [etas, elDef, -List.getD_eq_getElem?_getD] at h) <;> conv => whnf)
      | (refine Obl.mk (by first | omega | rfl | exact inK_byte _ | (simp only [inK, Int.toNat_natCast, etas, elDef, m20] <;> first | omega | grind) | grind [inK, m20]) ?_ <;> conv => whnf)
      | (refine OblG.mk (by conv => whnf
                            repeat (first | (refine Bx.mk ?_) | (intro h; (try simp [etas, elDef, -List.getD_eq_getElem?_getD] at h); conv => whnf))
                            first | omega | rfl | exact inK_byte _ | (simp only [inK, Int.toNat_natCast, etas, elDef, m20] <;> first | omega | grind) | grind [inK, m20]) ?_ <;> conv => whnf)
      | (refine Gd.mk (fun h => ?_) <;> (try simp [etas, elDef, -List.getD_eq_getElem?_getD] at h) <;> conv => whnf)
      | (refine And.intro ?_ ?_ <;> conv => whnf)
      | exact True.intro
      | (intro; conv => whnf)
    · exact ⟨(c + 1, q + 1, l ++ [⟨n1, n2, n3, n4, n5⟩]), [(900, 57)], [], ⟨by simp; omega, smN_snoc hi2 hs.1, by omega⟩, by simp only; omega, by (conv => whnf); (repeat' (first | exact trivial | rfl | (refine nilEq ?_; first | rfl | (simp only [*]; done) | (simp [*]; done) | grind) | apply And.intro | ((first | refine intEq ?_ | refine boolEq ?_ | refine strEq ?_ | refine psEq ?_ | refine nilEq ?_ | refine arrEq ?_); (try simp only [Int.toNat_natCast, etas, elDef]); first | done | omega | grind | (simp only [*]; done) | (simp [*]; done)))); (all_goals (conv => whnf)); (repeat' (first | exact trivial | rfl | (refine nilEq ?_; first | rfl | (simp only [*]; done) | (simp [*]; done) | grind) | apply And.intro | ((first | refine intEq ?_ | refine boolEq ?_ | refine strEq ?_ | refine psEq ?_ | refine nilEq ?_ | refine arrEq ?_); (try simp only [Int.toNat_natCast, etas, elDef]); first | done | omega | grind | (simp only [*]; done) | (simp [*]; done)) | ((try simp only [Int.toNat_natCast, etas, elDef]); first | done | omega | grind | (simp only [*]; done) | (simp [*]; done)))), (by exact sgOk_of (by rfl))⟩
    · exact hK ⟨_, _, _, _, _⟩ _ (smN_mk (by simp) (by simp) (by omega) hi2) (by omega)
  · rename_i hs hq r1 h1 _ _ _ _ _
    exact hK ⟨_, _, _, _, _⟩ _ hs.1 (by omega)
theorem s58 : (CtrOK Try.prog 58 (.gen .ps C58) ∧ Callable Try.prog 58) := by
  refine gen_ok (E := E58) (mkE_cons s20 (mkE_cons s33 (mkE_cons s44 (mkE_cons s57 (mkE_nil tab_ok))))) mix (O := O58) (C := C58) (own := .ps) Try.func58 rfl (by rfl) (by kernel_rfl) (fun args K h hbd => ?_)
  unfold C58 at h; split at h
  case h_2 => exact h.elim
  exact ⟨Nat.le_of_ble_eq_true rfl, a58 _ _ (by exact hbd) _ h⟩
noncomputable def c45 (code : List Int) (p : Int) (s : Sto) (K : AV → List AV → Prop) : Prop :=
    Obl ((0 ≤ p ∧ p ≤ 9000000) ∧ byOk code) (∀ (c : Chg) (p' : Int), p ≤ p' ∧ p' ≤ p + 5000 → K (.st (chC c)) [.ref [.ps .u8 code, .int .i64 p']])
noncomputable def C45 : List AV → (AV → List AV → Prop) → Prop
  | [.ref [.ps .u8 code, .int .i64 p], .st [.ps .item s_0, .int .i64 s_1]], K => c45 code p ⟨s_0, s_1⟩ K
  | _, _ => False
noncomputable def E45 : Ctx := mkE tab [(33, .gen .ps C33), (56, .gen .ps C56), (57, .gen .ow C57), (58, .gen .ps C58)]
noncomputable def O45 : Nat → List DI := ordL []
theorem a45 (code : List Int) (p : Int) (s : Sto) (hb : BdAs [.ref [.ps .u8 code, .int .i64 p], .st (stC s)]) (K : AV → List AV → Prop) (h : c45 code p s K) : abody E45 O45 .ps Try.f45 (Try.f45.body.getD .skip) [.ref [.ps .u8 code, .int .i64 p], .st (stC s)] K := by
  simp only [BdAs, BdA, BdL, BdC, MX, ndC, shC, itC, stC, opC, chC, nwC, flC, rqC, rsC, enc, List.cons_append, List.nil_append, and_true, true_and] at hb
  unfold c45 at h
  obtain ⟨⟨hp, ho⟩, hK⟩ := h
  conv => whnf
  repeat' first
    | (refine Cnd.mk (fun h => ?_) (fun h => ?_) <;> (try simp [etas, elDef, -List.getD_eq_getElem?_getD] at h) <;> conv => whnf)
    | (refine Obl.mk (by first | omega | rfl | exact inK_byte _ | (simp only [inK, Int.toNat_natCast, etas, elDef] <;> first | omega | grind) | grind [inK]) ?_ <;> conv => whnf)
    | (refine OblG.mk (by conv => whnf
                          repeat (first | (refine Bx.mk ?_) | (intro h; (try simp [etas, elDef, -List.getD_eq_getElem?_getD] at h); conv => whnf))
                          first | omega | rfl | exact inK_byte _ | (simp only [inK, Int.toNat_natCast, etas, elDef] <;> first | omega | grind) | grind [inK]) ?_ <;> conv => whnf)
    | (refine Gd.mk (fun h => ?_) <;> (try simp [etas, elDef, -List.getD_eq_getElem?_getD] at h) <;> conv => whnf)
    | (refine And.intro ?_ ?_ <;> conv => whnf)
    | exact True.intro
    | (intro; conv => whnf)
  all_goals exact hK ⟨_, _, ⟨_, _, _, _, _⟩⟩ _ (by omega)
theorem s45 : (CtrOK Try.prog 45 (.gen .ps C45) ∧ Callable Try.prog 45) := by
  refine gen_ok (E := E45) (mkE_cons s33 (mkE_cons s56 (mkE_cons s57 (mkE_cons s58 (mkE_nil tab_ok))))) mix (O := O45) (C := C45) (own := .ps) Try.func45 rfl (by rfl) (by kernel_rfl) (fun args K h hbd => ?_)
  unfold C45 at h; split at h
  case h_2 => exact h.elim
  exact ⟨Nat.le_of_ble_eq_true rfl, a45 _ _ ⟨_, _⟩ (by exact hbd) _ h⟩
noncomputable def c32 (code : List Int) (p : Int) (K : AV → List AV → Prop) : Prop :=
    Obl ((0 ≤ p ∧ p ≤ 1000000) ∧ byOk code) (∀ (l : List Chg) (p' : Int), l.length ≤ 20 → p ≤ p' ∧ p' ≤ p + 130000 → K (.ps .chg l) [.ref [.ps .u8 code, .int .i64 p']])
noncomputable def C32 : List AV → (AV → List AV → Prop) → Prop
  | [.ref [.ps .u8 code, .int .i64 p]], K => c32 code p K
  | _, _ => False
noncomputable def E32 : Ctx := mkE tab [(33, .gen .ps C33), (44, .gen .ps C44), (45, .gen .ps C45), (46, .gen .ps C46)]
noncomputable def O32 : Nat → List DI := ordL []
theorem a32 (code : List Int) (p : Int) (hb : BdAs [.ref [.ps .u8 code, .int .i64 p]]) (K : AV → List AV → Prop) (h : c32 code p K) : abody E32 O32 .ps Try.f32 (Try.f32.body.getD .skip) [.ref [.ps .u8 code, .int .i64 p]] K := by
  simp only [BdAs, BdA, BdL, BdC, MX, ndC, shC, itC, stC, opC, chC, nwC, flC, rqC, rsC, enc, List.cons_append, List.nil_append, and_true, true_and] at hb
  unfold c32 at h
  obtain ⟨⟨hp, ho⟩, hK⟩ := h
  conv => whnf
  repeat' first
    | (refine Cnd.mk (fun h => ?_) (fun h => ?_) <;> (try simp [etas, elDef, -List.getD_eq_getElem?_getD] at h) <;> conv => whnf)
    | (refine Obl.mk (by first | omega | rfl | exact inK_byte _ | (simp only [inK, Int.toNat_natCast, etas, elDef] <;> first | omega | grind) | grind [inK]) ?_ <;> conv => whnf)
    | (refine OblG.mk (by conv => whnf
                          repeat (first | (refine Bx.mk ?_) | (intro h; (try simp [etas, elDef, -List.getD_eq_getElem?_getD] at h); conv => whnf))
                          first | omega | rfl | exact inK_byte _ | (simp only [inK, Int.toNat_natCast, etas, elDef] <;> first | omega | grind) | grind [inK]) ?_ <;> conv => whnf)
    | (refine Gd.mk (fun h => ?_) <;> (try simp [etas, elDef, -List.getD_eq_getElem?_getD] at h) <;> conv => whnf)
    | (refine And.intro ?_ ?_ <;> conv => whnf)
    | exact True.intro
    | (intro; conv => whnf)
  rename_i r hr
  have hr0 : 0 ≤ r ∧ r ≤ 20 := by simp at hr; omega
  refine aloop_intro (Int × Int × List Chg × Sto) (fun ⟨c, q, l, s⟩ => (0 ≤ c ∧ l.length + c ≤ 20) ∧ p ≤ q ∧ q + c * 6000 ≤ p + 1 + 20 * 6000) (fun ⟨c, q, l, s⟩ => c.toNat) (fun ⟨c, q, l, s⟩ => [(5, .int .i64 c), (3, .ls 900)]) (fun ⟨c, q, l, s⟩ => [(900, .arr .chg l), (4, .box (stC s)), (1000000, .box [.ps .u8 code, .int .i64 q])]) [] (r, p + 1, [], ⟨[], 0⟩) [(900, 9)] [10] ?_ ?_ (by exact sgOk_of (by rfl)) ?_
  · first | (simp; done) | (simp; assumption) | (simp only; grind)
  · (conv => whnf); (repeat' (first | exact trivial | rfl | (refine nilEq ?_; first | rfl | (simp only [*]; done) | (simp [*]; done) | grind) | apply And.intro | ((first | refine intEq ?_ | refine boolEq ?_ | refine strEq ?_ | refine psEq ?_ | refine nilEq ?_ | refine arrEq ?_); (try simp only [Int.toNat_natCast, etas, elDef]); first | done | omega | grind | (simp only [*]; done) | (simp [*]; done)))); (all_goals (conv => whnf)); (repeat' (first | exact trivial | rfl | (refine nilEq ?_; first | rfl | (simp only [*]; done) | (simp [*]; done) | grind) | apply And.intro | ((first | refine intEq ?_ | refine boolEq ?_ | refine strEq ?_ | refine psEq ?_ | refine nilEq ?_ | refine arrEq ?_); (try simp only [Int.toNat_natCast, etas, elDef]); first | done | omega | grind | (simp only [*]; done) | (simp [*]; done)) | ((try simp only [Int.toNat_natCast, etas, elDef]); first | done | omega | grind | (simp only [*]; done) | (simp [*]; done))))
  rintro ⟨c, q, l, s⟩ hinv
  dsimp only at hinv
  conv => whnf
  obtain ⟨hi1, hi2, hi3⟩ := hinv
  repeat' first
    | (refine Cnd.mk (fun h => ?_) (fun h => ?_) <;> (try simp [etas, elDef, -List.getD_eq_getElem?_getD] at h) <;> conv => whnf)
    | (refine Obl.mk (by first | omega | rfl | exact inK_byte _ | (simp only [inK, Int.toNat_natCast, etas, elDef] <;> first | omega | grind) | grind [inK]) ?_ <;> conv => whnf)
    | (refine OblG.mk (by conv => whnf
                          repeat (first | (refine Bx.mk ?_) | (intro h; (try simp [etas, elDef, -List.getD_eq_getElem?_getD] at h); conv => whnf))
                          first | omega | rfl | exact inK_byte _ | (simp only [inK, Int.toNat_natCast, etas, elDef] <;> first | omega | grind) | grind [inK]) ?_ <;> conv => whnf)
    | (refine Gd.mk (fun h => ?_) <;> (try simp [etas, elDef, -List.getD_eq_getElem?_getD] at h) <;> conv => whnf)
    | (refine And.intro ?_ ?_ <;> conv => whnf)
    | exact True.intro
    | (intro; conv => whnf)
  · rename_i x q' hq
    exact ⟨(c - 1, q', l ++ [x], (applyCM s x).getD ⟨[], 0⟩), [(900, 33)], [], ⟨by simp; omega, by omega, by omega⟩, by simp only; omega, by (conv => whnf); (repeat' (first | exact trivial | rfl | (refine nilEq ?_; first | rfl | (simp only [*]; done) | (simp [*]; done) | grind) | apply And.intro | ((first | refine intEq ?_ | refine boolEq ?_ | refine strEq ?_ | refine psEq ?_ | refine nilEq ?_ | refine arrEq ?_); (try simp only [Int.toNat_natCast, etas, elDef]); first | done | omega | grind | (simp only [*]; done) | (simp [*]; done)))); (all_goals (conv => whnf)); (repeat' (first | exact trivial | rfl | (refine nilEq ?_; first | rfl | (simp only [*]; done) | (simp [*]; done) | grind) | apply And.intro | ((first | refine intEq ?_ | refine boolEq ?_ | refine strEq ?_ | refine psEq ?_ | refine nilEq ?_ | refine arrEq ?_); (try simp only [Int.toNat_natCast, etas, elDef]); first | done | omega | grind | (simp only [*]; done) | (simp [*]; done)) | ((try simp only [Int.toNat_natCast, etas, elDef]); first | done | omega | grind | (simp only [*]; done) | (simp [*]; done)))), (by exact sgOk_of (by rfl))⟩
  · rename_i x q' hq _ r1 h1
    exact ⟨(c - 1, q' + 1, l ++ [x], s), [(900, 40)], [], ⟨by simp; omega, by omega, by omega⟩, by simp only; omega, by (conv => whnf); (repeat' (first | exact trivial | rfl | (refine nilEq ?_; first | rfl | (simp only [*]; done) | (simp [*]; done) | grind) | apply And.intro | ((first | refine intEq ?_ | refine boolEq ?_ | refine strEq ?_ | refine psEq ?_ | refine nilEq ?_ | refine arrEq ?_); (try simp only [Int.toNat_natCast, etas, elDef]); first | done | omega | grind | (simp only [*]; done) | (simp [*]; done)))); (all_goals (conv => whnf)); (repeat' (first | exact trivial | rfl | (refine nilEq ?_; first | rfl | (simp only [*]; done) | (simp [*]; done) | grind) | apply And.intro | ((first | refine intEq ?_ | refine boolEq ?_ | refine strEq ?_ | refine psEq ?_ | refine nilEq ?_ | refine arrEq ?_); (try simp only [Int.toNat_natCast, etas, elDef]); first | done | omega | grind | (simp only [*]; done) | (simp [*]; done)) | ((try simp only [Int.toNat_natCast, etas, elDef]); first | done | omega | grind | (simp only [*]; done) | (simp [*]; done)))), (by exact sgOk_of (by rfl))⟩
  · rename_i x q' hq _ r1 h1
    exact ⟨(c - 1, q' + 1, l, s), [], [], ⟨by omega, by omega, by omega⟩, by simp only; omega, by (conv => whnf); (repeat' (first | exact trivial | rfl | (refine nilEq ?_; first | rfl | (simp only [*]; done) | (simp [*]; done) | grind) | apply And.intro | ((first | refine intEq ?_ | refine boolEq ?_ | refine strEq ?_ | refine psEq ?_ | refine nilEq ?_ | refine arrEq ?_); (try simp only [Int.toNat_natCast, etas, elDef]); first | done | omega | grind | (simp only [*]; done) | (simp [*]; done)))); (all_goals (conv => whnf)); (repeat' (first | exact trivial | rfl | (refine nilEq ?_; first | rfl | (simp only [*]; done) | (simp [*]; done) | grind) | apply And.intro | ((first | refine intEq ?_ | refine boolEq ?_ | refine strEq ?_ | refine psEq ?_ | refine nilEq ?_ | refine arrEq ?_); (try simp only [Int.toNat_natCast, etas, elDef]); first | done | omega | grind | (simp only [*]; done) | (simp [*]; done)) | ((try simp only [Int.toNat_natCast, etas, elDef]); first | done | omega | grind | (simp only [*]; done) | (simp [*]; done)))), (by exact sgOk_of (by rfl))⟩
  · exact hK _ _ (by omega) (by omega)
theorem s32 : (CtrOK Try.prog 32 (.gen .ps C32) ∧ Callable Try.prog 32) := by
  refine gen_ok (E := E32) (mkE_cons s33 (mkE_cons s44 (mkE_cons s45 (mkE_cons s46 (mkE_nil tab_ok))))) mix (O := O32) (C := C32) (own := .ps) Try.func32 rfl (by rfl) (by kernel_rfl) (fun args K h hbd => ?_)
  unfold C32 at h; split at h
  case h_2 => exact h.elim
  exact ⟨Nat.le_of_ble_eq_true rfl, a32 _ _ (by exact hbd) _ h⟩
end Go.Rs

