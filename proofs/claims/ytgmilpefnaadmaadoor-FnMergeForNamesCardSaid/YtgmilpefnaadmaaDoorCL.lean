import Derived.Test.YtgmilpefnaadmaaDoorCK
set_option linter.all false
namespace Go.Rs
open Go.Proofs
set_option maxRecDepth 100000
set_option linter.unusedVariables false
set_option linter.unusedSimpArgs false
noncomputable def c47 (code : List Int) (p : Int) (d : Int) (K : AV → List AV → Prop) : Prop :=
    Obl ((0 ≤ p ∧ p + costN d ≤ 100000000) ∧ byOk code ∧ 0 ≤ d ∧ d ≤ 3) (∀ (n1 n2 : Int) (n3 : Bs) (n4 : List Bs) (n5 : List Nd) (p' : Int), smN ⟨n1, n2, n3, n4, n5⟩ → p ≤ p' ∧ p' ≤ p + costN d → K (.st [.int .i64 n1, .int .i64 n2, .str n3, .own .str n4, .own .node n5]) [.ref [.ps .u8 code, .int .i64 p']])
noncomputable def m47 (code : List Int) (p : Int) (d : Int) : Nat := (2 * d + 1).toNat
noncomputable def C47 : List AV → (AV → List AV → Prop) → Prop
  | [.ref [.ps .u8 code, .int .i64 p], .int .i64 d], K => c47 code p d K
  | _, _ => False
noncomputable def Ck47 (k : Nat) : List AV → (AV → List AV → Prop) → Prop
  | [.ref [.ps .u8 code, .int .i64 p], .int .i64 d], K => Obl (m47 code p d < k) (c47 code p d K)
  | _, _ => False
noncomputable def c73 (code : List Int) (p : Int) (d : Int) (K : AV → List AV → Prop) : Prop :=
    Obl ((0 ≤ p ∧ p + costR d ≤ 100000000) ∧ byOk code ∧ 1 ≤ d ∧ d ≤ 3) (∀ (n1 n2 : Int) (n3 : Bs) (n4 : List Bs) (n5 : List Nd) (p' : Int), smN ⟨n1, n2, n3, n4, n5⟩ → p ≤ p' ∧ p' ≤ p + costR d → K (.st [.int .i64 n1, .int .i64 n2, .str n3, .own .str n4, .own .node n5]) [.ref [.ps .u8 code, .int .i64 p']])
noncomputable def m73 (code : List Int) (p : Int) (d : Int) : Nat := (2 * d).toNat
noncomputable def C73 : List AV → (AV → List AV → Prop) → Prop
  | [.ref [.ps .u8 code, .int .i64 p], .int .i64 d], K => c73 code p d K
  | _, _ => False
noncomputable def Ck73 (k : Nat) : List AV → (AV → List AV → Prop) → Prop
  | [.ref [.ps .u8 code, .int .i64 p], .int .i64 d], K => Obl (m73 code p d < k) (c73 code p d K)
  | _, _ => False
noncomputable def E47 (k : Nat) : Ctx := mkE tab [(45, .gen .ps C45), (47, .gen .ow (Ck47 k)), (68, .gen .ps C68), (72, .gen .ps C72), (73, .gen .ow (Ck73 k))]
noncomputable def O47 : Nat → List DI := ordL []
theorem a47 (k : Nat) (code : List Int) (p : Int) (d : Int) (hm : m47 code p d < k + 1) (hb : BdAs [.ref [.ps .u8 code, .int .i64 p], .int .i64 d]) (K : AV → List AV → Prop) (h : c47 code p d K) : abody (E47 k) O47 .ow Tryd.f47 (Tryd.f47.body.getD .skip) [.ref [.ps .u8 code, .int .i64 p], .int .i64 d] K := by
  simp only [BdAs, BdA, BdL, BdC, MX, ndC, shC, itC, stC, opC, chC, nwC, flC, rqC, rsC, enc, List.cons_append, List.nil_append, and_true, true_and] at hb
  unfold c47 at h
  unfold m47 at hm
  obtain ⟨⟨hp, ho, hd⟩, hK⟩ := h
  obtain ⟨hc1, hc2, hc3, hc4, hc5, hc6⟩ := cost_facts d
  have hc7 := (cost_facts (d - 1)).2.2
  conv => whnf
  repeat' first
    | (refine Cnd.mk (fun h => ?_) (fun h => ?_) <;> (try simp [etas, elDef, -List.getD_eq_getElem?_getD] at h) <;> conv => whnf)
    | (refine Obl.mk (by first | omega | rfl | exact inK_byte _ | (simp only [inK, Int.toNat_natCast, etas, elDef, m47, m73, m47, m73] <;> first | omega | grind) | grind [inK, m47, m73, m47, m73]) ?_ <;> conv => whnf)
    | (refine OblG.mk (by conv => whnf
                          repeat (first | (refine Bx.mk ?_) | (intro h; (try simp [etas, elDef, -List.getD_eq_getElem?_getD] at h); conv => whnf))
                          first | omega | rfl | exact inK_byte _ | (simp only [inK, Int.toNat_natCast, etas, elDef, m47, m73, m47, m73] <;> first | omega | grind) | grind [inK, m47, m73, m47, m73]) ?_ <;> conv => whnf)
    | (refine Gd.mk (fun h => ?_) <;> (try simp [etas, elDef, -List.getD_eq_getElem?_getD] at h) <;> conv => whnf)
    | (refine And.intro ?_ ?_ <;> conv => whnf)
    | exact True.intro
    | (intro; conv => whnf)
  · exact hK _ _ _ _ _ _ (smN_leaf (by simp)) (by omega)
  · exact hK _ _ _ _ _ _ (smN_leaf (by omega)) (by omega)
  · exfalso; omega
  · exfalso; omega
  · exact hK _ _ _ _ _ _ (smN_leaf (by simp)) (by omega)
  · exact hK _ _ _ _ _ _ (smN_leaf (by simp)) (by omega)
  · exact hK _ _ _ _ _ _ (smN_leaf (by omega)) (by omega)
  · rename_i r hr
    have hr3 := mul_le_c (c := r) (T := costN (d - 1)) (k := 3) (by omega) (by omega)
    refine aloop_intro (Int × Int × List Nd) (fun ⟨c, q, l⟩ => (0 ≤ c ∧ c ≤ 3 ∧ l.length + c ≤ 3) ∧ (∀ x ∈ l, smN x) ∧ p ≤ q ∧ q + c * costN (d - 1) ≤ p + 2 + 3 * costN (d - 1)) (fun ⟨c, q, l⟩ => c.toNat) (fun ⟨c, q, l⟩ => [(7, .int .i64 c), (6, .ls 900)]) (fun ⟨c, q, l⟩ => [(900, .arr .node l), (1000000, .box [.ps .u8 code, .int .i64 q])]) [4] (r, p + 2, []) [(900, 32)] [] ?_ ?_ (by exact sgOk_of (by rfl)) ?_
    · first | (simp; done) | (simp; assumption) | (simp only; grind)
    · (conv => whnf); (repeat' (first | exact trivial | rfl | (refine nilEq ?_; first | rfl | (simp only [*]; done) | (simp [*]; done) | grind) | apply And.intro | ((first | refine intEq ?_ | refine boolEq ?_ | refine strEq ?_ | refine psEq ?_ | refine nilEq ?_ | refine arrEq ?_); (try simp only [Int.toNat_natCast, etas, elDef]); first | done | omega | grind | (simp only [*]; done) | (simp [*]; done)))); (all_goals (conv => whnf)); (repeat' (first | exact trivial | rfl | (refine nilEq ?_; first | rfl | (simp only [*]; done) | (simp [*]; done) | grind) | apply And.intro | ((first | refine intEq ?_ | refine boolEq ?_ | refine strEq ?_ | refine psEq ?_ | refine nilEq ?_ | refine arrEq ?_); (try simp only [Int.toNat_natCast, etas, elDef]); first | done | omega | grind | (simp only [*]; done) | (simp [*]; done)) | ((try simp only [Int.toNat_natCast, etas, elDef]); first | done | omega | grind | (simp only [*]; done) | (simp [*]; done))))
    rintro ⟨c, q, l⟩ hinv
    dsimp only at hinv
    conv => whnf
    obtain ⟨hi1, hi2, hi3, hi4⟩ := hinv
    have hs := mul_step c (costN (d - 1))
    have hn := mul_nn (c := c) (T := costN (d - 1)) (by omega) (by omega)
    repeat' first
      | (refine Cnd.mk (fun h => ?_) (fun h => ?_) <;> (try simp [etas, elDef, -List.getD_eq_getElem?_getD] at h) <;> conv => whnf)
      | (refine Obl.mk (by first | omega | rfl | exact inK_byte _ | (simp only [inK, Int.toNat_natCast, etas, elDef, m47, m73, m47, m73] <;> first | omega | grind) | grind [inK, m47, m73, m47, m73]) ?_ <;> conv => whnf)
      | (refine OblG.mk (by conv => whnf
                            repeat (first | (refine Bx.mk ?_) | (intro h; (try simp [etas, elDef, -List.getD_eq_getElem?_getD] at h); conv => whnf))
                            first | omega | rfl | exact inK_byte _ | (simp only [inK, Int.toNat_natCast, etas, elDef, m47, m73, m47, m73] <;> first | omega | grind) | grind [inK, m47, m73, m47, m73]) ?_ <;> conv => whnf)
      | (refine Gd.mk (fun h => ?_) <;> (try simp [etas, elDef, -List.getD_eq_getElem?_getD] at h) <;> conv => whnf)
      | (refine And.intro ?_ ?_ <;> conv => whnf)
      | exact True.intro
      | (intro; conv => whnf)
    · rename_i m1 m2 m3 m4 m5 q' hsm hq
      exact ⟨(c - 1, q', l ++ [⟨m1, m2, m3, m4, m5⟩]), [(900, 45)], [], ⟨by simp; omega, by simp; intro x hx; rcases hx with hx | rfl; exact hi2 x hx; exact hsm, by omega, by omega⟩, by simp only; omega, by (conv => whnf); (repeat' (first | exact trivial | rfl | (refine nilEq ?_; first | rfl | (simp only [*]; done) | (simp [*]; done) | grind) | apply And.intro | ((first | refine intEq ?_ | refine boolEq ?_ | refine strEq ?_ | refine psEq ?_ | refine nilEq ?_ | refine arrEq ?_); (try simp only [Int.toNat_natCast, etas, elDef]); first | done | omega | grind | (simp only [*]; done) | (simp [*]; done)))); (all_goals (conv => whnf)); (repeat' (first | exact trivial | rfl | (refine nilEq ?_; first | rfl | (simp only [*]; done) | (simp [*]; done) | grind) | apply And.intro | ((first | refine intEq ?_ | refine boolEq ?_ | refine strEq ?_ | refine psEq ?_ | refine nilEq ?_ | refine arrEq ?_); (try simp only [Int.toNat_natCast, etas, elDef]); first | done | omega | grind | (simp only [*]; done) | (simp [*]; done)) | ((try simp only [Int.toNat_natCast, etas, elDef]); first | done | omega | grind | (simp only [*]; done) | (simp [*]; done)))), (by exact sgOk_of (by rfl))⟩
    · exact hK _ _ _ _ _ _ (smN_mk (by simp) (by simp) (by omega) hi2) (by omega)
  · rename_i hsm hq
    exact hK _ _ _ _ _ _ hsm (by omega)
  · exact hK _ _ _ _ _ _ (smN_leaf (by simp)) (by omega)
noncomputable def E73 (k : Nat) : Ctx := mkE tab [(47, .gen .ow (Ck47 k)), (62, .pure F62), (68, .gen .ps C68), (74, .gen .ow C74), (92, .gen .ps C92)]
noncomputable def O73 : Nat → List DI := ordL []
theorem a73 (k : Nat) (code : List Int) (p : Int) (d : Int) (hm : m73 code p d < k + 1) (hb : BdAs [.ref [.ps .u8 code, .int .i64 p], .int .i64 d]) (K : AV → List AV → Prop) (h : c73 code p d K) : abody (E73 k) O73 .ow Tryd.f73 (Tryd.f73.body.getD .skip) [.ref [.ps .u8 code, .int .i64 p], .int .i64 d] K := by
  simp only [BdAs, BdA, BdL, BdC, MX, ndC, shC, itC, stC, opC, chC, nwC, flC, rqC, rsC, enc, List.cons_append, List.nil_append, and_true, true_and] at hb
  unfold c73 at h
  unfold m73 at hm
  obtain ⟨⟨hp, ho, hd⟩, hK⟩ := h
  obtain ⟨hc1, hc2, hc3, hc4, hc5, hc6⟩ := cost_facts d
  have hc7 := (cost_facts (d - 1)).2.2
  conv => whnf
  repeat' first
    | (refine Cnd.mk (fun h => ?_) (fun h => ?_) <;> (try simp [etas, elDef, -List.getD_eq_getElem?_getD] at h) <;> conv => whnf)
    | (refine Obl.mk (by first | omega | rfl | exact inK_byte _ | (simp only [inK, Int.toNat_natCast, etas, elDef, m47, m73, m47, o62] <;> first | omega | grind) | grind [inK, m47, m73, m47, o62]) ?_ <;> conv => whnf)
    | (refine OblG.mk (by conv => whnf
                          repeat (first | (refine Bx.mk ?_) | (intro h; (try simp [etas, elDef, -List.getD_eq_getElem?_getD] at h); conv => whnf))
                          first | omega | rfl | exact inK_byte _ | (simp only [inK, Int.toNat_natCast, etas, elDef, m47, m73, m47, o62] <;> first | omega | grind) | grind [inK, m47, m73, m47, o62]) ?_ <;> conv => whnf)
    | (refine Gd.mk (fun h => ?_) <;> (try simp [etas, elDef, -List.getD_eq_getElem?_getD] at h) <;> conv => whnf)
    | (refine And.intro ?_ ?_ <;> conv => whnf)
    | exact True.intro
    | (intro; conv => whnf)
  rename_i r hr
  have hr0 : 0 ≤ r ∧ r ≤ 4 := by simp at hr; omega
  have hr3 := mul_le_c (c := r) (T := costN (d - 1) + 1) (k := 4) (by omega) (by omega)
  have hm0 : mapOk ⟨4, 0, [], [], []⟩ r := ⟨rfl, fun _ => rfl, smN_leaf (by simp), by simp; omega, by omega⟩
  refine aloop_intro (Int × Int × Nd) (fun ⟨c, q, m⟩ => mapOk m c ∧ p ≤ q ∧ q + c * (costN (d - 1) + 1) ≤ p + 1 + 4 * (costN (d - 1) + 1)) (fun ⟨c, q, m⟩ => c.toNat) (fun ⟨c, q, m⟩ => [(6, .int .i64 c)]) (fun ⟨c, q, m⟩ => [(5, .box [.int .i64 m.kind, .int .i64 m.num, .str m.text, .ls 901, .ls 902]), (901, .arr .str m.names), (902, .arr .node m.kids), (1000000, .box [.ps .u8 code, .int .i64 q])]) [4] (r, p + 1, ⟨4, 0, [], [], []⟩) [(901, 9), (902, 10)] [] ?_ ?_ (by exact sgOk_of (by rfl)) ?_
  · first | (simp; done) | (simp; assumption) | (simp only; grind)
  · (conv => whnf); (repeat' (first | exact trivial | rfl | (refine nilEq ?_; first | rfl | (simp only [*]; done) | (simp [*]; done) | grind) | apply And.intro | ((first | refine intEq ?_ | refine boolEq ?_ | refine strEq ?_ | refine psEq ?_ | refine nilEq ?_ | refine arrEq ?_); (try simp only [Int.toNat_natCast, etas, elDef]); first | done | omega | grind | (simp only [*]; done) | (simp [*]; done)))); (all_goals (conv => whnf)); (repeat' (first | exact trivial | rfl | (refine nilEq ?_; first | rfl | (simp only [*]; done) | (simp [*]; done) | grind) | apply And.intro | ((first | refine intEq ?_ | refine boolEq ?_ | refine strEq ?_ | refine psEq ?_ | refine nilEq ?_ | refine arrEq ?_); (try simp only [Int.toNat_natCast, etas, elDef]); first | done | omega | grind | (simp only [*]; done) | (simp [*]; done)) | ((try simp only [Int.toNat_natCast, etas, elDef]); first | done | omega | grind | (simp only [*]; done) | (simp [*]; done))))
  rintro ⟨c, q, m⟩ hinv
  dsimp only at hinv
  conv => whnf
  obtain ⟨hi1, hi2, hi3⟩ := hinv
  have hs := mul_step c (costN (d - 1) + 1)
  have hn := mul_nn (c := c) (T := costN (d - 1) + 1) hi1.2.2.2.2 (by omega)
  have hn2 : 0 < c → 0 ≤ (c - 1) * (costN (d - 1) + 1) := fun h => mul_nn (by omega) (by omega)
  have hmk := hi1.1
  have hme : m.kind = 4 → m.names.length = m.kids.length := hi1.2.1
  have hml := hi1.2.2.2
  have hms := smN_eta hi1.2.2.1
  have hevm : evenN ⟨m.kind, m.num, m.text, m.names, m.kids⟩ := hi1.2.1
  repeat' first
    | (refine Cnd.mk (fun h => ?_) (fun h => ?_) <;> (try simp [etas, elDef, -List.getD_eq_getElem?_getD] at h) <;> conv => whnf)
    | (refine Obl.mk (by first | omega | rfl | exact inK_byte _ | (simp only [inK, Int.toNat_natCast, etas, elDef, m47, m73, m47, o62] <;> first | omega | grind) | grind [inK, m47, m73, m47, o62]) ?_ <;> conv => whnf)
    | (refine OblG.mk (by conv => whnf
                          repeat (first | (refine Bx.mk ?_) | (intro h; (try simp [etas, elDef, -List.getD_eq_getElem?_getD] at h); conv => whnf))
                          first | omega | rfl | exact inK_byte _ | (simp only [inK, Int.toNat_natCast, etas, elDef, m47, m73, m47, o62] <;> first | omega | grind) | grind [inK, m47, m73, m47, o62]) ?_ <;> conv => whnf)
    | (refine Gd.mk (fun h => ?_) <;> (try simp [etas, elDef, -List.getD_eq_getElem?_getD] at h) <;> conv => whnf)
    | (refine And.intro ?_ ?_ <;> conv => whnf)
    | exact True.intro
    | (intro; conv => whnf)
  · rename_i b hb9 x1 x2 x3 x4 x5 q' hx hq
    have hpl : placeM ⟨m.kind, m.num, m.text, m.names, m.kids⟩ b < 0 := by simpa only [nd_eta] using h
    have hadd := hi1.add (by omega) hx (b := b) h
    rw [← nd_eta m] at hadd
    refine Obl.mk ⟨⟨hms, hx⟩, by omega, by have := hme hmk; omega, hevm, hpl⟩ ?_
    conv => whnf
    repeat' first
      | (refine Cnd.mk (fun h => ?_) (fun h => ?_) <;> (try simp [etas, elDef, -List.getD_eq_getElem?_getD] at h) <;> conv => whnf)
      | (refine Obl.mk (by first | omega | rfl | exact inK_byte _ | (simp only [inK, Int.toNat_natCast, etas, elDef, m47, m73, m47, o62] <;> first | omega | grind) | grind [inK, m47, m73, m47, o62]) ?_ <;> conv => whnf)
      | (refine OblG.mk (by conv => whnf
                            repeat (first | (refine Bx.mk ?_) | (intro h; (try simp [etas, elDef, -List.getD_eq_getElem?_getD] at h); conv => whnf))
                            first | omega | rfl | exact inK_byte _ | (simp only [inK, Int.toNat_natCast, etas, elDef, m47, m73, m47, o62] <;> first | omega | grind) | grind [inK, m47, m73, m47, o62]) ?_ <;> conv => whnf)
      | (refine Gd.mk (fun h => ?_) <;> (try simp [etas, elDef, -List.getD_eq_getElem?_getD] at h) <;> conv => whnf)
      | (refine And.intro ?_ ?_ <;> conv => whnf)
      | exact True.intro
      | (intro; conv => whnf)
    exact ⟨(c - 1, q', (addHereM ⟨m.kind, m.num, m.text, m.names, m.kids⟩ b ⟨x1, x2, x3, x4, x5⟩).getD default), [(901, 34000), (902, 34001)], [], ⟨hadd, by omega, by omega⟩, by simp only; omega, by (conv => whnf); (repeat' (first | exact trivial | rfl | (refine nilEq ?_; first | rfl | (simp only [*]; done) | (simp [*]; done) | grind) | apply And.intro | ((first | refine intEq ?_ | refine boolEq ?_ | refine strEq ?_ | refine psEq ?_ | refine nilEq ?_ | refine arrEq ?_); (try simp only [Int.toNat_natCast, etas, elDef]); first | done | omega | grind | (simp only [*]; done) | (simp [*]; done)))); (all_goals (conv => whnf)); (repeat' (first | exact trivial | rfl | (refine nilEq ?_; first | rfl | (simp only [*]; done) | (simp [*]; done) | grind) | apply And.intro | ((first | refine intEq ?_ | refine boolEq ?_ | refine strEq ?_ | refine psEq ?_ | refine nilEq ?_ | refine arrEq ?_); (try simp only [Int.toNat_natCast, etas, elDef]); first | done | omega | grind | (simp only [*]; done) | (simp [*]; done)) | ((try simp only [Int.toNat_natCast, etas, elDef]); first | done | omega | grind | (simp only [*]; done) | (simp [*]; done)))), (by exact sgOk_of (by rfl))⟩
  · rename_i b hb9 x1 x2 x3 x4 x5 q' hx hq
    exact ⟨(c - 1, q', m), [], [], ⟨hi1.stay (by omega), by omega, by omega⟩, by simp only; omega, by (conv => whnf); (repeat' (first | exact trivial | rfl | (refine nilEq ?_; first | rfl | (simp only [*]; done) | (simp [*]; done) | grind) | apply And.intro | ((first | refine intEq ?_ | refine boolEq ?_ | refine strEq ?_ | refine psEq ?_ | refine nilEq ?_ | refine arrEq ?_); (try simp only [Int.toNat_natCast, etas, elDef]); first | done | omega | grind | (simp only [*]; done) | (simp [*]; done)))); (all_goals (conv => whnf)); (repeat' (first | exact trivial | rfl | (refine nilEq ?_; first | rfl | (simp only [*]; done) | (simp [*]; done) | grind) | apply And.intro | ((first | refine intEq ?_ | refine boolEq ?_ | refine strEq ?_ | refine psEq ?_ | refine nilEq ?_ | refine arrEq ?_); (try simp only [Int.toNat_natCast, etas, elDef]); first | done | omega | grind | (simp only [*]; done) | (simp [*]; done)) | ((try simp only [Int.toNat_natCast, etas, elDef]); first | done | omega | grind | (simp only [*]; done) | (simp [*]; done)))), (by exact sgOk_of (by rfl))⟩
  · exact hK _ _ _ _ _ _ hms (by omega)
theorem r47_73 : ∀ k, (CtrOK Tryd.prog 47 (.gen .ow (Ck47 k)) ∧ Callable Tryd.prog 47) ∧ (CtrOK Tryd.prog 73 (.gen .ow (Ck73 k)) ∧ Callable Tryd.prog 73) := by
  intro k
  induction k with
  | zero =>
    exact ⟨⟨fun args K h => by
        unfold Ck47 at h; split at h
        · exact absurd h.o (Nat.not_lt_zero _)
        · exact h.elim, callable Tryd.func47 rfl (by rfl)⟩, ⟨fun args K h => by
        unfold Ck73 at h; split at h
        · exact absurd h.o (Nat.not_lt_zero _)
        · exact h.elim, callable Tryd.func73 rfl (by rfl)⟩⟩
  | succ k ih =>
    refine ⟨?_, ?_⟩
    · refine gen_ok (E := E47 k) (mkE_cons s45 (mkE_cons ih.1 (mkE_cons s68 (mkE_cons s72 (mkE_cons ih.2 (mkE_nil tab_ok)))))) mix (O := O47) (C := (Ck47 (k + 1))) (own := .ow) Tryd.func47 rfl (by rfl) (by kernel_rfl) (fun args K h hbd => ?_)
      unfold Ck47 at h; split at h
      case h_2 => exact h.elim
      exact ⟨Nat.le_of_ble_eq_true rfl, a47 k _ _ _ h.o (by exact hbd) _ h.k⟩
    · refine gen_ok (E := E73 k) (mkE_cons ih.1 (mkE_cons s62 (mkE_cons s68 (mkE_cons s74 (mkE_cons s92 (mkE_nil tab_ok)))))) mix (O := O73) (C := (Ck73 (k + 1))) (own := .ow) Tryd.func73 rfl (by rfl) (by kernel_rfl) (fun args K h hbd => ?_)
      unfold Ck73 at h; split at h
      case h_2 => exact h.elim
      exact ⟨Nat.le_of_ble_eq_true rfl, a73 k _ _ _ h.o (by exact hbd) _ h.k⟩
theorem s47 : (CtrOK Tryd.prog 47 (.gen .ow C47) ∧ Callable Tryd.prog 47) := by
  refine ⟨fun args K h => ?_, (r47_73 0).1.2⟩
  unfold C47 at h; split at h
  · exact (r47_73 (m47 _ _ _ + 1)).1.1 _ K ⟨Nat.lt_succ_self _, h⟩
  · exact h.elim
theorem s73 : (CtrOK Tryd.prog 73 (.gen .ow C73) ∧ Callable Tryd.prog 73) := by
  refine ⟨fun args K h => ?_, (r47_73 0).2.2⟩
  unfold C73 at h; split at h
  · exact (r47_73 (m73 _ _ _ + 1)).2.1 _ K ⟨Nat.lt_succ_self _, h⟩
  · exact h.elim
noncomputable def c67 (code : List Int) (p : Int) (K : AV → List AV → Prop) : Prop :=
    Obl ((0 ≤ p ∧ p ≤ 10000000) ∧ byOk code) (∀ (n1 n2 : Int) (n3 : Bs) (n4 : List Bs) (n5 : List Nd) (p' : Int), smN ⟨n1, n2, n3, n4, n5⟩ ∧ n4.length ≤ 1000 → p ≤ p' ∧ p' ≤ p + 2000 → K (.st [.int .i64 n1, .int .i64 n2, .str n3, .own .str n4, .own .node n5]) [.ref [.ps .u8 code, .int .i64 p']])
noncomputable def C67 : List AV → (AV → List AV → Prop) → Prop
  | [.ref [.ps .u8 code, .int .i64 p]], K => c67 code p K
  | _, _ => False
noncomputable def E67 : Ctx := mkE tab [(31, .pure F31), (45, .gen .ps C45), (47, .gen .ow C47), (73, .gen .ow C73)]
noncomputable def O67 : Nat → List DI := ordL []
theorem a67 (code : List Int) (p : Int) (hb : BdAs [.ref [.ps .u8 code, .int .i64 p]]) (K : AV → List AV → Prop) (h : c67 code p K) : abody E67 O67 .ow Tryd.f67 (Tryd.f67.body.getD .skip) [.ref [.ps .u8 code, .int .i64 p]] K := by
  simp only [BdAs, BdA, BdL, BdC, MX, ndC, shC, itC, stC, opC, chC, nwC, flC, rqC, rsC, enc, List.cons_append, List.nil_append, and_true, true_and] at hb
  unfold c67 at h
  obtain ⟨⟨hp, ho⟩, hK⟩ := h
  have hc := (cost_facts 3).2.2
  have hv : ∀ {n1 n2 : Int} {n3 : Bs} {n4 : List Bs} {n5 : List Nd}, validM ⟨n1, n2, n3, n4, n5⟩ = true → smN ⟨n1, n2, n3, n4, n5⟩ ∧ n4.length ≤ 1000 := fun h => ⟨validM_sm h, by have := (okN_names (validM_ok h)).1; simp only at this; omega⟩
  conv => whnf
  repeat' first
    | (refine Cnd.mk (fun h => ?_) (fun h => ?_) <;> (try simp [etas, elDef, -List.getD_eq_getElem?_getD] at h) <;> conv => whnf)
    | (refine Obl.mk (by first | omega | rfl | exact inK_byte _ | (simp only [inK, Int.toNat_natCast, etas, elDef, m47, m73] <;> first | omega | grind) | grind [inK, m47, m73]) ?_ <;> conv => whnf)
    | (refine OblG.mk (by conv => whnf
                          repeat (first | (refine Bx.mk ?_) | (intro h; (try simp [etas, elDef, -List.getD_eq_getElem?_getD] at h); conv => whnf))
                          first | omega | rfl | exact inK_byte _ | (simp only [inK, Int.toNat_natCast, etas, elDef, m47, m73] <;> first | omega | grind) | grind [inK, m47, m73]) ?_ <;> conv => whnf)
    | (refine Gd.mk (fun h => ?_) <;> (try simp [etas, elDef, -List.getD_eq_getElem?_getD] at h) <;> conv => whnf)
    | (refine And.intro ?_ ?_ <;> conv => whnf)
    | exact True.intro
    | (intro; conv => whnf)
  · exact hK _ _ _ _ _ _ ⟨smN_leaf (by simp), by simp⟩ (by omega)
  · exact hK _ _ _ _ _ _ (hv h) (by omega)
  · exact hK _ _ _ _ _ _ ⟨smN_leaf (by simp), by simp⟩ (by omega)
  · exact hK _ _ _ _ _ _ (hv h) (by omega)
theorem s67 : (CtrOK Tryd.prog 67 (.gen .ow C67) ∧ Callable Tryd.prog 67) := by
  refine gen_ok (E := E67) (mkE_cons s31 (mkE_cons s45 (mkE_cons s47 (mkE_cons s73 (mkE_nil tab_ok))))) mix (O := O67) (C := C67) (own := .ow) Tryd.func67 rfl (by rfl) (by kernel_rfl) (fun args K h hbd => ?_)
  unfold C67 at h; split at h
  case h_2 => exact h.elim
  exact ⟨Nat.le_of_ble_eq_true rfl, a67 _ _ (by exact hbd) _ h⟩
noncomputable def c43 (code : List Int) (p : Int) (K : AV → List AV → Prop) : Prop :=
    Obl ((0 ≤ p ∧ p ≤ 10000000) ∧ byOk code) (∀ (n : Nd) (p' : Int), smN n → p ≤ p' ∧ p' ≤ p + 2100 → K (.st (ndC n)) [.ref [.ps .u8 code, .int .i64 p']])
noncomputable def C43 : List AV → (AV → List AV → Prop) → Prop
  | [.ref [.ps .u8 code, .int .i64 p]], K => c43 code p K
  | _, _ => False
noncomputable def E43 : Ctx := mkE tab [(45, .gen .ps C45), (67, .gen .ow C67), (68, .gen .ps C68), (69, .gen .ps C69)]
noncomputable def O43 : Nat → List DI := ordL []
theorem a43 (code : List Int) (p : Int) (hb : BdAs [.ref [.ps .u8 code, .int .i64 p]]) (K : AV → List AV → Prop) (h : c43 code p K) : abody E43 O43 .ps Tryd.f43 (Tryd.f43.body.getD .skip) [.ref [.ps .u8 code, .int .i64 p]] K := by
  simp only [BdAs, BdA, BdL, BdC, MX, ndC, shC, itC, stC, opC, chC, nwC, flC, rqC, rsC, enc, List.cons_append, List.nil_append, and_true, true_and] at hb
  unfold c43 at h
  obtain ⟨⟨hp, ho⟩, hK⟩ := h
  conv => whnf
  repeat' first
    | (refine Cnd.mk (fun h => ?_) (fun h => ?_) <;> (try simp [etas, elDef, -List.getD_eq_getElem?_getD] at h) <;> conv => whnf)
    | (refine Obl.mk (by first | omega | rfl | exact inK_byte _ | (simp only [inK, Int.toNat_natCast, etas, elDef, m69] <;> first | omega | grind) | grind [inK, m69]) ?_ <;> conv => whnf)
    | (refine OblG.mk (by conv => whnf
                          repeat (first | (refine Bx.mk ?_) | (intro h; (try simp [etas, elDef, -List.getD_eq_getElem?_getD] at h); conv => whnf))
                          first | omega | rfl | exact inK_byte _ | (simp only [inK, Int.toNat_natCast, etas, elDef, m69] <;> first | omega | grind) | grind [inK, m69]) ?_ <;> conv => whnf)
    | (refine Gd.mk (fun h => ?_) <;> (try simp [etas, elDef, -List.getD_eq_getElem?_getD] at h) <;> conv => whnf)
    | (refine And.intro ?_ ?_ <;> conv => whnf)
    | exact True.intro
    | (intro; conv => whnf)
  · rename_i hs hq r1 h1 r2 h2
    exact hK ⟨_, _, _, _, _⟩ _ (smN_ch hs.1 hs.1.text hs.1.names) (by omega)
  · rename_i hs hq r1 h1 _ r2 h2
    exact hK ⟨_, _, _, _, _⟩ _ (smN_ch hs.1 hs.1.text hs.1.names) (by omega)
  · rename_i hs hq r1 h1 _ _
    exact hK ⟨_, _, _, _, _⟩ _ (smN_ch hs.1 (by simp) hs.1.names) (by omega)
  · rename_i hs hq r1 h1 _ _ _
    exact hK ⟨_, _, _, _, _⟩ _ (smN_ch hs.1 hs.1.text (by simp; omega)) (by omega)
  · rename_i hs hq r1 h1 _ _ _ _
    exact hK ⟨_, _, _, _, _⟩ _ (smN_one (smN_one (smN_one (smN_one hs.1)))) (by omega)
  · rename_i n1 n2 n3 n4 n5 p' hs hq r1 h1 _ _ _ _ _
    have hb0 := hs.1
    refine aloop_intro (Int × Int × List Nd) (fun ⟨c, q, l⟩ => (0 ≤ c ∧ c ≤ 7 ∧ l.length = c) ∧ (∀ x ∈ l, smN x) ∧ p' + 1 ≤ q ∧ q ≤ p' + 1 + c) (fun ⟨c, q, l⟩ => (7 - c).toNat) (fun ⟨c, q, l⟩ => [(5, .int .i64 c), (4, .ls 900)]) (fun ⟨c, q, l⟩ => [(900, .arr .node l), (3, .box (ndC ⟨n1, n2, n3, n4, n5⟩)), (1000000, .box [.ps .u8 code, .int .i64 q])]) [2] (0, p' + 1, []) [(900, 45)] [8000, 8001] ?_ ?_ (by exact sgOk_of (by rfl)) ?_
    · first | (simp; done) | (simp; assumption) | (simp only; grind)
    · (conv => whnf); (repeat' (first | exact trivial | rfl | (refine nilEq ?_; first | rfl | (simp only [*]; done) | (simp [*]; done) | grind) | apply And.intro | ((first | refine intEq ?_ | refine boolEq ?_ | refine strEq ?_ | refine psEq ?_ | refine nilEq ?_ | refine arrEq ?_); (try simp only [Int.toNat_natCast, etas, elDef]); first | done | omega | grind | (simp only [*]; done) | (simp [*]; done)))); (all_goals (conv => whnf)); (repeat' (first | exact trivial | rfl | (refine nilEq ?_; first | rfl | (simp only [*]; done) | (simp [*]; done) | grind) | apply And.intro | ((first | refine intEq ?_ | refine boolEq ?_ | refine strEq ?_ | refine psEq ?_ | refine nilEq ?_ | refine arrEq ?_); (try simp only [Int.toNat_natCast, etas, elDef]); first | done | omega | grind | (simp only [*]; done) | (simp [*]; done)) | ((try simp only [Int.toNat_natCast, etas, elDef]); first | done | omega | grind | (simp only [*]; done) | (simp [*]; done))))
    rintro ⟨c, q, l⟩ hinv
    dsimp only at hinv
    conv => whnf
    obtain ⟨hi1, hi2, hi3⟩ := hinv
    repeat' first
      | (refine Cnd.mk (fun h => ?_) (fun h => ?_) <;> (try simp [etas, elDef, -List.getD_eq_getElem?_getD] at h) <;> conv => whnf)
      | (refine Obl.mk (by first | omega | rfl | exact inK_byte _ | (simp only [inK, Int.toNat_natCast, etas, elDef, m69] <;> first | omega | grind) | grind [inK, m69]) ?_ <;> conv => whnf)
      | (refine OblG.mk (by conv => whnf
                            repeat (first | (refine Bx.mk ?_) | (intro h; (try simp [etas, elDef, -List.getD_eq_getElem?_getD] at h); conv => whnf))
                            first | omega | rfl | exact inK_byte _ | (simp only [inK, Int.toNat_natCast, etas, elDef, m69] <;> first | omega | grind) | grind [inK, m69]) ?_ <;> conv => whnf)
      | (refine Gd.mk (fun h => ?_) <;> (try simp [etas, elDef, -List.getD_eq_getElem?_getD] at h) <;> conv => whnf)
      | (refine And.intro ?_ ?_ <;> conv => whnf)
      | exact True.intro
      | (intro; conv => whnf)
    · exact ⟨(c + 1, q + 1, l ++ [⟨n1, n2, n3, n4, n5⟩]), [(900, 57)], [], ⟨by simp; omega, smN_snoc hi2 hs.1, by omega⟩, by simp only; omega, by (conv => whnf); (repeat' (first | exact trivial | rfl | (refine nilEq ?_; first | rfl | (simp only [*]; done) | (simp [*]; done) | grind) | apply And.intro | ((first | refine intEq ?_ | refine boolEq ?_ | refine strEq ?_ | refine psEq ?_ | refine nilEq ?_ | refine arrEq ?_); (try simp only [Int.toNat_natCast, etas, elDef]); first | done | omega | grind | (simp only [*]; done) | (simp [*]; done)))); (all_goals (conv => whnf)); (repeat' (first | exact trivial | rfl | (refine nilEq ?_; first | rfl | (simp only [*]; done) | (simp [*]; done) | grind) | apply And.intro | ((first | refine intEq ?_ | refine boolEq ?_ | refine strEq ?_ | refine psEq ?_ | refine nilEq ?_ | refine arrEq ?_); (try simp only [Int.toNat_natCast, etas, elDef]); first | done | omega | grind | (simp only [*]; done) | (simp [*]; done)) | ((try simp only [Int.toNat_natCast, etas, elDef]); first | done | omega | grind | (simp only [*]; done) | (simp [*]; done)))), (by exact sgOk_of (by rfl))⟩
    · exact hK ⟨_, _, _, _, _⟩ _ (smN_mk (by simp) (by simp) (by omega) hi2) (by omega)
  · rename_i hs hq r1 h1 _ _ _ _ _
    exact hK ⟨_, _, _, _, _⟩ _ hs.1 (by omega)
theorem s43 : (CtrOK Tryd.prog 43 (.gen .ps C43) ∧ Callable Tryd.prog 43) := by
  refine gen_ok (E := E43) (mkE_cons s45 (mkE_cons s67 (mkE_cons s68 (mkE_cons s69 (mkE_nil tab_ok))))) mix (O := O43) (C := C43) (own := .ps) Tryd.func43 rfl (by rfl) (by kernel_rfl) (fun args K h hbd => ?_)
  unfold C43 at h; split at h
  case h_2 => exact h.elim
  exact ⟨Nat.le_of_ble_eq_true rfl, a43 _ _ (by exact hbd) _ h⟩
end Go.Rs

