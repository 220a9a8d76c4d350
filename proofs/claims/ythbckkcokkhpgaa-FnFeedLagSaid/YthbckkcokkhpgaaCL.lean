import Derived.Test.YthbckkcokkhpgaaCK
set_option linter.all false
namespace Go.Rs
open Go.Proofs
set_option maxRecDepth 100000
set_option linter.unusedVariables false
set_option linter.unusedSimpArgs false
noncomputable def c73 (code : List Int) (p : Int) (d : Int) (K : AV → List AV → Prop) : Prop :=
    Obl ((0 ≤ p ∧ p + costN d ≤ 100000000) ∧ byOk code ∧ 0 ≤ d ∧ d ≤ 3) (∀ (n1 n2 : Int) (n3 : Bs) (n4 : List Bs) (n5 : List Nd) (p' : Int), smN ⟨n1, n2, n3, n4, n5⟩ → p ≤ p' ∧ p' ≤ p + costN d → K (.st [.int .i64 n1, .int .i64 n2, .str n3, .own .str n4, .own .node n5]) [.ref [.ps .u8 code, .int .i64 p']])
noncomputable def m73 (code : List Int) (p : Int) (d : Int) : Nat := (2 * d + 1).toNat
noncomputable def C73 : List AV → (AV → List AV → Prop) → Prop
  | [.ref [.ps .u8 code, .int .i64 p], .int .i64 d], K => c73 code p d K
  | _, _ => False
noncomputable def Ck73 (k : Nat) : List AV → (AV → List AV → Prop) → Prop
  | [.ref [.ps .u8 code, .int .i64 p], .int .i64 d], K => Obl (m73 code p d < k) (c73 code p d K)
  | _, _ => False
noncomputable def c74 (code : List Int) (p : Int) (d : Int) (K : AV → List AV → Prop) : Prop :=
    Obl ((0 ≤ p ∧ p + costR d ≤ 100000000) ∧ byOk code ∧ 1 ≤ d ∧ d ≤ 3) (∀ (n1 n2 : Int) (n3 : Bs) (n4 : List Bs) (n5 : List Nd) (p' : Int), smN ⟨n1, n2, n3, n4, n5⟩ → p ≤ p' ∧ p' ≤ p + costR d → K (.st [.int .i64 n1, .int .i64 n2, .str n3, .own .str n4, .own .node n5]) [.ref [.ps .u8 code, .int .i64 p']])
noncomputable def m74 (code : List Int) (p : Int) (d : Int) : Nat := (2 * d).toNat
noncomputable def C74 : List AV → (AV → List AV → Prop) → Prop
  | [.ref [.ps .u8 code, .int .i64 p], .int .i64 d], K => c74 code p d K
  | _, _ => False
noncomputable def Ck74 (k : Nat) : List AV → (AV → List AV → Prop) → Prop
  | [.ref [.ps .u8 code, .int .i64 p], .int .i64 d], K => Obl (m74 code p d < k) (c74 code p d K)
  | _, _ => False
noncomputable def E73 (k : Nat) : Ctx := mkE tab [(25, .gen .ps C25), (40, .gen .ps C40), (73, .gen .ow (Ck73 k)), (74, .gen .ow (Ck74 k)), (85, .gen .ps C85)]
noncomputable def O73 : Nat → List DI := ordL []
theorem a73 (k : Nat) (code : List Int) (p : Int) (d : Int) (hm : m73 code p d < k + 1) (hb : BdAs [.ref [.ps .u8 code, .int .i64 p], .int .i64 d]) (K : AV → List AV → Prop) (h : c73 code p d K) : abody (E73 k) O73 .ow Try.f73 (Try.f73.body.getD .skip) [.ref [.ps .u8 code, .int .i64 p], .int .i64 d] K := by
  simp only [BdAs, BdA, BdL, BdC, MX, ndC, shC, itC, stC, opC, chC, nwC, flC, rqC, rsC, enc, List.cons_append, List.nil_append, and_true, true_and] at hb
  unfold c73 at h
  unfold m73 at hm
  obtain ⟨⟨hp, ho, hd⟩, hK⟩ := h
  obtain ⟨hc1, hc2, hc3, hc4, hc5, hc6⟩ := cost_facts d
  have hc7 := (cost_facts (d - 1)).2.2
  conv => whnf
  repeat' first
    | (refine Cnd.mk (fun h => ?_) (fun h => ?_) <;> (try simp [nd_eta, sh_eta, it_eta, sto_eta, op_eta, ch_eta, nw_eta, fl_eta, rq_eta, rs_eta, elDef, -List.getD_eq_getElem?_getD] at h) <;> conv => whnf)
    | (refine Obl.mk (by first | omega | rfl | exact inK_byte _ | (simp only [inK, Int.toNat_natCast, nd_eta, sh_eta, it_eta, sto_eta, op_eta, ch_eta, nw_eta, fl_eta, rq_eta, rs_eta, elDef, m73, m74, m73, m74] <;> first | omega | grind) | grind [inK, m73, m74, m73, m74]) ?_ <;> conv => whnf)
    | (refine OblG.mk (by conv => whnf
                          repeat (first | (refine Bx.mk ?_) | (intro h; (try simp [nd_eta, sh_eta, it_eta, sto_eta, op_eta, ch_eta, nw_eta, fl_eta, rq_eta, rs_eta, elDef, -List.getD_eq_getElem?_getD] at h); conv => whnf))
                          first | omega | rfl | exact inK_byte _ | (simp only [inK, Int.toNat_natCast, nd_eta, sh_eta, it_eta, sto_eta, op_eta, ch_eta, nw_eta, fl_eta, rq_eta, rs_eta, elDef, m73, m74, m73, m74] <;> first | omega | grind) | grind [inK, m73, m74, m73, m74]) ?_ <;> conv => whnf)
    | (refine Gd.mk (fun h => ?_) <;> (try simp [nd_eta, sh_eta, it_eta, sto_eta, op_eta, ch_eta, nw_eta, fl_eta, rq_eta, rs_eta, elDef, -List.getD_eq_getElem?_getD] at h) <;> conv => whnf)
    | (refine And.intro ?_ ?_ <;> conv => whnf)
    | exact True.intro
    | (intro; conv => whnf)
  · exact hK _ _ _ _ _ _ (smN_leaf (by simp)) (by omega)
  · exact hK _ _ _ _ _ _ (smN_leaf (by omega)) (by omega)
  · exfalso; omega
  · exfalso; omega
  · exact hK _ _ _ _ _ _ (smN_leaf (by simp)) (by omega)
  · exact hK _ _ _ _ _ _ (smN_leaf (by simp)) (by omega)
  · exact hK _ _ _ _ _ _ (smN_leaf (by omega)) (by omega)
  · rename_i r hr
    have hr3 := mul_le_c (c := r) (T := costN (d - 1)) (k := 3) (by omega) (by omega)
    refine aloop_intro (Int × Int × List Nd) (fun ⟨c, q, l⟩ => (0 ≤ c ∧ c ≤ 3 ∧ l.length + c ≤ 3) ∧ (∀ x ∈ l, smN x) ∧ p ≤ q ∧ q + c * costN (d - 1) ≤ p + 2 + 3 * costN (d - 1)) (fun ⟨c, q, l⟩ => c.toNat) (fun ⟨c, q, l⟩ => [(7, .int .i64 c), (6, .ls 900)]) (fun ⟨c, q, l⟩ => [(900, .arr .node l), (1000000, .box [.ps .u8 code, .int .i64 q])]) [4] (r, p + 2, []) [(900, 32)] [] ?_ ?_ (by exact sgOk_of (by rfl)) ?_
    · first | (simp; done) | (simp; assumption) | (simp only; grind)
    · (conv => whnf); (repeat' (first | exact trivial | rfl | (refine nilEq ?_; first | rfl | (simp only [*]; done) | (simp [*]; done) | grind) | apply And.intro | ((first | refine intEq ?_ | refine boolEq ?_ | refine strEq ?_ | refine psEq ?_ | refine nilEq ?_ | refine arrEq ?_); (try simp only [Int.toNat_natCast, nd_eta, sh_eta, it_eta, sto_eta, op_eta, ch_eta, nw_eta, fl_eta, rq_eta, rs_eta, elDef]); first | done | omega | grind | (simp only [*]; done) | (simp [*]; done)))); (all_goals (conv => whnf)); (repeat' (first | exact trivial | rfl | (refine nilEq ?_; first | rfl | (simp only [*]; done) | (simp [*]; done) | grind) | apply And.intro | ((first | refine intEq ?_ | refine boolEq ?_ | refine strEq ?_ | refine psEq ?_ | refine nilEq ?_ | refine arrEq ?_); (try simp only [Int.toNat_natCast, nd_eta, sh_eta, it_eta, sto_eta, op_eta, ch_eta, nw_eta, fl_eta, rq_eta, rs_eta, elDef]); first | done | omega | grind | (simp only [*]; done) | (simp [*]; done)) | ((try simp only [Int.toNat_natCast, nd_eta, sh_eta, it_eta, sto_eta, op_eta, ch_eta, nw_eta, fl_eta, rq_eta, rs_eta, elDef]); first | done | omega | grind | (simp only [*]; done) | (simp [*]; done))))
    rintro ⟨c, q, l⟩ hinv
    dsimp only at hinv
    conv => whnf
    obtain ⟨hi1, hi2, hi3, hi4⟩ := hinv
    have hs := mul_step c (costN (d - 1))
    have hn := mul_nn (c := c) (T := costN (d - 1)) (by omega) (by omega)
    repeat' first
      | (refine Cnd.mk (fun h => ?_) (fun h => ?_) <;> (try simp [nd_eta, sh_eta, it_eta, sto_eta, op_eta, ch_eta, nw_eta, fl_eta, rq_eta, rs_eta, elDef, -List.getD_eq_getElem?_getD] at h) <;> conv => whnf)
      | (refine Obl.mk (by first | omega | rfl | exact inK_byte _ | (simp only [inK, Int.toNat_natCast, nd_eta, sh_eta, it_eta, sto_eta, op_eta, ch_eta, nw_eta, fl_eta, rq_eta, rs_eta, elDef, m73, m74, m73, m74] <;> first | omega | grind) | grind [inK, m73, m74, m73, m74]) ?_ <;> conv => whnf)
      | (refine OblG.mk (by conv => whnf
                            repeat (first | (refine Bx.mk ?_) | (intro h; (try simp [nd_eta, sh_eta, it_eta, sto_eta, op_eta, ch_eta, nw_eta, fl_eta, rq_eta, rs_eta, elDef, -List.getD_eq_getElem?_getD] at h); conv => whnf))
                            first | omega | rfl | exact inK_byte _ | (simp only [inK, Int.toNat_natCast, nd_eta, sh_eta, it_eta, sto_eta, op_eta, ch_eta, nw_eta, fl_eta, rq_eta, rs_eta, elDef, m73, m74, m73, m74] <;> first | omega | grind) | grind [inK, m73, m74, m73, m74]) ?_ <;> conv => whnf)
      | (refine Gd.mk (fun h => ?_) <;> (try simp [nd_eta, sh_eta, it_eta, sto_eta, op_eta, ch_eta, nw_eta, fl_eta, rq_eta, rs_eta, elDef, -List.getD_eq_getElem?_getD] at h) <;> conv => whnf)
      | (refine And.intro ?_ ?_ <;> conv => whnf)
      | exact True.intro
      | (intro; conv => whnf)
    · rename_i m1 m2 m3 m4 m5 q' hsm hq
      exact ⟨(c - 1, q', l ++ [⟨m1, m2, m3, m4, m5⟩]), [(900, 45)], [], ⟨by simp; omega, by simp; intro x hx; rcases hx with hx | rfl; exact hi2 x hx; exact hsm, by omega, by omega⟩, by simp only; omega, by (conv => whnf); (repeat' (first | exact trivial | rfl | (refine nilEq ?_; first | rfl | (simp only [*]; done) | (simp [*]; done) | grind) | apply And.intro | ((first | refine intEq ?_ | refine boolEq ?_ | refine strEq ?_ | refine psEq ?_ | refine nilEq ?_ | refine arrEq ?_); (try simp only [Int.toNat_natCast, nd_eta, sh_eta, it_eta, sto_eta, op_eta, ch_eta, nw_eta, fl_eta, rq_eta, rs_eta, elDef]); first | done | omega | grind | (simp only [*]; done) | (simp [*]; done)))); (all_goals (conv => whnf)); (repeat' (first | exact trivial | rfl | (refine nilEq ?_; first | rfl | (simp only [*]; done) | (simp [*]; done) | grind) | apply And.intro | ((first | refine intEq ?_ | refine boolEq ?_ | refine strEq ?_ | refine psEq ?_ | refine nilEq ?_ | refine arrEq ?_); (try simp only [Int.toNat_natCast, nd_eta, sh_eta, it_eta, sto_eta, op_eta, ch_eta, nw_eta, fl_eta, rq_eta, rs_eta, elDef]); first | done | omega | grind | (simp only [*]; done) | (simp [*]; done)) | ((try simp only [Int.toNat_natCast, nd_eta, sh_eta, it_eta, sto_eta, op_eta, ch_eta, nw_eta, fl_eta, rq_eta, rs_eta, elDef]); first | done | omega | grind | (simp only [*]; done) | (simp [*]; done)))), (by exact sgOk_of (by rfl))⟩
    · exact hK _ _ _ _ _ _ (smN_mk (by simp) (by simp) (by omega) hi2) (by omega)
  · rename_i hsm hq
    exact hK _ _ _ _ _ _ hsm (by omega)
  · exact hK _ _ _ _ _ _ (smN_leaf (by simp)) (by omega)
noncomputable def E74 (k : Nat) : Ctx := mkE tab [(40, .gen .ps C40), (73, .gen .ow (Ck73 k)), (86, .gen .ps C86), (87, .pure F87), (88, .gen .ow C88)]
noncomputable def O74 : Nat → List DI := ordL []
theorem a74 (k : Nat) (code : List Int) (p : Int) (d : Int) (hm : m74 code p d < k + 1) (hb : BdAs [.ref [.ps .u8 code, .int .i64 p], .int .i64 d]) (K : AV → List AV → Prop) (h : c74 code p d K) : abody (E74 k) O74 .ow Try.f74 (Try.f74.body.getD .skip) [.ref [.ps .u8 code, .int .i64 p], .int .i64 d] K := by
  simp only [BdAs, BdA, BdL, BdC, MX, ndC, shC, itC, stC, opC, chC, nwC, flC, rqC, rsC, enc, List.cons_append, List.nil_append, and_true, true_and] at hb
  unfold c74 at h
  unfold m74 at hm
  obtain ⟨⟨hp, ho, hd⟩, hK⟩ := h
  obtain ⟨hc1, hc2, hc3, hc4, hc5, hc6⟩ := cost_facts d
  have hc7 := (cost_facts (d - 1)).2.2
  conv => whnf
  repeat' first
    | (refine Cnd.mk (fun h => ?_) (fun h => ?_) <;> (try simp [nd_eta, sh_eta, it_eta, sto_eta, op_eta, ch_eta, nw_eta, fl_eta, rq_eta, rs_eta, elDef, -List.getD_eq_getElem?_getD] at h) <;> conv => whnf)
    | (refine Obl.mk (by first | omega | rfl | exact inK_byte _ | (simp only [inK, Int.toNat_natCast, nd_eta, sh_eta, it_eta, sto_eta, op_eta, ch_eta, nw_eta, fl_eta, rq_eta, rs_eta, elDef, m73, m74, m73, o87] <;> first | omega | grind) | grind [inK, m73, m74, m73, o87]) ?_ <;> conv => whnf)
    | (refine OblG.mk (by conv => whnf
                          repeat (first | (refine Bx.mk ?_) | (intro h; (try simp [nd_eta, sh_eta, it_eta, sto_eta, op_eta, ch_eta, nw_eta, fl_eta, rq_eta, rs_eta, elDef, -List.getD_eq_getElem?_getD] at h); conv => whnf))
                          first | omega | rfl | exact inK_byte _ | (simp only [inK, Int.toNat_natCast, nd_eta, sh_eta, it_eta, sto_eta, op_eta, ch_eta, nw_eta, fl_eta, rq_eta, rs_eta, elDef, m73, m74, m73, o87] <;> first | omega | grind) | grind [inK, m73, m74, m73, o87]) ?_ <;> conv => whnf)
    | (refine Gd.mk (fun h => ?_) <;> (try simp [nd_eta, sh_eta, it_eta, sto_eta, op_eta, ch_eta, nw_eta, fl_eta, rq_eta, rs_eta, elDef, -List.getD_eq_getElem?_getD] at h) <;> conv => whnf)
    | (refine And.intro ?_ ?_ <;> conv => whnf)
    | exact True.intro
    | (intro; conv => whnf)
  rename_i r hr
  have hr0 : 0 ≤ r ∧ r ≤ 4 := by simp at hr; omega
  have hr3 := mul_le_c (c := r) (T := costN (d - 1) + 1) (k := 4) (by omega) (by omega)
  have hm0 : mapOk ⟨4, 0, [], [], []⟩ r := ⟨rfl, fun _ => rfl, smN_leaf (by simp), by simp; omega, by omega⟩
  refine aloop_intro (Int × Int × Nd) (fun ⟨c, q, m⟩ => mapOk m c ∧ p ≤ q ∧ q + c * (costN (d - 1) + 1) ≤ p + 1 + 4 * (costN (d - 1) + 1)) (fun ⟨c, q, m⟩ => c.toNat) (fun ⟨c, q, m⟩ => [(6, .int .i64 c)]) (fun ⟨c, q, m⟩ => [(5, .box [.int .i64 m.kind, .int .i64 m.num, .str m.text, .ls 901, .ls 902]), (901, .arr .str m.names), (902, .arr .node m.kids), (1000000, .box [.ps .u8 code, .int .i64 q])]) [4] (r, p + 1, ⟨4, 0, [], [], []⟩) [(901, 9), (902, 10)] [] ?_ ?_ (by exact sgOk_of (by rfl)) ?_
  · first | (simp; done) | (simp; assumption) | (simp only; grind)
  · (conv => whnf); (repeat' (first | exact trivial | rfl | (refine nilEq ?_; first | rfl | (simp only [*]; done) | (simp [*]; done) | grind) | apply And.intro | ((first | refine intEq ?_ | refine boolEq ?_ | refine strEq ?_ | refine psEq ?_ | refine nilEq ?_ | refine arrEq ?_); (try simp only [Int.toNat_natCast, nd_eta, sh_eta, it_eta, sto_eta, op_eta, ch_eta, nw_eta, fl_eta, rq_eta, rs_eta, elDef]); first | done | omega | grind | (simp only [*]; done) | (simp [*]; done)))); (all_goals (conv => whnf)); (repeat' (first | exact trivial | rfl | (refine nilEq ?_; first | rfl | (simp only [*]; done) | (simp [*]; done) | grind) | apply And.intro | ((first | refine intEq ?_ | refine boolEq ?_ | refine strEq ?_ | refine psEq ?_ | refine nilEq ?_ | refine arrEq ?_); (try simp only [Int.toNat_natCast, nd_eta, sh_eta, it_eta, sto_eta, op_eta, ch_eta, nw_eta, fl_eta, rq_eta, rs_eta, elDef]); first | done | omega | grind | (simp only [*]; done) | (simp [*]; done)) | ((try simp only [Int.toNat_natCast, nd_eta, sh_eta, it_eta, sto_eta, op_eta, ch_eta, nw_eta, fl_eta, rq_eta, rs_eta, elDef]); first | done | omega | grind | (simp only [*]; done) | (simp [*]; done))))
  rintro ⟨c, q, m⟩ hinv
  dsimp only at hinv
  conv => whnf
  obtain ⟨hi1, hi2, hi3⟩ := hinv
  have hs := mul_step c (costN (d - 1) + 1)
  have hn := mul_nn (c := c) (T := costN (d - 1) + 1) hi1.2.2.2.2 (by omega)
  have hn2 : 0 < c → 0 ≤ (c - 1) * (costN (d - 1) + 1) := fun h => mul_nn (by omega) (by omega)
  have hmk := hi1.1
  have hme : m.kind = 4 → m.names.length = m.kids.length := hi1.2.1
  have hml := hi1.2.2.2
  have hms := smN_eta hi1.2.2.1
  have hevm : evenN ⟨m.kind, m.num, m.text, m.names, m.kids⟩ := hi1.2.1
  repeat' first
    | (refine Cnd.mk (fun h => ?_) (fun h => ?_) <;> (try simp [nd_eta, sh_eta, it_eta, sto_eta, op_eta, ch_eta, nw_eta, fl_eta, rq_eta, rs_eta, elDef, -List.getD_eq_getElem?_getD] at h) <;> conv => whnf)
    | (refine Obl.mk (by first | omega | rfl | exact inK_byte _ | (simp only [inK, Int.toNat_natCast, nd_eta, sh_eta, it_eta, sto_eta, op_eta, ch_eta, nw_eta, fl_eta, rq_eta, rs_eta, elDef, m73, m74, m73, o87] <;> first | omega | grind) | grind [inK, m73, m74, m73, o87]) ?_ <;> conv => whnf)
    | (refine OblG.mk (by conv => whnf
                          repeat (first | (refine Bx.mk ?_) | (intro h; (try simp [nd_eta, sh_eta, it_eta, sto_eta, op_eta, ch_eta, nw_eta, fl_eta, rq_eta, rs_eta, elDef, -List.getD_eq_getElem?_getD] at h); conv => whnf))
                          first | omega | rfl | exact inK_byte _ | (simp only [inK, Int.toNat_natCast, nd_eta, sh_eta, it_eta, sto_eta, op_eta, ch_eta, nw_eta, fl_eta, rq_eta, rs_eta, elDef, m73, m74, m73, o87] <;> first | omega | grind) | grind [inK, m73, m74, m73, o87]) ?_ <;> conv => whnf)
    | (refine Gd.mk (fun h => ?_) <;> (try simp [nd_eta, sh_eta, it_eta, sto_eta, op_eta, ch_eta, nw_eta, fl_eta, rq_eta, rs_eta, elDef, -List.getD_eq_getElem?_getD] at h) <;> conv => whnf)
    | (refine And.intro ?_ ?_ <;> conv => whnf)
    | exact True.intro
    | (intro; conv => whnf)
  · rename_i b hb9 x1 x2 x3 x4 x5 q' hx hq
    have hpl : placeM ⟨m.kind, m.num, m.text, m.names, m.kids⟩ b < 0 := by simpa only [nd_eta] using h
    have hadd := hi1.add (by omega) hx (b := b) h
    rw [← nd_eta m] at hadd
    refine Obl.mk ⟨⟨hms, hx⟩, by omega, by have := hme hmk; omega, hevm, hpl⟩ ?_
    conv => whnf
    repeat' first
      | (refine Cnd.mk (fun h => ?_) (fun h => ?_) <;> (try simp [nd_eta, sh_eta, it_eta, sto_eta, op_eta, ch_eta, nw_eta, fl_eta, rq_eta, rs_eta, elDef, -List.getD_eq_getElem?_getD] at h) <;> conv => whnf)
      | (refine Obl.mk (by first | omega | rfl | exact inK_byte _ | (simp only [inK, Int.toNat_natCast, nd_eta, sh_eta, it_eta, sto_eta, op_eta, ch_eta, nw_eta, fl_eta, rq_eta, rs_eta, elDef, m73, m74, m73, o87] <;> first | omega | grind) | grind [inK, m73, m74, m73, o87]) ?_ <;> conv => whnf)
      | (refine OblG.mk (by conv => whnf
                            repeat (first | (refine Bx.mk ?_) | (intro h; (try simp [nd_eta, sh_eta, it_eta, sto_eta, op_eta, ch_eta, nw_eta, fl_eta, rq_eta, rs_eta, elDef, -List.getD_eq_getElem?_getD] at h); conv => whnf))
                            first | omega | rfl | exact inK_byte _ | (simp only [inK, Int.toNat_natCast, nd_eta, sh_eta, it_eta, sto_eta, op_eta, ch_eta, nw_eta, fl_eta, rq_eta, rs_eta, elDef, m73, m74, m73, o87] <;> first | omega | grind) | grind [inK, m73, m74, m73, o87]) ?_ <;> conv => whnf)
      | (refine Gd.mk (fun h => ?_) <;> (try simp [nd_eta, sh_eta, it_eta, sto_eta, op_eta, ch_eta, nw_eta, fl_eta, rq_eta, rs_eta, elDef, -List.getD_eq_getElem?_getD] at h) <;> conv => whnf)
      | (refine And.intro ?_ ?_ <;> conv => whnf)
      | exact True.intro
      | (intro; conv => whnf)
    exact ⟨(c - 1, q', (addHereM ⟨m.kind, m.num, m.text, m.names, m.kids⟩ b ⟨x1, x2, x3, x4, x5⟩).getD default), [(901, 34000), (902, 34001)], [], ⟨hadd, by omega, by omega⟩, by simp only; omega, by (conv => whnf); (repeat' (first | exact trivial | rfl | (refine nilEq ?_; first | rfl | (simp only [*]; done) | (simp [*]; done) | grind) | apply And.intro | ((first | refine intEq ?_ | refine boolEq ?_ | refine strEq ?_ | refine psEq ?_ | refine nilEq ?_ | refine arrEq ?_); (try simp only [Int.toNat_natCast, nd_eta, sh_eta, it_eta, sto_eta, op_eta, ch_eta, nw_eta, fl_eta, rq_eta, rs_eta, elDef]); first | done | omega | grind | (simp only [*]; done) | (simp [*]; done)))); (all_goals (conv => whnf)); (repeat' (first | exact trivial | rfl | (refine nilEq ?_; first | rfl | (simp only [*]; done) | (simp [*]; done) | grind) | apply And.intro | ((first | refine intEq ?_ | refine boolEq ?_ | refine strEq ?_ | refine psEq ?_ | refine nilEq ?_ | refine arrEq ?_); (try simp only [Int.toNat_natCast, nd_eta, sh_eta, it_eta, sto_eta, op_eta, ch_eta, nw_eta, fl_eta, rq_eta, rs_eta, elDef]); first | done | omega | grind | (simp only [*]; done) | (simp [*]; done)) | ((try simp only [Int.toNat_natCast, nd_eta, sh_eta, it_eta, sto_eta, op_eta, ch_eta, nw_eta, fl_eta, rq_eta, rs_eta, elDef]); first | done | omega | grind | (simp only [*]; done) | (simp [*]; done)))), (by exact sgOk_of (by rfl))⟩
  · rename_i b hb9 x1 x2 x3 x4 x5 q' hx hq
    exact ⟨(c - 1, q', m), [], [], ⟨hi1.stay (by omega), by omega, by omega⟩, by simp only; omega, by (conv => whnf); (repeat' (first | exact trivial | rfl | (refine nilEq ?_; first | rfl | (simp only [*]; done) | (simp [*]; done) | grind) | apply And.intro | ((first | refine intEq ?_ | refine boolEq ?_ | refine strEq ?_ | refine psEq ?_ | refine nilEq ?_ | refine arrEq ?_); (try simp only [Int.toNat_natCast, nd_eta, sh_eta, it_eta, sto_eta, op_eta, ch_eta, nw_eta, fl_eta, rq_eta, rs_eta, elDef]); first | done | omega | grind | (simp only [*]; done) | (simp [*]; done)))); (all_goals (conv => whnf)); (repeat' (first | exact trivial | rfl | (refine nilEq ?_; first | rfl | (simp only [*]; done) | (simp [*]; done) | grind) | apply And.intro | ((first | refine intEq ?_ | refine boolEq ?_ | refine strEq ?_ | refine psEq ?_ | refine nilEq ?_ | refine arrEq ?_); (try simp only [Int.toNat_natCast, nd_eta, sh_eta, it_eta, sto_eta, op_eta, ch_eta, nw_eta, fl_eta, rq_eta, rs_eta, elDef]); first | done | omega | grind | (simp only [*]; done) | (simp [*]; done)) | ((try simp only [Int.toNat_natCast, nd_eta, sh_eta, it_eta, sto_eta, op_eta, ch_eta, nw_eta, fl_eta, rq_eta, rs_eta, elDef]); first | done | omega | grind | (simp only [*]; done) | (simp [*]; done)))), (by exact sgOk_of (by rfl))⟩
  · exact hK _ _ _ _ _ _ hms (by omega)
theorem r73_74 : ∀ k, (CtrOK Try.prog 73 (.gen .ow (Ck73 k)) ∧ Callable Try.prog 73) ∧ (CtrOK Try.prog 74 (.gen .ow (Ck74 k)) ∧ Callable Try.prog 74) := by
  intro k
  induction k with
  | zero =>
    exact ⟨⟨fun args K h => by
        unfold Ck73 at h; split at h
        · exact absurd h.o (Nat.not_lt_zero _)
        · exact h.elim, callable Try.func73 rfl (by rfl)⟩, ⟨fun args K h => by
        unfold Ck74 at h; split at h
        · exact absurd h.o (Nat.not_lt_zero _)
        · exact h.elim, callable Try.func74 rfl (by rfl)⟩⟩
  | succ k ih =>
    refine ⟨?_, ?_⟩
    · refine gen_ok (E := E73 k) (mkE_cons s25 (mkE_cons s40 (mkE_cons ih.1 (mkE_cons ih.2 (mkE_cons s85 (mkE_nil tab_ok)))))) mix (O := O73) (C := (Ck73 (k + 1))) (own := .ow) Try.func73 rfl (by rfl) (by kernel_rfl) (fun args K h hbd => ?_)
      unfold Ck73 at h; split at h
      case h_2 => exact h.elim
      exact ⟨Nat.le_of_ble_eq_true rfl, a73 k _ _ _ h.o (by exact hbd) _ h.k⟩
    · refine gen_ok (E := E74 k) (mkE_cons s40 (mkE_cons ih.1 (mkE_cons s86 (mkE_cons s87 (mkE_cons s88 (mkE_nil tab_ok)))))) mix (O := O74) (C := (Ck74 (k + 1))) (own := .ow) Try.func74 rfl (by rfl) (by kernel_rfl) (fun args K h hbd => ?_)
      unfold Ck74 at h; split at h
      case h_2 => exact h.elim
      exact ⟨Nat.le_of_ble_eq_true rfl, a74 k _ _ _ h.o (by exact hbd) _ h.k⟩
theorem s73 : (CtrOK Try.prog 73 (.gen .ow C73) ∧ Callable Try.prog 73) := by
  refine ⟨fun args K h => ?_, (r73_74 0).1.2⟩
  unfold C73 at h; split at h
  · exact (r73_74 (m73 _ _ _ + 1)).1.1 _ K ⟨Nat.lt_succ_self _, h⟩
  · exact h.elim
theorem s74 : (CtrOK Try.prog 74 (.gen .ow C74) ∧ Callable Try.prog 74) := by
  refine ⟨fun args K h => ?_, (r73_74 0).2.2⟩
  unfold C74 at h; split at h
  · exact (r73_74 (m74 _ _ _ + 1)).2.1 _ K ⟨Nat.lt_succ_self _, h⟩
  · exact h.elim
noncomputable def c62 (code : List Int) (p : Int) (K : AV → List AV → Prop) : Prop :=
    Obl ((0 ≤ p ∧ p ≤ 10000000) ∧ byOk code) (∀ (n1 n2 : Int) (n3 : Bs) (n4 : List Bs) (n5 : List Nd) (p' : Int), smN ⟨n1, n2, n3, n4, n5⟩ ∧ n4.length ≤ 1000 → p ≤ p' ∧ p' ≤ p + 2000 → K (.st [.int .i64 n1, .int .i64 n2, .str n3, .own .str n4, .own .node n5]) [.ref [.ps .u8 code, .int .i64 p']])
noncomputable def C62 : List AV → (AV → List AV → Prop) → Prop
  | [.ref [.ps .u8 code, .int .i64 p]], K => c62 code p K
  | _, _ => False
noncomputable def E62 : Ctx := mkE tab [(25, .gen .ps C25), (60, .pure F60), (73, .gen .ow C73), (74, .gen .ow C74)]
noncomputable def O62 : Nat → List DI := ordL []
theorem a62 (code : List Int) (p : Int) (hb : BdAs [.ref [.ps .u8 code, .int .i64 p]]) (K : AV → List AV → Prop) (h : c62 code p K) : abody E62 O62 .ow Try.f62 (Try.f62.body.getD .skip) [.ref [.ps .u8 code, .int .i64 p]] K := by
  simp only [BdAs, BdA, BdL, BdC, MX, ndC, shC, itC, stC, opC, chC, nwC, flC, rqC, rsC, enc, List.cons_append, List.nil_append, and_true, true_and] at hb
  unfold c62 at h
  obtain ⟨⟨hp, ho⟩, hK⟩ := h
  have hc := (cost_facts 3).2.2
  have hv : ∀ {n1 n2 : Int} {n3 : Bs} {n4 : List Bs} {n5 : List Nd}, validM ⟨n1, n2, n3, n4, n5⟩ = true → smN ⟨n1, n2, n3, n4, n5⟩ ∧ n4.length ≤ 1000 := fun h => ⟨validM_sm h, by have := (okN_names (validM_ok h)).1; simp only at this; omega⟩
  conv => whnf
  repeat' first
    | (refine Cnd.mk (fun h => ?_) (fun h => ?_) <;> (try simp [nd_eta, sh_eta, it_eta, sto_eta, op_eta, ch_eta, nw_eta, fl_eta, rq_eta, rs_eta, elDef, -List.getD_eq_getElem?_getD] at h) <;> conv => whnf)
    | (refine Obl.mk (by first | omega | rfl | exact inK_byte _ | (simp only [inK, Int.toNat_natCast, nd_eta, sh_eta, it_eta, sto_eta, op_eta, ch_eta, nw_eta, fl_eta, rq_eta, rs_eta, elDef, m73, m74] <;> first | omega | grind) | grind [inK, m73, m74]) ?_ <;> conv => whnf)
    | (refine OblG.mk (by conv => whnf
                          repeat (first | (refine Bx.mk ?_) | (intro h; (try simp [nd_eta, sh_eta, it_eta, sto_eta, op_eta, ch_eta, nw_eta, fl_eta, rq_eta, rs_eta, elDef, -List.getD_eq_getElem?_getD] at h); conv => whnf))
                          first | omega | rfl | exact inK_byte _ | (simp only [inK, Int.toNat_natCast, nd_eta, sh_eta, it_eta, sto_eta, op_eta, ch_eta, nw_eta, fl_eta, rq_eta, rs_eta, elDef, m73, m74] <;> first | omega | grind) | grind [inK, m73, m74]) ?_ <;> conv => whnf)
    | (refine Gd.mk (fun h => ?_) <;> (try simp [nd_eta, sh_eta, it_eta, sto_eta, op_eta, ch_eta, nw_eta, fl_eta, rq_eta, rs_eta, elDef, -List.getD_eq_getElem?_getD] at h) <;> conv => whnf)
    | (refine And.intro ?_ ?_ <;> conv => whnf)
    | exact True.intro
    | (intro; conv => whnf)
  · exact hK _ _ _ _ _ _ ⟨smN_leaf (by simp), by simp⟩ (by omega)
  · exact hK _ _ _ _ _ _ (hv h) (by omega)
  · exact hK _ _ _ _ _ _ ⟨smN_leaf (by simp), by simp⟩ (by omega)
  · exact hK _ _ _ _ _ _ (hv h) (by omega)
theorem s62 : (CtrOK Try.prog 62 (.gen .ow C62) ∧ Callable Try.prog 62) := by
  refine gen_ok (E := E62) (mkE_cons s25 (mkE_cons s60 (mkE_cons s73 (mkE_cons s74 (mkE_nil tab_ok))))) mix (O := O62) (C := C62) (own := .ow) Try.func62 rfl (by rfl) (by kernel_rfl) (fun args K h hbd => ?_)
  unfold C62 at h; split at h
  case h_2 => exact h.elim
  exact ⟨Nat.le_of_ble_eq_true rfl, a62 _ _ (by exact hbd) _ h⟩
noncomputable def c61 (code : List Int) (p : Int) (s : Sto) (K : AV → List AV → Prop) : Prop :=
    Obl ((0 ≤ p ∧ p ≤ 10000000) ∧ byOk code) (∀ (b : Bs) (p' : Int), p ≤ p' ∧ p' ≤ p + 3 → K (.str b) [.ref [.ps .u8 code, .int .i64 p']])
noncomputable def C61 : List AV → (AV → List AV → Prop) → Prop
  | [.ref [.ps .u8 code, .int .i64 p], .st [.ps .item s_0, .int .i64 s_1]], K => c61 code p ⟨s_0, s_1⟩ K
  | _, _ => False
noncomputable def E61 : Ctx := mkE tab [(25, .gen .ps C25), (26, .gen .ps C26), (57, .gen .ps C57)]
noncomputable def O61 : Nat → List DI := ordL [(2, [.q 0, .q 1, .q 2, .q 3, .q 4, .q 5, .l 6 [1], .q 7, .q 8, .q 9, .q 10])]
theorem a61 (code : List Int) (p : Int) (s : Sto) (hb : BdAs [.ref [.ps .u8 code, .int .i64 p], .st (stC s)]) (K : AV → List AV → Prop) (h : c61 code p s K) : abody E61 O61 .ps Try.f61 (Try.f61.body.getD .skip) [.ref [.ps .u8 code, .int .i64 p], .st (stC s)] K := by
  simp only [BdAs, BdA, BdL, BdC, MX, ndC, shC, itC, stC, opC, chC, nwC, flC, rqC, rsC, enc, List.cons_append, List.nil_append, and_true, true_and] at hb
  unfold c61 at h
  obtain ⟨⟨hp, ho⟩, hK⟩ := h
  conv => whnf
  repeat' first
    | (refine Cnd.mk (fun h => ?_) (fun h => ?_) <;> (try simp [nd_eta, sh_eta, it_eta, sto_eta, op_eta, ch_eta, nw_eta, fl_eta, rq_eta, rs_eta, elDef, -List.getD_eq_getElem?_getD] at h) <;> conv => whnf)
    | (refine Obl.mk (by first | omega | rfl | exact inK_byte _ | (simp only [inK, Int.toNat_natCast, nd_eta, sh_eta, it_eta, sto_eta, op_eta, ch_eta, nw_eta, fl_eta, rq_eta, rs_eta, elDef] <;> first | omega | grind) | grind [inK]) ?_ <;> conv => whnf)
    | (refine OblG.mk (by conv => whnf
                          repeat (first | (refine Bx.mk ?_) | (intro h; (try simp [nd_eta, sh_eta, it_eta, sto_eta, op_eta, ch_eta, nw_eta, fl_eta, rq_eta, rs_eta, elDef, -List.getD_eq_getElem?_getD] at h); conv => whnf))
                          first | omega | rfl | exact inK_byte _ | (simp only [inK, Int.toNat_natCast, nd_eta, sh_eta, it_eta, sto_eta, op_eta, ch_eta, nw_eta, fl_eta, rq_eta, rs_eta, elDef] <;> first | omega | grind) | grind [inK]) ?_ <;> conv => whnf)
    | (refine Gd.mk (fun h => ?_) <;> (try simp [nd_eta, sh_eta, it_eta, sto_eta, op_eta, ch_eta, nw_eta, fl_eta, rq_eta, rs_eta, elDef, -List.getD_eq_getElem?_getD] at h) <;> conv => whnf)
    | (refine And.intro ?_ ?_ <;> conv => whnf)
    | exact True.intro
    | (intro; conv => whnf)
  all_goals exact hK _ _ (by omega)
theorem s61 : (CtrOK Try.prog 61 (.gen .ps C61) ∧ Callable Try.prog 61) := by
  refine gen_ok (E := E61) (mkE_cons s25 (mkE_cons s26 (mkE_cons s57 (mkE_nil tab_ok)))) mix (O := O61) (C := C61) (own := .ps) Try.func61 rfl (by rfl) (by kernel_rfl) (fun args K h hbd => ?_)
  unfold C61 at h; split at h
  case h_2 => exact h.elim
  exact ⟨Nat.le_of_ble_eq_true rfl, a61 _ _ ⟨_, _⟩ (by exact hbd) _ h⟩
noncomputable def c58 (code : List Int) (p : Int) (K : AV → List AV → Prop) : Prop :=
    Obl ((0 ≤ p ∧ p ≤ 10000000) ∧ byOk code) (∀ (n : Nd) (p' : Int), smN n → p ≤ p' ∧ p' ≤ p + 2100 → K (.st (ndC n)) [.ref [.ps .u8 code, .int .i64 p']])
noncomputable def C58 : List AV → (AV → List AV → Prop) → Prop
  | [.ref [.ps .u8 code, .int .i64 p]], K => c58 code p K
  | _, _ => False
noncomputable def E58 : Ctx := mkE tab [(25, .gen .ps C25), (40, .gen .ps C40), (62, .gen .ow C62), (70, .gen .ps C70)]
noncomputable def O58 : Nat → List DI := ordL []
theorem a58 (code : List Int) (p : Int) (hb : BdAs [.ref [.ps .u8 code, .int .i64 p]]) (K : AV → List AV → Prop) (h : c58 code p K) : abody E58 O58 .ps Try.f58 (Try.f58.body.getD .skip) [.ref [.ps .u8 code, .int .i64 p]] K := by
  simp only [BdAs, BdA, BdL, BdC, MX, ndC, shC, itC, stC, opC, chC, nwC, flC, rqC, rsC, enc, List.cons_append, List.nil_append, and_true, true_and] at hb
  unfold c58 at h
  obtain ⟨⟨hp, ho⟩, hK⟩ := h
  conv => whnf
  repeat' first
    | (refine Cnd.mk (fun h => ?_) (fun h => ?_) <;> (try simp [nd_eta, sh_eta, it_eta, sto_eta, op_eta, ch_eta, nw_eta, fl_eta, rq_eta, rs_eta, elDef, -List.getD_eq_getElem?_getD] at h) <;> conv => whnf)
    | (refine Obl.mk (by first | omega | rfl | exact inK_byte _ | (simp only [inK, Int.toNat_natCast, nd_eta, sh_eta, it_eta, sto_eta, op_eta, ch_eta, nw_eta, fl_eta, rq_eta, rs_eta, elDef, m70] <;> first | omega | grind) | grind [inK, m70]) ?_ <;> conv => whnf)
    | (refine OblG.mk (by conv => whnf
                          repeat (first | (refine Bx.mk ?_) | (intro h; (try simp [nd_eta, sh_eta, it_eta, sto_eta, op_eta, ch_eta, nw_eta, fl_eta, rq_eta, rs_eta, elDef, -List.getD_eq_getElem?_getD] at h); conv => whnf))
                          first | omega | rfl | exact inK_byte _ | (simp only [inK, Int.toNat_natCast, nd_eta, sh_eta, it_eta, sto_eta, op_eta, ch_eta, nw_eta, fl_eta, rq_eta, rs_eta, elDef, m70] <;> first | omega | grind) | grind [inK, m70]) ?_ <;> conv => whnf)
    | (refine Gd.mk (fun h => ?_) <;> (try simp [nd_eta, sh_eta, it_eta, sto_eta, op_eta, ch_eta, nw_eta, fl_eta, rq_eta, rs_eta, elDef, -List.getD_eq_getElem?_getD] at h) <;> conv => whnf)
    | (refine And.intro ?_ ?_ <;> conv => whnf)
    | exact True.intro
    | (intro; conv => whnf)
  · rename_i hs hq r1 h1 r2 h2
    exact hK ⟨_, _, _, _, _⟩ _ (smN_ch hs.1 hs.1.text hs.1.names) (by omega)
  · rename_i hs hq r1 h1 _ r2 h2
    exact hK ⟨_, _, _, _, _⟩ _ (smN_ch hs.1 hs.1.text hs.1.names) (by omega)
  · rename_i hs hq r1 h1 _ _
    exact hK ⟨_, _, _, _, _⟩ _ (smN_ch hs.1 (by simp) hs.1.names) (by omega)
  · rename_i hs hq r1 h1 _ _ _
    exact hK ⟨_, _, _, _, _⟩ _ (smN_ch hs.1 hs.1.text (by simp; omega)) (by omega)
  · rename_i hs hq r1 h1 _ _ _ _
    exact hK ⟨_, _, _, _, _⟩ _ (smN_one (smN_one (smN_one (smN_one hs.1)))) (by omega)
  · rename_i n1 n2 n3 n4 n5 p' hs hq r1 h1 _ _ _ _ _
    have hb0 := hs.1
    refine aloop_intro (Int × Int × List Nd) (fun ⟨c, q, l⟩ => (0 ≤ c ∧ c ≤ 7 ∧ l.length = c) ∧ (∀ x ∈ l, smN x) ∧ p' + 1 ≤ q ∧ q ≤ p' + 1 + c) (fun ⟨c, q, l⟩ => (7 - c).toNat) (fun ⟨c, q, l⟩ => [(5, .int .i64 c), (4, .ls 900)]) (fun ⟨c, q, l⟩ => [(900, .arr .node l), (3, .box (ndC ⟨n1, n2, n3, n4, n5⟩)), (1000000, .box [.ps .u8 code, .int .i64 q])]) [2] (0, p' + 1, []) [(900, 45)] [8000, 8001] ?_ ?_ (by exact sgOk_of (by rfl)) ?_
    · first | (simp; done) | (simp; assumption) | (simp only; grind)
    · (conv => whnf); (repeat' (first | exact trivial | rfl | (refine nilEq ?_; first | rfl | (simp only [*]; done) | (simp [*]; done) | grind) | apply And.intro | ((first | refine intEq ?_ | refine boolEq ?_ | refine strEq ?_ | refine psEq ?_ | refine nilEq ?_ | refine arrEq ?_); (try simp only [Int.toNat_natCast, nd_eta, sh_eta, it_eta, sto_eta, op_eta, ch_eta, nw_eta, fl_eta, rq_eta, rs_eta, elDef]); first | done | omega | grind | (simp only [*]; done) | (simp [*]; done)))); (all_goals (conv => whnf)); (repeat' (first | exact trivial | rfl | (refine nilEq ?_; first | rfl | (simp only [*]; done) | (simp [*]; done) | grind) | apply And.intro | ((first | refine intEq ?_ | refine boolEq ?_ | refine strEq ?_ | refine psEq ?_ | refine nilEq ?_ | refine arrEq ?_); (try simp only [Int.toNat_natCast, nd_eta, sh_eta, it_eta, sto_eta, op_eta, ch_eta, nw_eta, fl_eta, rq_eta, rs_eta, elDef]); first | done | omega | grind | (simp only [*]; done) | (simp [*]; done)) | ((try simp only [Int.toNat_natCast, nd_eta, sh_eta, it_eta, sto_eta, op_eta, ch_eta, nw_eta, fl_eta, rq_eta, rs_eta, elDef]); first | done | omega | grind | (simp only [*]; done) | (simp [*]; done))))
    rintro ⟨c, q, l⟩ hinv
    dsimp only at hinv
    conv => whnf
    obtain ⟨hi1, hi2, hi3⟩ := hinv
    repeat' first
      | (refine Cnd.mk (fun h => ?_) (fun h => ?_) <;> (try simp [nd_eta, sh_eta, it_eta, sto_eta, op_eta, ch_eta, nw_eta, fl_eta, rq_eta, rs_eta, elDef, -List.getD_eq_getElem?_getD] at h) <;> conv => whnf)
      | (refine Obl.mk (by first | omega | rfl | exact inK_byte _ | (simp only [inK, Int.toNat_natCast, nd_eta, sh_eta, it_eta, sto_eta, op_eta, ch_eta, nw_eta, fl_eta, rq_eta, rs_eta, elDef, m70] <;> first | omega | grind) | grind [inK, m70]) ?_ <;> conv => whnf)
      | (refine OblG.mk (by conv => whnf
                            repeat (first | (refine Bx.mk ?_) | (intro h; (try simp [nd_eta, sh_eta, it_eta, sto_eta, op_eta, ch_eta, nw_eta, fl_eta, rq_eta, rs_eta, elDef, -List.getD_eq_getElem?_getD] at h); conv => whnf))
                            first | omega | rfl | exact inK_byte _ | (simp only [inK, Int.toNat_natCast, nd_eta, sh_eta, it_eta, sto_eta, op_eta, ch_eta, nw_eta, fl_eta, rq_eta, rs_eta, elDef, m70] <;> first | omega | grind) | grind [inK, m70]) ?_ <;> conv => whnf)
      | (refine Gd.mk (fun h => ?_) <;> (try simp [nd_eta, sh_eta, it_eta, sto_eta, op_eta, ch_eta, nw_eta, fl_eta, rq_eta, rs_eta, elDef, -List.getD_eq_getElem?_getD] at h) <;> conv => whnf)
      | (refine And.intro ?_ ?_ <;> conv => whnf)
      | exact True.intro
      | (intro; conv => whnf)
    · exact ⟨(c + 1, q + 1, l ++ [⟨n1, n2, n3, n4, n5⟩]), [(900, 57)], [], ⟨by simp; omega, smN_snoc hi2 hs.1, by omega⟩, by simp only; omega, by (conv => whnf); (repeat' (first | exact trivial | rfl | (refine nilEq ?_; first | rfl | (simp only [*]; done) | (simp [*]; done) | grind) | apply And.intro | ((first | refine intEq ?_ | refine boolEq ?_ | refine strEq ?_ | refine psEq ?_ | refine nilEq ?_ | refine arrEq ?_); (try simp only [Int.toNat_natCast, nd_eta, sh_eta, it_eta, sto_eta, op_eta, ch_eta, nw_eta, fl_eta, rq_eta, rs_eta, elDef]); first | done | omega | grind | (simp only [*]; done) | (simp [*]; done)))); (all_goals (conv => whnf)); (repeat' (first | exact trivial | rfl | (refine nilEq ?_; first | rfl | (simp only [*]; done) | (simp [*]; done) | grind) | apply And.intro | ((first | refine intEq ?_ | refine boolEq ?_ | refine strEq ?_ | refine psEq ?_ | refine nilEq ?_ | refine arrEq ?_); (try simp only [Int.toNat_natCast, nd_eta, sh_eta, it_eta, sto_eta, op_eta, ch_eta, nw_eta, fl_eta, rq_eta, rs_eta, elDef]); first | done | omega | grind | (simp only [*]; done) | (simp [*]; done)) | ((try simp only [Int.toNat_natCast, nd_eta, sh_eta, it_eta, sto_eta, op_eta, ch_eta, nw_eta, fl_eta, rq_eta, rs_eta, elDef]); first | done | omega | grind | (simp only [*]; done) | (simp [*]; done)))), (by exact sgOk_of (by rfl))⟩
    · exact hK ⟨_, _, _, _, _⟩ _ (smN_mk (by simp) (by simp) (by omega) hi2) (by omega)
  · rename_i hs hq r1 h1 _ _ _ _ _
    exact hK ⟨_, _, _, _, _⟩ _ hs.1 (by omega)
theorem s58 : (CtrOK Try.prog 58 (.gen .ps C58) ∧ Callable Try.prog 58) := by
  refine gen_ok (E := E58) (mkE_cons s25 (mkE_cons s40 (mkE_cons s62 (mkE_cons s70 (mkE_nil tab_ok))))) mix (O := O58) (C := C58) (own := .ps) Try.func58 rfl (by rfl) (by kernel_rfl) (fun args K h hbd => ?_)
  unfold C58 at h; split at h
  case h_2 => exact h.elim
  exact ⟨Nat.le_of_ble_eq_true rfl, a58 _ _ (by exact hbd) _ h⟩
noncomputable def c41 (code : List Int) (p : Int) (s : Sto) (K : AV → List AV → Prop) : Prop :=
    Obl ((0 ≤ p ∧ p ≤ 9000000) ∧ byOk code) (∀ (c : Chg) (p' : Int), p ≤ p' ∧ p' ≤ p + 5000 → K (.st (chC c)) [.ref [.ps .u8 code, .int .i64 p']])
noncomputable def C41 : List AV → (AV → List AV → Prop) → Prop
  | [.ref [.ps .u8 code, .int .i64 p], .st [.ps .item s_0, .int .i64 s_1]], K => c41 code p ⟨s_0, s_1⟩ K
  | _, _ => False
noncomputable def E41 : Ctx := mkE tab [(25, .gen .ps C25), (58, .gen .ps C58), (61, .gen .ps C61), (62, .gen .ow C62)]
noncomputable def O41 : Nat → List DI := ordL []
theorem a41 (code : List Int) (p : Int) (s : Sto) (hb : BdAs [.ref [.ps .u8 code, .int .i64 p], .st (stC s)]) (K : AV → List AV → Prop) (h : c41 code p s K) : abody E41 O41 .ps Try.f41 (Try.f41.body.getD .skip) [.ref [.ps .u8 code, .int .i64 p], .st (stC s)] K := by
  simp only [BdAs, BdA, BdL, BdC, MX, ndC, shC, itC, stC, opC, chC, nwC, flC, rqC, rsC, enc, List.cons_append, List.nil_append, and_true, true_and] at hb
  unfold c41 at h
  obtain ⟨⟨hp, ho⟩, hK⟩ := h
  conv => whnf
  repeat' first
    | (refine Cnd.mk (fun h => ?_) (fun h => ?_) <;> (try simp [nd_eta, sh_eta, it_eta, sto_eta, op_eta, ch_eta, nw_eta, fl_eta, rq_eta, rs_eta, elDef, -List.getD_eq_getElem?_getD] at h) <;> conv => whnf)
    | (refine Obl.mk (by first | omega | rfl | exact inK_byte _ | (simp only [inK, Int.toNat_natCast, nd_eta, sh_eta, it_eta, sto_eta, op_eta, ch_eta, nw_eta, fl_eta, rq_eta, rs_eta, elDef] <;> first | omega | grind) | grind [inK]) ?_ <;> conv => whnf)
    | (refine OblG.mk (by conv => whnf
                          repeat (first | (refine Bx.mk ?_) | (intro h; (try simp [nd_eta, sh_eta, it_eta, sto_eta, op_eta, ch_eta, nw_eta, fl_eta, rq_eta, rs_eta, elDef, -List.getD_eq_getElem?_getD] at h); conv => whnf))
                          first | omega | rfl | exact inK_byte _ | (simp only [inK, Int.toNat_natCast, nd_eta, sh_eta, it_eta, sto_eta, op_eta, ch_eta, nw_eta, fl_eta, rq_eta, rs_eta, elDef] <;> first | omega | grind) | grind [inK]) ?_ <;> conv => whnf)
    | (refine Gd.mk (fun h => ?_) <;> (try simp [nd_eta, sh_eta, it_eta, sto_eta, op_eta, ch_eta, nw_eta, fl_eta, rq_eta, rs_eta, elDef, -List.getD_eq_getElem?_getD] at h) <;> conv => whnf)
    | (refine And.intro ?_ ?_ <;> conv => whnf)
    | exact True.intro
    | (intro; conv => whnf)
  all_goals exact hK ⟨_, _, ⟨_, _, _, _, _⟩⟩ _ (by omega)
theorem s41 : (CtrOK Try.prog 41 (.gen .ps C41) ∧ Callable Try.prog 41) := by
  refine gen_ok (E := E41) (mkE_cons s25 (mkE_cons s58 (mkE_cons s61 (mkE_cons s62 (mkE_nil tab_ok))))) mix (O := O41) (C := C41) (own := .ps) Try.func41 rfl (by rfl) (by kernel_rfl) (fun args K h hbd => ?_)
  unfold C41 at h; split at h
  case h_2 => exact h.elim
  exact ⟨Nat.le_of_ble_eq_true rfl, a41 _ _ ⟨_, _⟩ (by exact hbd) _ h⟩
noncomputable def c24 (code : List Int) (p : Int) (K : AV → List AV → Prop) : Prop :=
    Obl ((0 ≤ p ∧ p ≤ 1000000) ∧ byOk code) (∀ (l : List Chg) (p' : Int), l.length ≤ 20 → p ≤ p' ∧ p' ≤ p + 130000 → K (.ps .chg l) [.ref [.ps .u8 code, .int .i64 p']])
noncomputable def C24 : List AV → (AV → List AV → Prop) → Prop
  | [.ref [.ps .u8 code, .int .i64 p]], K => c24 code p K
  | _, _ => False
noncomputable def E24 : Ctx := mkE tab [(25, .gen .ps C25), (40, .gen .ps C40), (41, .gen .ps C41), (42, .gen .ps C42)]
noncomputable def O24 : Nat → List DI := ordL []
theorem a24 (code : List Int) (p : Int) (hb : BdAs [.ref [.ps .u8 code, .int .i64 p]]) (K : AV → List AV → Prop) (h : c24 code p K) : abody E24 O24 .ps Try.f24 (Try.f24.body.getD .skip) [.ref [.ps .u8 code, .int .i64 p]] K := by
  simp only [BdAs, BdA, BdL, BdC, MX, ndC, shC, itC, stC, opC, chC, nwC, flC, rqC, rsC, enc, List.cons_append, List.nil_append, and_true, true_and] at hb
  unfold c24 at h
  obtain ⟨⟨hp, ho⟩, hK⟩ := h
  conv => whnf
  repeat' first
    | (refine Cnd.mk (fun h => ?_) (fun h => ?_) <;> (try simp [nd_eta, sh_eta, it_eta, sto_eta, op_eta, ch_eta, nw_eta, fl_eta, rq_eta, rs_eta, elDef, -List.getD_eq_getElem?_getD] at h) <;> conv => whnf)
    | (refine Obl.mk (by first | omega | rfl | exact inK_byte _ | (simp only [inK, Int.toNat_natCast, nd_eta, sh_eta, it_eta, sto_eta, op_eta, ch_eta, nw_eta, fl_eta, rq_eta, rs_eta, elDef] <;> first | omega | grind) | grind [inK]) ?_ <;> conv => whnf)
    | (refine OblG.mk (by conv => whnf
                          repeat (first | (refine Bx.mk ?_) | (intro h; (try simp [nd_eta, sh_eta, it_eta, sto_eta, op_eta, ch_eta, nw_eta, fl_eta, rq_eta, rs_eta, elDef, -List.getD_eq_getElem?_getD] at h); conv => whnf))
                          first | omega | rfl | exact inK_byte _ | (simp only [inK, Int.toNat_natCast, nd_eta, sh_eta, it_eta, sto_eta, op_eta, ch_eta, nw_eta, fl_eta, rq_eta, rs_eta, elDef] <;> first | omega | grind) | grind [inK]) ?_ <;> conv => whnf)
    | (refine Gd.mk (fun h => ?_) <;> (try simp [nd_eta, sh_eta, it_eta, sto_eta, op_eta, ch_eta, nw_eta, fl_eta, rq_eta, rs_eta, elDef, -List.getD_eq_getElem?_getD] at h) <;> conv => whnf)
    | (refine And.intro ?_ ?_ <;> conv => whnf)
    | exact True.intro
    | (intro; conv => whnf)
  rename_i r hr
  have hr0 : 0 ≤ r ∧ r ≤ 20 := by simp at hr; omega
  refine aloop_intro (Int × Int × List Chg × Sto) (fun ⟨c, q, l, s⟩ => (0 ≤ c ∧ l.length + c ≤ 20) ∧ p ≤ q ∧ q + c * 6000 ≤ p + 1 + 20 * 6000) (fun ⟨c, q, l, s⟩ => c.toNat) (fun ⟨c, q, l, s⟩ => [(5, .int .i64 c), (3, .ls 900)]) (fun ⟨c, q, l, s⟩ => [(900, .arr .chg l), (4, .box (stC s)), (1000000, .box [.ps .u8 code, .int .i64 q])]) [] (r, p + 1, [], ⟨[], 0⟩) [(900, 9)] [10] ?_ ?_ (by exact sgOk_of (by rfl)) ?_
  · first | (simp; done) | (simp; assumption) | (simp only; grind)
  · (conv => whnf); (repeat' (first | exact trivial | rfl | (refine nilEq ?_; first | rfl | (simp only [*]; done) | (simp [*]; done) | grind) | apply And.intro | ((first | refine intEq ?_ | refine boolEq ?_ | refine strEq ?_ | refine psEq ?_ | refine nilEq ?_ | refine arrEq ?_); (try simp only [Int.toNat_natCast, nd_eta, sh_eta, it_eta, sto_eta, op_eta, ch_eta, nw_eta, fl_eta, rq_eta, rs_eta, elDef]); first | done | omega | grind | (simp only [*]; done) | (simp [*]; done)))); (all_goals (conv => whnf)); (repeat' (first | exact trivial | rfl | (refine nilEq ?_; first | rfl | (simp only [*]; done) | (simp [*]; done) | grind) | apply And.intro | ((first | refine intEq ?_ | refine boolEq ?_ | refine strEq ?_ | refine psEq ?_ | refine nilEq ?_ | refine arrEq ?_); (try simp only [Int.toNat_natCast, nd_eta, sh_eta, it_eta, sto_eta, op_eta, ch_eta, nw_eta, fl_eta, rq_eta, rs_eta, elDef]); first | done | omega | grind | (simp only [*]; done) | (simp [*]; done)) | ((try simp only [Int.toNat_natCast, nd_eta, sh_eta, it_eta, sto_eta, op_eta, ch_eta, nw_eta, fl_eta, rq_eta, rs_eta, elDef]); first | done | omega | grind | (simp only [*]; done) | (simp [*]; done))))
  rintro ⟨c, q, l, s⟩ hinv
  dsimp only at hinv
  conv => whnf
  obtain ⟨hi1, hi2, hi3⟩ := hinv
  repeat' first
    | (refine Cnd.mk (fun h => ?_) (fun h => ?_) <;> (try simp [nd_eta, sh_eta, it_eta, sto_eta, op_eta, ch_eta, nw_eta, fl_eta, rq_eta, rs_eta, elDef, -List.getD_eq_getElem?_getD] at h) <;> conv => whnf)
    | (refine Obl.mk (by first | omega | rfl | exact inK_byte _ | (simp only [inK, Int.toNat_natCast, nd_eta, sh_eta, it_eta, sto_eta, op_eta, ch_eta, nw_eta, fl_eta, rq_eta, rs_eta, elDef] <;> first | omega | grind) | grind [inK]) ?_ <;> conv => whnf)
    | (refine OblG.mk (by conv => whnf
                          repeat (first | (refine Bx.mk ?_) | (intro h; (try simp [nd_eta, sh_eta, it_eta, sto_eta, op_eta, ch_eta, nw_eta, fl_eta, rq_eta, rs_eta, elDef, -List.getD_eq_getElem?_getD] at h); conv => whnf))
                          first | omega | rfl | exact inK_byte _ | (simp only [inK, Int.toNat_natCast, nd_eta, sh_eta, it_eta, sto_eta, op_eta, ch_eta, nw_eta, fl_eta, rq_eta, rs_eta, elDef] <;> first | omega | grind) | grind [inK]) ?_ <;> conv => whnf)
    | (refine Gd.mk (fun h => ?_) <;> (try simp [nd_eta, sh_eta, it_eta, sto_eta, op_eta, ch_eta, nw_eta, fl_eta, rq_eta, rs_eta, elDef, -List.getD_eq_getElem?_getD] at h) <;> conv => whnf)
    | (refine And.intro ?_ ?_ <;> conv => whnf)
    | exact True.intro
    | (intro; conv => whnf)
  · rename_i x q' hq
    exact ⟨(c - 1, q', l ++ [x], (applyCM s x).getD ⟨[], 0⟩), [(900, 33)], [], ⟨by simp; omega, by omega, by omega⟩, by simp only; omega, by (conv => whnf); (repeat' (first | exact trivial | rfl | (refine nilEq ?_; first | rfl | (simp only [*]; done) | (simp [*]; done) | grind) | apply And.intro | ((first | refine intEq ?_ | refine boolEq ?_ | refine strEq ?_ | refine psEq ?_ | refine nilEq ?_ | refine arrEq ?_); (try simp only [Int.toNat_natCast, nd_eta, sh_eta, it_eta, sto_eta, op_eta, ch_eta, nw_eta, fl_eta, rq_eta, rs_eta, elDef]); first | done | omega | grind | (simp only [*]; done) | (simp [*]; done)))); (all_goals (conv => whnf)); (repeat' (first | exact trivial | rfl | (refine nilEq ?_; first | rfl | (simp only [*]; done) | (simp [*]; done) | grind) | apply And.intro | ((first | refine intEq ?_ | refine boolEq ?_ | refine strEq ?_ | refine psEq ?_ | refine nilEq ?_ | refine arrEq ?_); (try simp only [Int.toNat_natCast, nd_eta, sh_eta, it_eta, sto_eta, op_eta, ch_eta, nw_eta, fl_eta, rq_eta, rs_eta, elDef]); first | done | omega | grind | (simp only [*]; done) | (simp [*]; done)) | ((try simp only [Int.toNat_natCast, nd_eta, sh_eta, it_eta, sto_eta, op_eta, ch_eta, nw_eta, fl_eta, rq_eta, rs_eta, elDef]); first | done | omega | grind | (simp only [*]; done) | (simp [*]; done)))), (by exact sgOk_of (by rfl))⟩
  · rename_i x q' hq _ r1 h1
    exact ⟨(c - 1, q' + 1, l ++ [x], s), [(900, 40)], [], ⟨by simp; omega, by omega, by omega⟩, by simp only; omega, by (conv => whnf); (repeat' (first | exact trivial | rfl | (refine nilEq ?_; first | rfl | (simp only [*]; done) | (simp [*]; done) | grind) | apply And.intro | ((first | refine intEq ?_ | refine boolEq ?_ | refine strEq ?_ | refine psEq ?_ | refine nilEq ?_ | refine arrEq ?_); (try simp only [Int.toNat_natCast, nd_eta, sh_eta, it_eta, sto_eta, op_eta, ch_eta, nw_eta, fl_eta, rq_eta, rs_eta, elDef]); first | done | omega | grind | (simp only [*]; done) | (simp [*]; done)))); (all_goals (conv => whnf)); (repeat' (first | exact trivial | rfl | (refine nilEq ?_; first | rfl | (simp only [*]; done) | (simp [*]; done) | grind) | apply And.intro | ((first | refine intEq ?_ | refine boolEq ?_ | refine strEq ?_ | refine psEq ?_ | refine nilEq ?_ | refine arrEq ?_); (try simp only [Int.toNat_natCast, nd_eta, sh_eta, it_eta, sto_eta, op_eta, ch_eta, nw_eta, fl_eta, rq_eta, rs_eta, elDef]); first | done | omega | grind | (simp only [*]; done) | (simp [*]; done)) | ((try simp only [Int.toNat_natCast, nd_eta, sh_eta, it_eta, sto_eta, op_eta, ch_eta, nw_eta, fl_eta, rq_eta, rs_eta, elDef]); first | done | omega | grind | (simp only [*]; done) | (simp [*]; done)))), (by exact sgOk_of (by rfl))⟩
  · rename_i x q' hq _ r1 h1
    exact ⟨(c - 1, q' + 1, l, s), [], [], ⟨by omega, by omega, by omega⟩, by simp only; omega, by (conv => whnf); (repeat' (first | exact trivial | rfl | (refine nilEq ?_; first | rfl | (simp only [*]; done) | (simp [*]; done) | grind) | apply And.intro | ((first | refine intEq ?_ | refine boolEq ?_ | refine strEq ?_ | refine psEq ?_ | refine nilEq ?_ | refine arrEq ?_); (try simp only [Int.toNat_natCast, nd_eta, sh_eta, it_eta, sto_eta, op_eta, ch_eta, nw_eta, fl_eta, rq_eta, rs_eta, elDef]); first | done | omega | grind | (simp only [*]; done) | (simp [*]; done)))); (all_goals (conv => whnf)); (repeat' (first | exact trivial | rfl | (refine nilEq ?_; first | rfl | (simp only [*]; done) | (simp [*]; done) | grind) | apply And.intro | ((first | refine intEq ?_ | refine boolEq ?_ | refine strEq ?_ | refine psEq ?_ | refine nilEq ?_ | refine arrEq ?_); (try simp only [Int.toNat_natCast, nd_eta, sh_eta, it_eta, sto_eta, op_eta, ch_eta, nw_eta, fl_eta, rq_eta, rs_eta, elDef]); first | done | omega | grind | (simp only [*]; done) | (simp [*]; done)) | ((try simp only [Int.toNat_natCast, nd_eta, sh_eta, it_eta, sto_eta, op_eta, ch_eta, nw_eta, fl_eta, rq_eta, rs_eta, elDef]); first | done | omega | grind | (simp only [*]; done) | (simp [*]; done)))), (by exact sgOk_of (by rfl))⟩
  · exact hK _ _ (by omega) (by omega)
theorem s24 : (CtrOK Try.prog 24 (.gen .ps C24) ∧ Callable Try.prog 24) := by
  refine gen_ok (E := E24) (mkE_cons s25 (mkE_cons s40 (mkE_cons s41 (mkE_cons s42 (mkE_nil tab_ok))))) mix (O := O24) (C := C24) (own := .ps) Try.func24 rfl (by rfl) (by kernel_rfl) (fun args K h hbd => ?_)
  unfold C24 at h; split at h
  case h_2 => exact h.elim
  exact ⟨Nat.le_of_ble_eq_true rfl, a24 _ _ (by exact hbd) _ h⟩
end Go.Rs

