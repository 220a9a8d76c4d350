import Derived.Test.YtcihnbfagkkfnaaCK
set_option linter.all false
namespace Go.Rs
open Go.Proofs
set_option maxRecDepth 100000
set_option linter.unusedVariables false
set_option linter.unusedSimpArgs false
noncomputable def c83 (code : List Int) (p : Int) (d : Int) (K : AV → List AV → Prop) : Prop :=
    Obl ((0 ≤ p ∧ p + costN d ≤ 100000000) ∧ byOk code ∧ 0 ≤ d ∧ d ≤ 3) (∀ (n1 n2 : Int) (n3 : Bs) (n4 : List Bs) (n5 : List Nd) (p' : Int), smN ⟨n1, n2, n3, n4, n5⟩ → p ≤ p' ∧ p' ≤ p + costN d → K (.st [.int .i64 n1, .int .i64 n2, .str n3, .own .str n4, .own .node n5]) [.ref [.ps .u8 code, .int .i64 p']])
noncomputable def m83 (code : List Int) (p : Int) (d : Int) : Nat := (2 * d + 1).toNat
noncomputable def C83 : List AV → (AV → List AV → Prop) → Prop
  | [.ref [.ps .u8 code, .int .i64 p], .int .i64 d], K => c83 code p d K
  | _, _ => False
noncomputable def Ck83 (k : Nat) : List AV → (AV → List AV → Prop) → Prop
  | [.ref [.ps .u8 code, .int .i64 p], .int .i64 d], K => Obl (m83 code p d < k) (c83 code p d K)
  | _, _ => False
noncomputable def c84 (code : List Int) (p : Int) (d : Int) (K : AV → List AV → Prop) : Prop :=
    Obl ((0 ≤ p ∧ p + costR d ≤ 100000000) ∧ byOk code ∧ 1 ≤ d ∧ d ≤ 3) (∀ (n1 n2 : Int) (n3 : Bs) (n4 : List Bs) (n5 : List Nd) (p' : Int), smN ⟨n1, n2, n3, n4, n5⟩ → p ≤ p' ∧ p' ≤ p + costR d → K (.st [.int .i64 n1, .int .i64 n2, .str n3, .own .str n4, .own .node n5]) [.ref [.ps .u8 code, .int .i64 p']])
noncomputable def m84 (code : List Int) (p : Int) (d : Int) : Nat := (2 * d).toNat
noncomputable def C84 : List AV → (AV → List AV → Prop) → Prop
  | [.ref [.ps .u8 code, .int .i64 p], .int .i64 d], K => c84 code p d K
  | _, _ => False
noncomputable def Ck84 (k : Nat) : List AV → (AV → List AV → Prop) → Prop
  | [.ref [.ps .u8 code, .int .i64 p], .int .i64 d], K => Obl (m84 code p d < k) (c84 code p d K)
  | _, _ => False
noncomputable def E83 (k : Nat) : Ctx := mkE tab [(23, .gen .ps C23), (27, .gen .ps C27), (83, .gen .ow (Ck83 k)), (84, .gen .ow (Ck84 k)), (93, .gen .ps C93)]
noncomputable def O83 : Nat → List DI := ordL []
theorem a83 (k : Nat) (code : List Int) (p : Int) (d : Int) (hm : m83 code p d < k + 1) (hb : BdAs [.ref [.ps .u8 code, .int .i64 p], .int .i64 d]) (K : AV → List AV → Prop) (h : c83 code p d K) : abody (E83 k) O83 .ow Try.f83 (Try.f83.body.getD .skip) [.ref [.ps .u8 code, .int .i64 p], .int .i64 d] K := by
  simp only [BdAs, BdA, BdL, BdC, MX, ndC, shC, itC, stC, opC, chC, nwC, flC, rqC, rsC, enc, List.cons_append, List.nil_append, and_true, true_and] at hb
  unfold c83 at h
  unfold m83 at hm
  obtain ⟨⟨hp, ho, hd⟩, hK⟩ := h
  obtain ⟨hc1, hc2, hc3, hc4, hc5, hc6⟩ := cost_facts d
  have hc7 := (cost_facts (d - 1)).2.2
  conv => whnf
  repeat' first
    | (refine Cnd.mk (fun h => ?_) (fun h => ?_) <;> (try simp [nd_eta, sh_eta, it_eta, sto_eta, op_eta, ch_eta, nw_eta, fl_eta, rq_eta, rs_eta, elDef, -List.getD_eq_getElem?_getD] at h) <;> conv => whnf)
    | (refine Obl.mk (by first | omega | rfl | exact inK_byte _ | (simp only [inK, Int.toNat_natCast, nd_eta, sh_eta, it_eta, sto_eta, op_eta, ch_eta, nw_eta, fl_eta, rq_eta, rs_eta, elDef, m83, m84, m83, m84] <;> first | omega | grind) | grind [inK, m83, m84, m83, m84]) ?_ <;> conv => whnf)
    | (refine OblG.mk (by conv => whnf
                          repeat (first | (refine Bx.mk ?_) | (intro h; (try simp [nd_eta, sh_eta, it_eta, sto_eta, op_eta, ch_eta, nw_eta, fl_eta, rq_eta, rs_eta, elDef, -List.getD_eq_getElem?_getD] at h); conv => whnf))
                          first | omega | rfl | exact inK_byte _ | (simp only [inK, Int.toNat_natCast, nd_eta, sh_eta, it_eta, sto_eta, op_eta, ch_eta, nw_eta, fl_eta, rq_eta, rs_eta, elDef, m83, m84, m83, m84] <;> first | omega | grind) | grind [inK, m83, m84, m83, m84]) ?_ <;> conv => whnf)
    | (refine Gd.mk (fun h => ?_) <;> (try simp [nd_eta, sh_eta, it_eta, sto_eta, op_eta, ch_eta, nw_eta, fl_eta, rq_eta, rs_eta, elDef, -List.getD_eq_getElem?_getD] at h) <;> conv => whnf)
    | (refine And.intro ?_ ?_ <;> conv => whnf)
    | exact True.intro
    | (intro; conv => whnf)
  · exact hK _ _ _ _ _ _ (smN_leaf (by simp)) (by omega)
  · exact hK _ _ _ _ _ _ (smN_leaf (by omega)) (by omega)
  · exfalso; omega
  · exfalso; omega
  · exact hK _ _ _ _ _ _ (smN_leaf (by simp)) (by omega)
  · exact hK _ _ _ _ _ _ (smN_leaf (by simp)) (by omega)
  · exact hK _ _ _ _ _ _ (smN_leaf (by omega)) (by omega)
  · rename_i r hr
    have hr3 := mul_le_c (c := r) (T := costN (d - 1)) (k := 3) (by omega) (by omega)
    refine aloop_intro (Int × Int × List Nd) (fun ⟨c, q, l⟩ => (0 ≤ c ∧ c ≤ 3 ∧ l.length + c ≤ 3) ∧ (∀ x ∈ l, smN x) ∧ p ≤ q ∧ q + c * costN (d - 1) ≤ p + 2 + 3 * costN (d - 1)) (fun ⟨c, q, l⟩ => c.toNat) (fun ⟨c, q, l⟩ => [(7, .int .i64 c), (6, .ls 900)]) (fun ⟨c, q, l⟩ => [(900, .arr .node l), (1000000, .box [.ps .u8 code, .int .i64 q])]) [4] (r, p + 2, []) [(900, 32)] [] ?_ ?_ (by exact sgOk_of (by rfl)) ?_
    · first | (simp; done) | (simp; assumption) | (simp only; grind)
    · (conv => whnf); (repeat' (first | exact trivial | rfl | (refine nilEq ?_; first | rfl | (simp only [*]; done) | (simp [*]; done) | grind) | apply And.intro | ((first | refine intEq ?_ | refine boolEq ?_ | refine strEq ?_ | refine psEq ?_ | refine nilEq ?_ | refine arrEq ?_); (try simp only [Int.toNat_natCast, nd_eta, sh_eta, it_eta, sto_eta, op_eta, ch_eta, nw_eta, fl_eta, rq_eta, rs_eta, elDef]); first | done | omega | grind | (simp only [*]; done) | (simp [*]; done)))); (all_goals (conv => whnf)); (repeat' (first | exact trivial | rfl | (refine nilEq ?_; first | rfl | (simp only [*]; done) | (simp [*]; done) | grind) | apply And.intro | ((first | refine intEq ?_ | refine boolEq ?_ | refine strEq ?_ | refine psEq ?_ | refine nilEq ?_ | refine arrEq ?_); (try simp only [Int.toNat_natCast, nd_eta, sh_eta, it_eta, sto_eta, op_eta, ch_eta, nw_eta, fl_eta, rq_eta, rs_eta, elDef]); first | done | omega | grind | (simp only [*]; done) | (simp [*]; done)) | ((try simp only [Int.toNat_natCast, nd_eta, sh_eta, it_eta, sto_eta, op_eta, ch_eta, nw_eta, fl_eta, rq_eta, rs_eta, elDef]); first | done | omega | grind | (simp only [*]; done) | (simp [*]; done))))
    rintro ⟨c, q, l⟩ hinv
    dsimp only at hinv
    conv => whnf
    obtain ⟨hi1, hi2, hi3, hi4⟩ := hinv
    have hs := mul_step c (costN (d - 1))
    have hn := mul_nn (c := c) (T := costN (d - 1)) (by omega) (by omega)
    repeat' first
      | (refine Cnd.mk (fun h => ?_) (fun h => ?_) <;> (try simp [nd_eta, sh_eta, it_eta, sto_eta, op_eta, ch_eta, nw_eta, fl_eta, rq_eta, rs_eta, elDef, -List.getD_eq_getElem?_getD] at h) <;> conv => whnf)
      | (refine Obl.mk (by first | omega | rfl | exact inK_byte _ | (simp only [inK, Int.toNat_natCast, nd_eta, sh_eta, it_eta, sto_eta, op_eta, ch_eta, nw_eta, fl_eta, rq_eta, rs_eta, elDef, m83, m84, m83, m84] <;> first | omega | grind) | grind [inK, m83, m84, m83, m84]) ?_ <;> conv => whnf)
      | (refine OblG.mk (by conv => whnf
                            repeat (first | (refine Bx.mk ?_) | (intro h; (try simp [nd_eta, sh_eta, it_eta, sto_eta, op_eta, ch_eta, nw_eta, fl_eta, rq_eta, rs_eta, elDef, -List.getD_eq_getElem?_getD] at h); conv => whnf))
                            first | omega | rfl | exact inK_byte _ | (simp only [inK, Int.toNat_natCast, nd_eta, sh_eta, it_eta, sto_eta, op_eta, ch_eta, nw_eta, fl_eta, rq_eta, rs_eta, elDef, m83, m84, m83, m84] <;> first | omega | grind) | grind [inK, m83, m84, m83, m84]) ?_ <;> conv => whnf)
      | (refine Gd.mk (fun h => ?_) <;> (try simp [nd_eta, sh_eta, it_eta, sto_eta, op_eta, ch_eta, nw_eta, fl_eta, rq_eta, rs_eta, elDef, -List.getD_eq_getElem?_getD] at h) <;> conv => whnf)
      | (refine And.intro ?_ ?_ <;> conv => whnf)
      | exact True.intro
      | (intro; conv => whnf)
    · rename_i m1 m2 m3 m4 m5 q' hsm hq
      exact ⟨(c - 1, q', l ++ [⟨m1, m2, m3, m4, m5⟩]), [(900, 45)], [], ⟨by simp; omega, by simp; intro x hx; rcases hx with hx | rfl; exact hi2 x hx; exact hsm, by omega, by omega⟩, by simp only; omega, by (conv => whnf); (repeat' (first | exact trivial | rfl | (refine nilEq ?_; first | rfl | (simp only [*]; done) | (simp [*]; done) | grind) | apply And.intro | ((first | refine intEq ?_ | refine boolEq ?_ | refine strEq ?_ | refine psEq ?_ | refine nilEq ?_ | refine arrEq ?_); (try simp only [Int.toNat_natCast, nd_eta, sh_eta, it_eta, sto_eta, op_eta, ch_eta, nw_eta, fl_eta, rq_eta, rs_eta, elDef]); first | done | omega | grind | (simp only [*]; done) | (simp [*]; done)))); (all_goals (conv => whnf)); (repeat' (first | exact trivial | rfl | (refine nilEq ?_; first | rfl | (simp only [*]; done) | (simp [*]; done) | grind) | apply And.intro | ((first | refine intEq ?_ | refine boolEq ?_ | refine strEq ?_ | refine psEq ?_ | refine nilEq ?_ | refine arrEq ?_); (try simp only [Int.toNat_natCast, nd_eta, sh_eta, it_eta, sto_eta, op_eta, ch_eta, nw_eta, fl_eta, rq_eta, rs_eta, elDef]); first | done | omega | grind | (simp only [*]; done) | (simp [*]; done)) | ((try simp only [Int.toNat_natCast, nd_eta, sh_eta, it_eta, sto_eta, op_eta, ch_eta, nw_eta, fl_eta, rq_eta, rs_eta, elDef]); first | done | omega | grind | (simp only [*]; done) | (simp [*]; done)))), (by exact sgOk_of (by rfl))⟩
    · exact hK _ _ _ _ _ _ (smN_mk (by simp) (by simp) (by omega) hi2) (by omega)
  · rename_i hsm hq
    exact hK _ _ _ _ _ _ hsm (by omega)
  · exact hK _ _ _ _ _ _ (smN_leaf (by simp)) (by omega)
noncomputable def E84 (k : Nat) : Ctx := mkE tab [(27, .gen .ps C27), (83, .gen .ow (Ck83 k)), (94, .gen .ps C94), (95, .pure F95), (96, .gen .ow C96)]
noncomputable def O84 : Nat → List DI := ordL []
theorem a84 (k : Nat) (code : List Int) (p : Int) (d : Int) (hm : m84 code p d < k + 1) (hb : BdAs [.ref [.ps .u8 code, .int .i64 p], .int .i64 d]) (K : AV → List AV → Prop) (h : c84 code p d K) : abody (E84 k) O84 .ow Try.f84 (Try.f84.body.getD .skip) [.ref [.ps .u8 code, .int .i64 p], .int .i64 d] K := by
  simp only [BdAs, BdA, BdL, BdC, MX, ndC, shC, itC, stC, opC, chC, nwC, flC, rqC, rsC, enc, List.cons_append, List.nil_append, and_true, true_and] at hb
  unfold c84 at h
  unfold m84 at hm
  obtain ⟨⟨hp, ho, hd⟩, hK⟩ := h
  obtain ⟨hc1, hc2, hc3, hc4, hc5, hc6⟩ := cost_facts d
  have hc7 := (cost_facts (d - 1)).2.2
  conv => whnf
  repeat' first
    | (refine Cnd.mk (fun h => ?_) (fun h => ?_) <;> (try simp [nd_eta, sh_eta, it_eta, sto_eta, op_eta, ch_eta, nw_eta, fl_eta, rq_eta, rs_eta, elDef, -List.getD_eq_getElem?_getD] at h) <;> conv => whnf)
    | (refine Obl.mk (by first | omega | rfl | exact inK_byte _ | (simp only [inK, Int.toNat_natCast, nd_eta, sh_eta, it_eta, sto_eta, op_eta, ch_eta, nw_eta, fl_eta, rq_eta, rs_eta, elDef, m83, m84, m83, o95] <;> first | omega | grind) | grind [inK, m83, m84, m83, o95]) ?_ <;> conv => whnf)
    | (refine OblG.mk (by conv => whnf
                          repeat (first | (refine Bx.mk ?_) | (intro h; (try simp [nd_eta, sh_eta, it_eta, sto_eta, op_eta, ch_eta, nw_eta, fl_eta, rq_eta, rs_eta, elDef, -List.getD_eq_getElem?_getD] at h); conv => whnf))
                          first | omega | rfl | exact inK_byte _ | (simp only [inK, Int.toNat_natCast, nd_eta, sh_eta, it_eta, sto_eta, op_eta, ch_eta, nw_eta, fl_eta, rq_eta, rs_eta, elDef, m83, m84, m83, o95] <;> first | omega | grind) | grind [inK, m83, m84, m83, o95]) ?_ <;> conv => whnf)
    | (refine Gd.mk (fun h => ?_) <;> (try simp [nd_eta, sh_eta, it_eta, sto_eta, op_eta, ch_eta, nw_eta, fl_eta, rq_eta, rs_eta, elDef, -List.getD_eq_getElem?_getD] at h) <;> conv => whnf)
    | (refine And.intro ?_ ?_ <;> conv => whnf)
    | exact True.intro
    | (intro; conv => whnf)
  rename_i r hr
  have hr0 : 0 ≤ r ∧ r ≤ 4 := by simp at hr; omega
  have hr3 := mul_le_c (c := r) (T := costN (d - 1) + 1) (k := 4) (by omega) (by omega)
  have hm0 : mapOk ⟨4, 0, [], [], []⟩ r := ⟨rfl, fun _ => rfl, smN_leaf (by simp), by simp; omega, by omega⟩
  refine aloop_intro (Int × Int × Nd) (fun ⟨c, q, m⟩ => mapOk m c ∧ p ≤ q ∧ q + c * (costN (d - 1) + 1) ≤ p + 1 + 4 * (costN (d - 1) + 1)) (fun ⟨c, q, m⟩ => c.toNat) (fun ⟨c, q, m⟩ => [(6, .int .i64 c)]) (fun ⟨c, q, m⟩ => [(5, .box [.int .i64 m.kind, .int .i64 m.num, .str m.text, .ls 901, .ls 902]), (901, .arr .str m.names), (902, .arr .node m.kids), (1000000, .box [.ps .u8 code, .int .i64 q])]) [4] (r, p + 1, ⟨4, 0, [], [], []⟩) [(901, 9), (902, 10)] [] ?_ ?_ (by exact sgOk_of (by rfl)) ?_
  · first | (simp; done) | (simp; assumption) | (simp only; grind)
  · (conv => whnf); (repeat' (first | exact trivial | rfl | (refine nilEq ?_; first | rfl | (simp only [*]; done) | (simp [*]; done) | grind) | apply And.intro | ((first | refine intEq ?_ | refine boolEq ?_ | refine strEq ?_ | refine psEq ?_ | refine nilEq ?_ | refine arrEq ?_); (try simp only [Int.toNat_natCast, nd_eta, sh_eta, it_eta, sto_eta, op_eta, ch_eta, nw_eta, fl_eta, rq_eta, rs_eta, elDef]); first | done | omega | grind | (simp only [*]; done) | (simp [*]; done)))); (all_goals (conv => whnf)); (repeat' (first | exact trivial | rfl | (refine nilEq ?_; first | rfl | (simp only [*]; done) | (simp [*]; done) | grind) | apply And.intro | ((first | refine intEq ?_ | refine boolEq ?_ | refine strEq ?_ | refine psEq ?_ | refine nilEq ?_ | refine arrEq ?_); (try simp only [Int.toNat_natCast, nd_eta, sh_eta, it_eta, sto_eta, op_eta, ch_eta, nw_eta, fl_eta, rq_eta, rs_eta, elDef]); first | done | omega | grind | (simp only [*]; done) | (simp [*]; done)) | ((try simp only [Int.toNat_natCast, nd_eta, sh_eta, it_eta, sto_eta, op_eta, ch_eta, nw_eta, fl_eta, rq_eta, rs_eta, elDef]); first | done | omega | grind | (simp only [*]; done) | (simp [*]; done))))
  rintro ⟨c, q, m⟩ hinv
  dsimp only at hinv
  conv => whnf
  obtain ⟨hi1, hi2, hi3⟩ := hinv
  have hs := mul_step c (costN (d - 1) + 1)
  have hn := mul_nn (c := c) (T := costN (d - 1) + 1) hi1.2.2.2.2 (by omega)
  have hn2 : 0 < c → 0 ≤ (c - 1) * (costN (d - 1) + 1) := fun h => mul_nn (by omega) (by omega)
  have hmk := hi1.1
  have hme : m.kind = 4 → m.names.length = m.kids.length := hi1.2.1
  have hml := hi1.2.2.2
  have hms := smN_eta hi1.2.2.1
  have hevm : evenN ⟨m.kind, m.num, m.text, m.names, m.kids⟩ := hi1.2.1
  repeat' first
    | (refine Cnd.mk (fun h => ?_) (fun h => ?_) <;> (try simp [nd_eta, sh_eta, it_eta, sto_eta, op_eta, ch_eta, nw_eta, fl_eta, rq_eta, rs_eta, elDef, -List.getD_eq_getElem?_getD] at h) <;> conv => whnf)
    | (refine Obl.mk (by first | omega | rfl | exact inK_byte _ | (simp only [inK, Int.toNat_natCast, nd_eta, sh_eta, it_eta, sto_eta, op_eta, ch_eta, nw_eta, fl_eta, rq_eta, rs_eta, elDef, m83, m84, m83, o95] <;> first | omega | grind) | grind [inK, m83, m84, m83, o95]) ?_ <;> conv => whnf)
    | (refine OblG.mk (by conv => whnf
                          repeat (first | (refine Bx.mk ?_) | (intro h; (try simp [nd_eta, sh_eta, it_eta, sto_eta, op_eta, ch_eta, nw_eta, fl_eta, rq_eta, rs_eta, elDef, -List.getD_eq_getElem?_getD] at h); conv => whnf))
                          first | omega | rfl | exact inK_byte _ | (simp only [inK, Int.toNat_natCast, nd_eta, sh_eta, it_eta, sto_eta, op_eta, ch_eta, nw_eta, fl_eta, rq_eta, rs_eta, elDef, m83, m84, m83, o95] <;> first | omega | grind) | grind [inK, m83, m84, m83, o95]) ?_ <;> conv => whnf)
    | (refine Gd.mk (fun h => ?_) <;> (try simp [nd_eta, sh_eta, it_eta, sto_eta, op_eta, ch_eta, nw_eta, fl_eta, rq_eta, rs_eta, elDef, -List.getD_eq_getElem?_getD] at h) <;> conv => whnf)
    | (refine And.intro ?_ ?_ <;> conv => whnf)
    | exact True.intro
    | (intro; conv => whnf)
  · rename_i b hb9 x1 x2 x3 x4 x5 q' hx hq
    have hpl : placeM ⟨m.kind, m.num, m.text, m.names, m.kids⟩ b < 0 := by simpa only [nd_eta] using h
    have hadd := hi1.add (by omega) hx (b := b) h
    rw [← nd_eta m] at hadd
    refine Obl.mk ⟨⟨hms, hx⟩, by omega, by have := hme hmk; omega, hevm, hpl⟩ ?_
    conv => whnf
    repeat' first
      | (refine Cnd.mk (fun h => ?_) (fun h => ?_) <;> (try simp [nd_eta, sh_eta, it_eta, sto_eta, op_eta, ch_eta, nw_eta, fl_eta, rq_eta, rs_eta, elDef, -List.getD_eq_getElem?_getD] at h) <;> conv => whnf)
      | (refine Obl.mk (by first | omega | rfl | exact inK_byte _ | (simp only [inK, Int.toNat_natCast, nd_eta, sh_eta, it_eta, sto_eta, op_eta, ch_eta, nw_eta, fl_eta, rq_eta, rs_eta, elDef, m83, m84, m83, o95] <;> first | omega | grind) | grind [inK, m83, m84, m83, o95]) ?_ <;> conv => whnf)
      | (refine OblG.mk (by conv => whnf
                            repeat (first | (refine Bx.mk ?_) | (intro h; (try simp [nd_eta, sh_eta, it_eta, sto_eta, op_eta, ch_eta, nw_eta, fl_eta, rq_eta, rs_eta, elDef, -List.getD_eq_getElem?_getD] at h); conv => whnf))
                            first | omega | rfl | exact inK_byte _ | (simp only [inK, Int.toNat_natCast, nd_eta, sh_eta, it_eta, sto_eta, op_eta, ch_eta, nw_eta, fl_eta, rq_eta, rs_eta, elDef, m83, m84, m83, o95] <;> first | omega | grind) | grind [inK, m83, m84, m83, o95]) ?_ <;> conv => whnf)
      | (refine Gd.mk (fun h => ?_) <;> (try simp [nd_eta, sh_eta, it_eta, sto_eta, op_eta, ch_eta, nw_eta, fl_eta, rq_eta, rs_eta, elDef, -List.getD_eq_getElem?_getD] at h) <;> conv => whnf)
      | (refine And.intro ?_ ?_ <;> conv => whnf)
      | exact True.intro
      | (intro; conv => whnf)
    exact ⟨(c - 1, q', (addHereM ⟨m.kind, m.num, m.text, m.names, m.kids⟩ b ⟨x1, x2, x3, x4, x5⟩).getD default), [(901, 34000), (902, 34001)], [], ⟨hadd, by omega, by omega⟩, by simp only; omega, by (conv => whnf); (repeat' (first | exact trivial | rfl | (refine nilEq ?_; first | rfl | (simp only [*]; done) | (simp [*]; done) | grind) | apply And.intro | ((first | refine intEq ?_ | refine boolEq ?_ | refine strEq ?_ | refine psEq ?_ | refine nilEq ?_ | refine arrEq ?_); (try simp only [Int.toNat_natCast, nd_eta, sh_eta, it_eta, sto_eta, op_eta, ch_eta, nw_eta, fl_eta, rq_eta, rs_eta, elDef]); first | done | omega | grind | (simp only [*]; done) | (simp [*]; done)))); (all_goals (conv => whnf)); (repeat' (first | exact trivial | rfl | (refine nilEq ?_; first | rfl | (simp only [*]; done) | (simp [*]; done) | grind) | apply And.intro | ((first | refine intEq ?_ | refine boolEq ?_ | refine strEq ?_ | refine psEq ?_ | refine nilEq ?_ | refine arrEq ?_); (try simp only [Int.toNat_natCast, nd_eta, sh_eta, it_eta, sto_eta, op_eta, ch_eta, nw_eta, fl_eta, rq_eta, rs_eta, elDef]); first | done | omega | grind | (simp only [*]; done) | (simp [*]; done)) | ((try simp only [Int.toNat_natCast, nd_eta, sh_eta, it_eta, sto_eta, op_eta, ch_eta, nw_eta, fl_eta, rq_eta, rs_eta, elDef]); first | done | omega | grind | (simp only [*]; done) | (simp [*]; done)))), (by exact sgOk_of (by rfl))⟩
  · rename_i b hb9 x1 x2 x3 x4 x5 q' hx hq
    exact ⟨(c - 1, q', m), [], [], ⟨hi1.stay (by omega), by omega, by omega⟩, by simp only; omega, by (conv => whnf); (repeat' (first | exact trivial | rfl | (refine nilEq ?_; first | rfl | (simp only [*]; done) | (simp [*]; done) | grind) | apply And.intro | ((first | refine intEq ?_ | refine boolEq ?_ | refine strEq ?_ | refine psEq ?_ | refine nilEq ?_ | refine arrEq ?_); (try simp only [Int.toNat_natCast, nd_eta, sh_eta, it_eta, sto_eta, op_eta, ch_eta, nw_eta, fl_eta, rq_eta, rs_eta, elDef]); first | done | omega | grind | (simp only [*]; done) | (simp [*]; done)))); (all_goals (conv => whnf)); (repeat' (first | exact trivial | rfl | (refine nilEq ?_; first | rfl | (simp only [*]; done) | (simp [*]; done) | grind) | apply And.intro | ((first | refine intEq ?_ | refine boolEq ?_ | refine strEq ?_ | refine psEq ?_ | refine nilEq ?_ | refine arrEq ?_); (try simp only [Int.toNat_natCast, nd_eta, sh_eta, it_eta, sto_eta, op_eta, ch_eta, nw_eta, fl_eta, rq_eta, rs_eta, elDef]); first | done | omega | grind | (simp only [*]; done) | (simp [*]; done)) | ((try simp only [Int.toNat_natCast, nd_eta, sh_eta, it_eta, sto_eta, op_eta, ch_eta, nw_eta, fl_eta, rq_eta, rs_eta, elDef]); first | done | omega | grind | (simp only [*]; done) | (simp [*]; done)))), (by exact sgOk_of (by rfl))⟩
  · exact hK _ _ _ _ _ _ hms (by omega)
theorem r83_84 : ∀ k, (CtrOK Try.prog 83 (.gen .ow (Ck83 k)) ∧ Callable Try.prog 83) ∧ (CtrOK Try.prog 84 (.gen .ow (Ck84 k)) ∧ Callable Try.prog 84) := by
  intro k
  induction k with
  | zero =>
    exact ⟨⟨fun args K h => by
        unfold Ck83 at h; split at h
        · exact absurd h.o (Nat.not_lt_zero _)
        · exact h.elim, callable Try.func83 rfl (by rfl)⟩, ⟨fun args K h => by
        unfold Ck84 at h; split at h
        · exact absurd h.o (Nat.not_lt_zero _)
        · exact h.elim, callable Try.func84 rfl (by rfl)⟩⟩
  | succ k ih =>
    refine ⟨?_, ?_⟩
    · refine gen_ok (E := E83 k) (mkE_cons s23 (mkE_cons s27 (mkE_cons ih.1 (mkE_cons ih.2 (mkE_cons s93 (mkE_nil tab_ok)))))) mix (O := O83) (C := (Ck83 (k + 1))) (own := .ow) Try.func83 rfl (by rfl) (by kernel_rfl) (fun args K h hbd => ?_)
      unfold Ck83 at h; split at h
      case h_2 => exact h.elim
      exact ⟨Nat.le_of_ble_eq_true rfl, a83 k _ _ _ h.o (by exact hbd) _ h.k⟩
    · refine gen_ok (E := E84 k) (mkE_cons s27 (mkE_cons ih.1 (mkE_cons s94 (mkE_cons s95 (mkE_cons s96 (mkE_nil tab_ok)))))) mix (O := O84) (C := (Ck84 (k + 1))) (own := .ow) Try.func84 rfl (by rfl) (by kernel_rfl) (fun args K h hbd => ?_)
      unfold Ck84 at h; split at h
      case h_2 => exact h.elim
      exact ⟨Nat.le_of_ble_eq_true rfl, a84 k _ _ _ h.o (by exact hbd) _ h.k⟩
theorem s83 : (CtrOK Try.prog 83 (.gen .ow C83) ∧ Callable Try.prog 83) := by
  refine ⟨fun args K h => ?_, (r83_84 0).1.2⟩
  unfold C83 at h; split at h
  · exact (r83_84 (m83 _ _ _ + 1)).1.1 _ K ⟨Nat.lt_succ_self _, h⟩
  · exact h.elim
theorem s84 : (CtrOK Try.prog 84 (.gen .ow C84) ∧ Callable Try.prog 84) := by
  refine ⟨fun args K h => ?_, (r83_84 0).2.2⟩
  unfold C84 at h; split at h
  · exact (r83_84 (m84 _ _ _ + 1)).2.1 _ K ⟨Nat.lt_succ_self _, h⟩
  · exact h.elim
noncomputable def c70 (code : List Int) (p : Int) (K : AV → List AV → Prop) : Prop :=
    Obl ((0 ≤ p ∧ p ≤ 10000000) ∧ byOk code) (∀ (n1 n2 : Int) (n3 : Bs) (n4 : List Bs) (n5 : List Nd) (p' : Int), smN ⟨n1, n2, n3, n4, n5⟩ ∧ n4.length ≤ 1000 → p ≤ p' ∧ p' ≤ p + 2000 → K (.st [.int .i64 n1, .int .i64 n2, .str n3, .own .str n4, .own .node n5]) [.ref [.ps .u8 code, .int .i64 p']])
noncomputable def C70 : List AV → (AV → List AV → Prop) → Prop
  | [.ref [.ps .u8 code, .int .i64 p]], K => c70 code p K
  | _, _ => False
noncomputable def E70 : Ctx := mkE tab [(23, .gen .ps C23), (62, .pure F62), (83, .gen .ow C83), (84, .gen .ow C84)]
noncomputable def O70 : Nat → List DI := ordL []
theorem a70 (code : List Int) (p : Int) (hb : BdAs [.ref [.ps .u8 code, .int .i64 p]]) (K : AV → List AV → Prop) (h : c70 code p K) : abody E70 O70 .ow Try.f70 (Try.f70.body.getD .skip) [.ref [.ps .u8 code, .int .i64 p]] K := by
  simp only [BdAs, BdA, BdL, BdC, MX, ndC, shC, itC, stC, opC, chC, nwC, flC, rqC, rsC, enc, List.cons_append, List.nil_append, and_true, true_and] at hb
  unfold c70 at h
  obtain ⟨⟨hp, ho⟩, hK⟩ := h
  have hc := (cost_facts 3).2.2
  have hv : ∀ {n1 n2 : Int} {n3 : Bs} {n4 : List Bs} {n5 : List Nd}, validM ⟨n1, n2, n3, n4, n5⟩ = true → smN ⟨n1, n2, n3, n4, n5⟩ ∧ n4.length ≤ 1000 := fun h => ⟨validM_sm h, by have := (okN_names (validM_ok h)).1; simp only at this; omega⟩
  conv => whnf
  repeat' first
    | (refine Cnd.mk (fun h => ?_) (fun h => ?_) <;> (try simp [nd_eta, sh_eta, it_eta, sto_eta, op_eta, ch_eta, nw_eta, fl_eta, rq_eta, rs_eta, elDef, -List.getD_eq_getElem?_getD] at h) <;> conv => whnf)
    | (refine Obl.mk (by first | omega | rfl | exact inK_byte _ | (simp only [inK, Int.toNat_natCast, nd_eta, sh_eta, it_eta, sto_eta, op_eta, ch_eta, nw_eta, fl_eta, rq_eta, rs_eta, elDef, m83, m84] <;> first | omega | grind) | grind [inK, m83, m84]) ?_ <;> conv => whnf)
    | (refine OblG.mk (by conv => whnf
                          repeat (first | (refine Bx.mk ?_) | (intro h; (try simp [nd_eta, sh_eta, it_eta, sto_eta, op_eta, ch_eta, nw_eta, fl_eta, rq_eta, rs_eta, elDef, -List.getD_eq_getElem?_getD] at h); conv => whnf))
                          first | omega | rfl | exact inK_byte _ | (simp only [inK, Int.toNat_natCast, nd_eta, sh_eta, it_eta, sto_eta, op_eta, ch_eta, nw_eta, fl_eta, rq_eta, rs_eta, elDef, m83, m84] <;> first | omega | grind) | grind [inK, m83, m84]) ?_ <;> conv => whnf)
    | (refine Gd.mk (fun h => ?_) <;> (try simp [nd_eta, sh_eta, it_eta, sto_eta, op_eta, ch_eta, nw_eta, fl_eta, rq_eta, rs_eta, elDef, -List.getD_eq_getElem?_getD] at h) <;> conv => whnf)
    | (refine And.intro ?_ ?_ <;> conv => whnf)
    | exact True.intro
    | (intro; conv => whnf)
  · exact hK _ _ _ _ _ _ ⟨smN_leaf (by simp), by simp⟩ (by omega)
  · exact hK _ _ _ _ _ _ (hv h) (by omega)
  · exact hK _ _ _ _ _ _ ⟨smN_leaf (by simp), by simp⟩ (by omega)
  · exact hK _ _ _ _ _ _ (hv h) (by omega)
theorem s70 : (CtrOK Try.prog 70 (.gen .ow C70) ∧ Callable Try.prog 70) := by
  refine gen_ok (E := E70) (mkE_cons s23 (mkE_cons s62 (mkE_cons s83 (mkE_cons s84 (mkE_nil tab_ok))))) mix (O := O70) (C := C70) (own := .ow) Try.func70 rfl (by rfl) (by kernel_rfl) (fun args K h hbd => ?_)
  unfold C70 at h; split at h
  case h_2 => exact h.elim
  exact ⟨Nat.le_of_ble_eq_true rfl, a70 _ _ (by exact hbd) _ h⟩
noncomputable def c69 (code : List Int) (p : Int) (s : Sto) (K : AV → List AV → Prop) : Prop :=
    Obl ((0 ≤ p ∧ p ≤ 10000000) ∧ byOk code) (∀ (b : Bs) (p' : Int), p ≤ p' ∧ p' ≤ p + 3 → K (.str b) [.ref [.ps .u8 code, .int .i64 p']])
noncomputable def C69 : List AV → (AV → List AV → Prop) → Prop
  | [.ref [.ps .u8 code, .int .i64 p], .st [.ps .item s_0, .int .i64 s_1]], K => c69 code p ⟨s_0, s_1⟩ K
  | _, _ => False
noncomputable def E69 : Ctx := mkE tab [(23, .gen .ps C23), (26, .gen .ps C26), (53, .gen .ps C53)]
noncomputable def O69 : Nat → List DI := ordL [(2, [.q 0, .q 1, .q 2, .q 3, .q 4, .q 5, .l 6 [1], .q 7, .q 8, .q 9, .q 10])]
theorem a69 (code : List Int) (p : Int) (s : Sto) (hb : BdAs [.ref [.ps .u8 code, .int .i64 p], .st (stC s)]) (K : AV → List AV → Prop) (h : c69 code p s K) : abody E69 O69 .ps Try.f69 (Try.f69.body.getD .skip) [.ref [.ps .u8 code, .int .i64 p], .st (stC s)] K := by
  simp only [BdAs, BdA, BdL, BdC, MX, ndC, shC, itC, stC, opC, chC, nwC, flC, rqC, rsC, enc, List.cons_append, List.nil_append, and_true, true_and] at hb
  unfold c69 at h
  obtain ⟨⟨hp, ho⟩, hK⟩ := h
  conv => whnf
  repeat' first
    | (refine Cnd.mk (fun h => ?_) (fun h => ?_) <;> (try simp [nd_eta, sh_eta, it_eta, sto_eta, op_eta, ch_eta, nw_eta, fl_eta, rq_eta, rs_eta, elDef, -List.getD_eq_getElem?_getD] at h) <;> conv => whnf)
    | (refine Obl.mk (by first | omega | rfl | exact inK_byte _ | (simp only [inK, Int.toNat_natCast, nd_eta, sh_eta, it_eta, sto_eta, op_eta, ch_eta, nw_eta, fl_eta, rq_eta, rs_eta, elDef] <;> first | omega | grind) | grind [inK]) ?_ <;> conv => whnf)
    | (refine OblG.mk (by conv => whnf
                          repeat (first | (refine Bx.mk ?_) | (intro h; (try simp [nd_eta, sh_eta, it_eta, sto_eta, op_eta, ch_eta, nw_eta, fl_eta, rq_eta, rs_eta, elDef, -List.getD_eq_getElem?_getD] at h); conv => whnf))
                          first | omega | rfl | exact inK_byte _ | (simp only [inK, Int.toNat_natCast, nd_eta, sh_eta, it_eta, sto_eta, op_eta, ch_eta, nw_eta, fl_eta, rq_eta, rs_eta, elDef] <;> first | omega | grind) | grind [inK]) ?_ <;> conv => whnf)
    | (refine Gd.mk (fun h => ?_) <;> (try simp [nd_eta, sh_eta, it_eta, sto_eta, op_eta, ch_eta, nw_eta, fl_eta, rq_eta, rs_eta, elDef, -List.getD_eq_getElem?_getD] at h) <;> conv => whnf)
    | (refine And.intro ?_ ?_ <;> conv => whnf)
    | exact True.intro
    | (intro; conv => whnf)
  all_goals exact hK _ _ (by omega)
theorem s69 : (CtrOK Try.prog 69 (.gen .ps C69) ∧ Callable Try.prog 69) := by
  refine gen_ok (E := E69) (mkE_cons s23 (mkE_cons s26 (mkE_cons s53 (mkE_nil tab_ok)))) mix (O := O69) (C := C69) (own := .ps) Try.func69 rfl (by rfl) (by kernel_rfl) (fun args K h hbd => ?_)
  unfold C69 at h; split at h
  case h_2 => exact h.elim
  exact ⟨Nat.le_of_ble_eq_true rfl, a69 _ _ ⟨_, _⟩ (by exact hbd) _ h⟩
noncomputable def c54 (code : List Int) (p : Int) (K : AV → List AV → Prop) : Prop :=
    Obl ((0 ≤ p ∧ p ≤ 10000000) ∧ byOk code) (∀ (n : Nd) (p' : Int), smN n → p ≤ p' ∧ p' ≤ p + 2100 → K (.st (ndC n)) [.ref [.ps .u8 code, .int .i64 p']])
noncomputable def C54 : List AV → (AV → List AV → Prop) → Prop
  | [.ref [.ps .u8 code, .int .i64 p]], K => c54 code p K
  | _, _ => False
noncomputable def E54 : Ctx := mkE tab [(23, .gen .ps C23), (27, .gen .ps C27), (47, .gen .ps C47), (70, .gen .ow C70)]
noncomputable def O54 : Nat → List DI := ordL []
theorem a54 (code : List Int) (p : Int) (hb : BdAs [.ref [.ps .u8 code, .int .i64 p]]) (K : AV → List AV → Prop) (h : c54 code p K) : abody E54 O54 .ps Try.f54 (Try.f54.body.getD .skip) [.ref [.ps .u8 code, .int .i64 p]] K := by
  simp only [BdAs, BdA, BdL, BdC, MX, ndC, shC, itC, stC, opC, chC, nwC, flC, rqC, rsC, enc, List.cons_append, List.nil_append, and_true, true_and] at hb
  unfold c54 at h
  obtain ⟨⟨hp, ho⟩, hK⟩ := h
  conv => whnf
  repeat' first
    | (refine Cnd.mk (fun h => ?_) (fun h => ?_) <;> (try simp [nd_eta, sh_eta, it_eta, sto_eta, op_eta, ch_eta, nw_eta, fl_eta, rq_eta, rs_eta, elDef, -List.getD_eq_getElem?_getD] at h) <;> conv => whnf)
    | (refine Obl.mk (by first | omega | rfl | exact inK_byte _ | (simp only [inK, Int.toNat_natCast, nd_eta, sh_eta, it_eta, sto_eta, op_eta, ch_eta, nw_eta, fl_eta, rq_eta, rs_eta, elDef, m47] <;> first | omega | grind) | grind [inK, m47]) ?_ <;> conv => whnf)
    | (refine OblG.mk (by conv => whnf
                          repeat (first | (refine Bx.mk ?_) | (intro h; (try simp [nd_eta, sh_eta, it_eta, sto_eta, op_eta, ch_eta, nw_eta, fl_eta, rq_eta, rs_eta, elDef, -List.getD_eq_getElem?_getD] at h); conv => whnf))
                          first | omega | rfl | exact inK_byte _ | (simp only [inK, Int.toNat_natCast, nd_eta, sh_eta, it_eta, sto_eta, op_eta, ch_eta, nw_eta, fl_eta, rq_eta, rs_eta, elDef, m47] <;> first | omega | grind) | grind [inK, m47]) ?_ <;> conv => whnf)
    | (refine Gd.mk (fun h => ?_) <;> (try simp [nd_eta, sh_eta, it_eta, sto_eta, op_eta, ch_eta, nw_eta, fl_eta, rq_eta, rs_eta, elDef, -List.getD_eq_getElem?_getD] at h) <;> conv => whnf)
    | (refine And.intro ?_ ?_ <;> conv => whnf)
    | exact True.intro
    | (intro; conv => whnf)
  · rename_i hs hq r1 h1 r2 h2
    exact hK ⟨_, _, _, _, _⟩ _ (smN_ch hs.1 hs.1.text hs.1.names) (by omega)
  · rename_i hs hq r1 h1 _ r2 h2
    exact hK ⟨_, _, _, _, _⟩ _ (smN_ch hs.1 hs.1.text hs.1.names) (by omega)
  · rename_i hs hq r1 h1 _ _
    exact hK ⟨_, _, _, _, _⟩ _ (smN_ch hs.1 (by simp) hs.1.names) (by omega)
  · rename_i hs hq r1 h1 _ _ _
    exact hK ⟨_, _, _, _, _⟩ _ (smN_ch hs.1 hs.1.text (by simp; omega)) (by omega)
  · rename_i hs hq r1 h1 _ _ _ _
    exact hK ⟨_, _, _, _, _⟩ _ (smN_one (smN_one (smN_one (smN_one hs.1)))) (by omega)
  · rename_i n1 n2 n3 n4 n5 p' hs hq r1 h1 _ _ _ _ _
    have hb0 := hs.1
    refine aloop_intro (Int × Int × List Nd) (fun ⟨c, q, l⟩ => (0 ≤ c ∧ c ≤ 7 ∧ l.length = c) ∧ (∀ x ∈ l, smN x) ∧ p' + 1 ≤ q ∧ q ≤ p' + 1 + c) (fun ⟨c, q, l⟩ => (7 - c).toNat) (fun ⟨c, q, l⟩ => [(5, .int .i64 c), (4, .ls 900)]) (fun ⟨c, q, l⟩ => [(900, .arr .node l), (3, .box (ndC ⟨n1, n2, n3, n4, n5⟩)), (1000000, .box [.ps .u8 code, .int .i64 q])]) [2] (0, p' + 1, []) [(900, 45)] [8000, 8001] ?_ ?_ (by exact sgOk_of (by rfl)) ?_
    · first | (simp; done) | (simp; assumption) | (simp only; grind)
    · (conv => whnf); (repeat' (first | exact trivial | rfl | (refine nilEq ?_; first | rfl | (simp only [*]; done) | (simp [*]; done) | grind) | apply And.intro | ((first | refine intEq ?_ | refine boolEq ?_ | refine strEq ?_ | refine psEq ?_ | refine nilEq ?_ | refine arrEq ?_); (try simp only [Int.toNat_natCast, nd_eta, sh_eta, it_eta, sto_eta, op_eta, ch_eta, nw_eta, fl_eta, rq_eta, rs_eta, elDef]); first | done | omega | grind | (simp only [*]; done) | (simp [*]; done)))); (all_goals (conv => whnf)); (repeat' (first | exact trivial | rfl | (refine nilEq ?_; first | rfl | (simp only [*]; done) | (simp [*]; done) | grind) | apply And.intro | ((first | refine intEq ?_ | refine boolEq ?_ | refine strEq ?_ | refine psEq ?_ | refine nilEq ?_ | refine arrEq ?_); (try simp only [Int.toNat_natCast, nd_eta, sh_eta, it_eta, sto_eta, op_eta, ch_eta, nw_eta, fl_eta, rq_eta, rs_eta, elDef]); first | done | omega | grind | (simp only [*]; done) | (simp [*]; done)) | ((try simp only [Int.toNat_natCast, nd_eta, sh_eta, it_eta, sto_eta, op_eta, ch_eta, nw_eta, fl_eta, rq_eta, rs_eta, elDef]); first | done | omega | grind | (simp only [*]; done) | (simp [*]; done))))
    rintro ⟨c, q, l⟩ hinv
    dsimp only at hinv
    conv => whnf
    obtain ⟨hi1, hi2, hi3⟩ := hinv
    repeat' first
      | (refine Cnd.mk (fun h => ?_) (fun h => ?_) <;> (try simp [nd_eta, sh_eta, it_eta, sto_eta, op_eta, ch_eta, nw_eta, fl_eta, rq_eta, rs_eta, elDef, -List.getD_eq_getElem?_getD] at h) <;> conv => whnf)
      | (refine Obl.mk (by first | omega | rfl | exact inK_byte _ | (simp only [inK, Int.toNat_natCast, nd_eta, sh_eta, it_eta, sto_eta, op_eta, ch_eta, nw_eta, fl_eta, rq_eta, rs_eta, elDef, m47] <;> first | omega | grind) | grind [inK, m47]) ?_ <;> conv => whnf)
      | (refine OblG.mk (by conv => whnf
                            repeat (first | (refine Bx.mk ?_) | (intro h; (try simp [nd_eta, sh_eta, it_eta, sto_eta, op_eta, ch_eta, nw_eta, fl_eta, rq_eta, rs_eta, elDef, -List.getD_eq_getElem?_getD] at h); conv => whnf))
                            first | omega | rfl | exact inK_byte _ | (simp only [inK, Int.toNat_natCast, nd_eta, sh_eta, it_eta, sto_eta, op_eta, ch_eta, nw_eta, fl_eta, rq_eta, rs_eta, elDef, m47] <;> first | omega | grind) | grind [inK, m47]) ?_ <;> conv => whnf)
      | (refine Gd.mk (fun h => ?_) <;> (try simp [nd_eta, sh_eta, it_eta, sto_eta, op_eta, ch_eta, nw_eta, fl_eta, rq_eta, rs_eta, elDef, -List.getD_eq_getElem?_getD] at h) <;> conv => whnf)
      | (refine And.intro ?_ ?_ <;> conv => whnf)
      | exact True.intro
      | (intro; conv => whnf)
    · exact ⟨(c + 1, q + 1, l ++ [⟨n1, n2, n3, n4, n5⟩]), [(900, 57)], [], ⟨by simp; omega, smN_snoc hi2 hs.1, by omega⟩, by simp only; omega, by (conv => whnf); (repeat' (first | exact trivial | rfl | (refine nilEq ?_; first | rfl | (simp only [*]; done) | (simp [*]; done) | grind) | apply And.intro | ((first | refine intEq ?_ | refine boolEq ?_ | refine strEq ?_ | refine psEq ?_ | refine nilEq ?_ | refine arrEq ?_); (try simp only [Int.toNat_natCast, nd_eta, sh_eta, it_eta, sto_eta, op_eta, ch_eta, nw_eta, fl_eta, rq_eta, rs_eta, elDef]); first | done | omega | grind | (simp only [*]; done) | (simp [*]; done)))); (all_goals (conv => whnf)); (repeat' (first | exact trivial | rfl | (refine nilEq ?_; first | rfl | (simp only [*]; done) | (simp [*]; done) | grind) | apply And.intro | ((first | refine intEq ?_ | refine boolEq ?_ | refine strEq ?_ | refine psEq ?_ | refine nilEq ?_ | refine arrEq ?_); (try simp only [Int.toNat_natCast, nd_eta, sh_eta, it_eta, sto_eta, op_eta, ch_eta, nw_eta, fl_eta, rq_eta, rs_eta, elDef]); first | done | omega | grind | (simp only [*]; done) | (simp [*]; done)) | ((try simp only [Int.toNat_natCast, nd_eta, sh_eta, it_eta, sto_eta, op_eta, ch_eta, nw_eta, fl_eta, rq_eta, rs_eta, elDef]); first | done | omega | grind | (simp only [*]; done) | (simp [*]; done)))), (by exact sgOk_of (by rfl))⟩
    · exact hK ⟨_, _, _, _, _⟩ _ (smN_mk (by simp) (by simp) (by omega) hi2) (by omega)
  · rename_i hs hq r1 h1 _ _ _ _ _
    exact hK ⟨_, _, _, _, _⟩ _ hs.1 (by omega)
theorem s54 : (CtrOK Try.prog 54 (.gen .ps C54) ∧ Callable Try.prog 54) := by
  refine gen_ok (E := E54) (mkE_cons s23 (mkE_cons s27 (mkE_cons s47 (mkE_cons s70 (mkE_nil tab_ok))))) mix (O := O54) (C := C54) (own := .ps) Try.func54 rfl (by rfl) (by kernel_rfl) (fun args K h hbd => ?_)
  unfold C54 at h; split at h
  case h_2 => exact h.elim
  exact ⟨Nat.le_of_ble_eq_true rfl, a54 _ _ (by exact hbd) _ h⟩
noncomputable def c49 (code : List Int) (p : Int) (s : Sto) (K : AV → List AV → Prop) : Prop :=
    Obl ((0 ≤ p ∧ p ≤ 9000000) ∧ byOk code) (∀ (c : Chg) (p' : Int), p ≤ p' ∧ p' ≤ p + 5000 → K (.st (chC c)) [.ref [.ps .u8 code, .int .i64 p']])
noncomputable def C49 : List AV → (AV → List AV → Prop) → Prop
  | [.ref [.ps .u8 code, .int .i64 p], .st [.ps .item s_0, .int .i64 s_1]], K => c49 code p ⟨s_0, s_1⟩ K
  | _, _ => False
noncomputable def E49 : Ctx := mkE tab [(23, .gen .ps C23), (54, .gen .ps C54), (69, .gen .ps C69), (70, .gen .ow C70)]
noncomputable def O49 : Nat → List DI := ordL []
theorem a49 (code : List Int) (p : Int) (s : Sto) (hb : BdAs [.ref [.ps .u8 code, .int .i64 p], .st (stC s)]) (K : AV → List AV → Prop) (h : c49 code p s K) : abody E49 O49 .ps Try.f49 (Try.f49.body.getD .skip) [.ref [.ps .u8 code, .int .i64 p], .st (stC s)] K := by
  simp only [BdAs, BdA, BdL, BdC, MX, ndC, shC, itC, stC, opC, chC, nwC, flC, rqC, rsC, enc, List.cons_append, List.nil_append, and_true, true_and] at hb
  unfold c49 at h
  obtain ⟨⟨hp, ho⟩, hK⟩ := h
  conv => whnf
  repeat' first
    | (refine Cnd.mk (fun h => ?_) (fun h => ?_) <;> (try simp [nd_eta, sh_eta, it_eta, sto_eta, op_eta, ch_eta, nw_eta, fl_eta, rq_eta, rs_eta, elDef, -List.getD_eq_getElem?_getD] at h) <;> conv => whnf)
    | (refine Obl.mk (by first | omega | rfl | exact inK_byte _ | (simp only [inK, Int.toNat_natCast, nd_eta, sh_eta, it_eta, sto_eta, op_eta, ch_eta, nw_eta, fl_eta, rq_eta, rs_eta, elDef] <;> first | omega | grind) | grind [inK]) ?_ <;> conv => whnf)
    | (refine OblG.mk (by conv => whnf
                          repeat (first | (refine Bx.mk ?_) | (intro h; (try simp [nd_eta, sh_eta, it_eta, sto_eta, op_eta, ch_eta, nw_eta, fl_eta, rq_eta, rs_eta, elDef, -List.getD_eq_getElem?_getD] at h); conv => whnf))
                          first | omega | rfl | exact inK_byte _ | (simp only [inK, Int.toNat_natCast, nd_eta, sh_eta, it_eta, sto_eta, op_eta, ch_eta, nw_eta, fl_eta, rq_eta, rs_eta, elDef] <;> first | omega | grind) | grind [inK]) ?_ <;> conv => whnf)
    | (refine Gd.mk (fun h => ?_) <;> (try simp [nd_eta, sh_eta, it_eta, sto_eta, op_eta, ch_eta, nw_eta, fl_eta, rq_eta, rs_eta, elDef, -List.getD_eq_getElem?_getD] at h) <;> conv => whnf)
    | (refine And.intro ?_ ?_ <;> conv => whnf)
    | exact True.intro
    | (intro; conv => whnf)
  all_goals exact hK ⟨_, _, ⟨_, _, _, _, _⟩⟩ _ (by omega)
theorem s49 : (CtrOK Try.prog 49 (.gen .ps C49) ∧ Callable Try.prog 49) := by
  refine gen_ok (E := E49) (mkE_cons s23 (mkE_cons s54 (mkE_cons s69 (mkE_cons s70 (mkE_nil tab_ok))))) mix (O := O49) (C := C49) (own := .ps) Try.func49 rfl (by rfl) (by kernel_rfl) (fun args K h hbd => ?_)
  unfold C49 at h; split at h
  case h_2 => exact h.elim
  exact ⟨Nat.le_of_ble_eq_true rfl, a49 _ _ ⟨_, _⟩ (by exact hbd) _ h⟩
noncomputable def c22 (code : List Int) (p : Int) (K : AV → List AV → Prop) : Prop :=
    Obl ((0 ≤ p ∧ p ≤ 1000000) ∧ byOk code) (∀ (l : List Chg) (p' : Int), l.length ≤ 20 → p ≤ p' ∧ p' ≤ p + 130000 → K (.ps .chg l) [.ref [.ps .u8 code, .int .i64 p']])
noncomputable def C22 : List AV → (AV → List AV → Prop) → Prop
  | [.ref [.ps .u8 code, .int .i64 p]], K => c22 code p K
  | _, _ => False
noncomputable def E22 : Ctx := mkE tab [(23, .gen .ps C23), (27, .gen .ps C27), (49, .gen .ps C49), (50, .gen .ps C50)]
noncomputable def O22 : Nat → List DI := ordL []
theorem a22 (code : List Int) (p : Int) (hb : BdAs [.ref [.ps .u8 code, .int .i64 p]]) (K : AV → List AV → Prop) (h : c22 code p K) : abody E22 O22 .ps Try.f22 (Try.f22.body.getD .skip) [.ref [.ps .u8 code, .int .i64 p]] K := by
  simp only [BdAs, BdA, BdL, BdC, MX, ndC, shC, itC, stC, opC, chC, nwC, flC, rqC, rsC, enc, List.cons_append, List.nil_append, and_true, true_and] at hb
  unfold c22 at h
  obtain ⟨⟨hp, ho⟩, hK⟩ := h
  conv => whnf
  repeat' first
    | (refine Cnd.mk (fun h => ?_) (fun h => ?_) <;> (try simp [nd_eta, sh_eta, it_eta, sto_eta, op_eta, ch_eta, nw_eta, fl_eta, rq_eta, rs_eta, elDef, -List.getD_eq_getElem?_getD] at h) <;> conv => whnf)
    | (refine Obl.mk (by first | omega | rfl | exact inK_byte _ | (simp only [inK, Int.toNat_natCast, nd_eta, sh_eta, it_eta, sto_eta, op_eta, ch_eta, nw_eta, fl_eta, rq_eta, rs_eta, elDef] <;> first | omega | grind) | grind [inK]) ?_ <;> conv => whnf)
    | (refine OblG.mk (by conv => whnf
                          repeat (first | (refine Bx.mk ?_) | (intro h; (try simp [nd_eta, sh_eta, it_eta, sto_eta, op_eta, ch_eta, nw_eta, fl_eta, rq_eta, rs_eta, elDef, -List.getD_eq_getElem?_getD] at h); conv => whnf))
                          first | omega | rfl | exact inK_byte _ | (simp only [inK, Int.toNat_natCast, nd_eta, sh_eta, it_eta, sto_eta, op_eta, ch_eta, nw_eta, fl_eta, rq_eta, rs_eta, elDef] <;> first | omega | grind) | grind [inK]) ?_ <;> conv => whnf)
    | (refine Gd.mk (fun h => ?_) <;> (try simp [nd_eta, sh_eta, it_eta, sto_eta, op_eta, ch_eta, nw_eta, fl_eta, rq_eta, rs_eta, elDef, -List.getD_eq_getElem?_getD] at h) <;> conv => whnf)
    | (refine And.intro ?_ ?_ <;> conv => whnf)
    | exact True.intro
    | (intro; conv => whnf)
  rename_i r hr
  have hr0 : 0 ≤ r ∧ r ≤ 20 := by simp at hr; omega
  refine aloop_intro (Int × Int × List Chg × Sto) (fun ⟨c, q, l, s⟩ => (0 ≤ c ∧ l.length + c ≤ 20) ∧ p ≤ q ∧ q + c * 6000 ≤ p + 1 + 20 * 6000) (fun ⟨c, q, l, s⟩ => c.toNat) (fun ⟨c, q, l, s⟩ => [(5, .int .i64 c), (3, .ls 900)]) (fun ⟨c, q, l, s⟩ => [(900, .arr .chg l), (4, .box (stC s)), (1000000, .box [.ps .u8 code, .int .i64 q])]) [] (r, p + 1, [], ⟨[], 0⟩) [(900, 9)] [10] ?_ ?_ (by exact sgOk_of (by rfl)) ?_
  · first | (simp; done) | (simp; assumption) | (simp only; grind)
  · (conv => whnf); (repeat' (first | exact trivial | rfl | (refine nilEq ?_; first | rfl | (simp only [*]; done) | (simp [*]; done) | grind) | apply And.intro | ((first | refine intEq ?_ | refine boolEq ?_ | refine strEq ?_ | refine psEq ?_ | refine nilEq ?_ | refine arrEq ?_); (try simp only [Int.toNat_natCast, nd_eta, sh_eta, it_eta, sto_eta, op_eta, ch_eta, nw_eta, fl_eta, rq_eta, rs_eta, elDef]); first | done | omega | grind | (simp only [*]; done) | (simp [*]; done)))); (all_goals (conv => whnf)); (repeat' (first | exact trivial | rfl | (refine nilEq ?_; first | rfl | (simp only [*]; done) | (simp [*]; done) | grind) | apply And.intro | ((first | refine intEq ?_ | refine boolEq ?_ | refine strEq ?_ | refine psEq ?_ | refine nilEq ?_ | refine arrEq ?_); (try simp only [Int.toNat_natCast, nd_eta, sh_eta, it_eta, sto_eta, op_eta, ch_eta, nw_eta, fl_eta, rq_eta, rs_eta, elDef]); first | done | omega | grind | (simp only [*]; done) | (simp [*]; done)) | ((try simp only [Int.toNat_natCast, nd_eta, sh_eta, it_eta, sto_eta, op_eta, ch_eta, nw_eta, fl_eta, rq_eta, rs_eta, elDef]); first | done | omega | grind | (simp only [*]; done) | (simp [*]; done))))
  rintro ⟨c, q, l, s⟩ hinv
  dsimp only at hinv
  conv => whnf
  obtain ⟨hi1, hi2, hi3⟩ := hinv
  repeat' first
    | (refine Cnd.mk (fun h => ?_) (fun h => ?_) <;> (try simp [nd_eta, sh_eta, it_eta, sto_eta, op_eta, ch_eta, nw_eta, fl_eta, rq_eta, rs_eta, elDef, -List.getD_eq_getElem?_getD] at h) <;> conv => whnf)
    | (refine Obl.mk (by first | omega | rfl | exact inK_byte _ | (simp only [inK, Int.toNat_natCast, nd_eta, sh_eta, it_eta, sto_eta, op_eta, ch_eta, nw_eta, fl_eta, rq_eta, rs_eta, elDef] <;> first | omega | grind) | grind [inK]) ?_ <;> conv => whnf)
    | (refine OblG.mk (by conv => whnf
                          repeat (first | (refine Bx.mk ?_) | (intro h; (try simp [nd_eta, sh_eta, it_eta, sto_eta, op_eta, ch_eta, nw_eta, fl_eta, rq_eta, rs_eta, elDef, -List.getD_eq_getElem?_getD] at h); conv => whnf))
                          first | omega | rfl | exact inK_byte _ | (simp only [inK, Int.toNat_natCast, nd_eta, sh_eta, it_eta, sto_eta, op_eta, ch_eta, nw_eta, fl_eta, rq_eta, rs_eta, elDef] <;> first | omega | grind) | grind [inK]) ?_ <;> conv => whnf)
    | (refine Gd.mk (fun h => ?_) <;> (try simp [nd_eta, sh_eta, it_eta, sto_eta, op_eta, ch_eta, nw_eta, fl_eta, rq_eta, rs_eta, elDef, -List.getD_eq_getElem?_getD] at h) <;> conv => whnf)
    | (refine And.intro ?_ ?_ <;> conv => whnf)
    | exact True.intro
    | (intro; conv => whnf)
  · rename_i x q' hq
    exact ⟨(c - 1, q', l ++ [x], (applyCM s x).getD ⟨[], 0⟩), [(900, 33)], [], ⟨by simp; omega, by omega, by omega⟩, by simp only; omega, by (conv => whnf); (repeat' (first | exact trivial | rfl | (refine nilEq ?_; first | rfl | (simp only [*]; done) | (simp [*]; done) | grind) | apply And.intro | ((first | refine intEq ?_ | refine boolEq ?_ | refine strEq ?_ | refine psEq ?_ | refine nilEq ?_ | refine arrEq ?_); (try simp only [Int.toNat_natCast, nd_eta, sh_eta, it_eta, sto_eta, op_eta, ch_eta, nw_eta, fl_eta, rq_eta, rs_eta, elDef]); first | done | omega | grind | (simp only [*]; done) | (simp [*]; done)))); (all_goals (conv => whnf)); (repeat' (first | exact trivial | rfl | (refine nilEq ?_; first | rfl | (simp only [*]; done) | (simp [*]; done) | grind) | apply And.intro | ((first | refine intEq ?_ | refine boolEq ?_ | refine strEq ?_ | refine psEq ?_ | refine nilEq ?_ | refine arrEq ?_); (try simp only [Int.toNat_natCast, nd_eta, sh_eta, it_eta, sto_eta, op_eta, ch_eta, nw_eta, fl_eta, rq_eta, rs_eta, elDef]); first | done | omega | grind | (simp only [*]; done) | (simp [*]; done)) | ((try simp only [Int.toNat_natCast, nd_eta, sh_eta, it_eta, sto_eta, op_eta, ch_eta, nw_eta, fl_eta, rq_eta, rs_eta, elDef]); first | done | omega | grind | (simp only [*]; done) | (simp [*]; done)))), (by exact sgOk_of (by rfl))⟩
  · rename_i x q' hq _ r1 h1
    exact ⟨(c - 1, q' + 1, l ++ [x], s), [(900, 40)], [], ⟨by simp; omega, by omega, by omega⟩, by simp only; omega, by (conv => whnf); (repeat' (first | exact trivial | rfl | (refine nilEq ?_; first | rfl | (simp only [*]; done) | (simp [*]; done) | grind) | apply And.intro | ((first | refine intEq ?_ | refine boolEq ?_ | refine strEq ?_ | refine psEq ?_ | refine nilEq ?_ | refine arrEq ?_); (try simp only [Int.toNat_natCast, nd_eta, sh_eta, it_eta, sto_eta, op_eta, ch_eta, nw_eta, fl_eta, rq_eta, rs_eta, elDef]); first | done | omega | grind | (simp only [*]; done) | (simp [*]; done)))); (all_goals (conv => whnf)); (repeat' (first | exact trivial | rfl | (refine nilEq ?_; first | rfl | (simp only [*]; done) | (simp [*]; done) | grind) | apply And.intro | ((first | refine intEq ?_ | refine boolEq ?_ | refine strEq ?_ | refine psEq ?_ | refine nilEq ?_ | refine arrEq ?_); (try simp only [Int.toNat_natCast, nd_eta, sh_eta, it_eta, sto_eta, op_eta, ch_eta, nw_eta, fl_eta, rq_eta, rs_eta, elDef]); first | done | omega | grind | (simp only [*]; done) | (simp [*]; done)) | ((try simp only [Int.toNat_natCast, nd_eta, sh_eta, it_eta, sto_eta, op_eta, ch_eta, nw_eta, fl_eta, rq_eta, rs_eta, elDef]); first | done | omega | grind | (simp only [*]; done) | (simp [*]; done)))), (by exact sgOk_of (by rfl))⟩
  · rename_i x q' hq _ r1 h1
    exact ⟨(c - 1, q' + 1, l, s), [], [], ⟨by omega, by omega, by omega⟩, by simp only; omega, by (conv => whnf); (repeat' (first | exact trivial | rfl | (refine nilEq ?_; first | rfl | (simp only [*]; done) | (simp [*]; done) | grind) | apply And.intro | ((first | refine intEq ?_ | refine boolEq ?_ | refine strEq ?_ | refine psEq ?_ | refine nilEq ?_ | refine arrEq ?_); (try simp only [Int.toNat_natCast, nd_eta, sh_eta, it_eta, sto_eta, op_eta, ch_eta, nw_eta, fl_eta, rq_eta, rs_eta, elDef]); first | done | omega | grind | (simp only [*]; done) | (simp [*]; done)))); (all_goals (conv => whnf)); (repeat' (first | exact trivial | rfl | (refine nilEq ?_; first | rfl | (simp only [*]; done) | (simp [*]; done) | grind) | apply And.intro | ((first | refine intEq ?_ | refine boolEq ?_ | refine strEq ?_ | refine psEq ?_ | refine nilEq ?_ | refine arrEq ?_); (try simp only [Int.toNat_natCast, nd_eta, sh_eta, it_eta, sto_eta, op_eta, ch_eta, nw_eta, fl_eta, rq_eta, rs_eta, elDef]); first | done | omega | grind | (simp only [*]; done) | (simp [*]; done)) | ((try simp only [Int.toNat_natCast, nd_eta, sh_eta, it_eta, sto_eta, op_eta, ch_eta, nw_eta, fl_eta, rq_eta, rs_eta, elDef]); first | done | omega | grind | (simp only [*]; done) | (simp [*]; done)))), (by exact sgOk_of (by rfl))⟩
  · exact hK _ _ (by omega) (by omega)
theorem s22 : (CtrOK Try.prog 22 (.gen .ps C22) ∧ Callable Try.prog 22) := by
  refine gen_ok (E := E22) (mkE_cons s23 (mkE_cons s27 (mkE_cons s49 (mkE_cons s50 (mkE_nil tab_ok))))) mix (O := O22) (C := C22) (own := .ps) Try.func22 rfl (by rfl) (by kernel_rfl) (fun args K h hbd => ?_)
  unfold C22 at h; split at h
  case h_2 => exact h.elim
  exact ⟨Nat.le_of_ble_eq_true rfl, a22 _ _ (by exact hbd) _ h⟩
end Go.Rs

