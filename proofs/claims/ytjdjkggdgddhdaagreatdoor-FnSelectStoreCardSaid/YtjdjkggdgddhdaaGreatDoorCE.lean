import Derived.Test.YtjdjkggdgddhdaaGreatDoorCD
import Derived.Test.YtjdjkggdgddhdaaGreatDoorMB
set_option linter.all false
namespace Go.Rs
open Go.Proofs
set_option maxRecDepth 100000
set_option linter.unusedVariables false
set_option linter.unusedSimpArgs false
noncomputable def c75 (s : Sto) (b : Bs) (n : Nd) (K : AV → List AV → Prop) : Prop :=
    Obl ((smS s ∧ smN n) ∧ 0 ≤ s.clock ∧ s.clock ≤ 10000) (K (.st (stO (putS s b n))) [])
noncomputable def c75b (l : List It) (c : Int) (b : Bs) (n1 : Int) (n2 : Int) (n3 : Bs) (n4 : List Bs) (n5 : List Nd) (K : AV → List AV → Prop) : Prop :=
    Obl ((smS ⟨l, c⟩ ∧ smN ⟨n1, n2, n3, n4, n5⟩) ∧ 0 ≤ c ∧ c ≤ 10000) (K (.st (stO (putS ⟨l, c⟩ b ⟨n1, n2, n3, n4, n5⟩))) [.own .item l, .ps .str n4, .ps .node n5])
noncomputable def C75 : List AV → (AV → List AV → Prop) → Prop
  | [.st [.ps .item s_0, .int .i64 s_1], .str b, .st [.int .i64 n_0, .int .i64 n_1, .str n_2, .ps .str n_3, .ps .node n_4]], K => c75 ⟨s_0, s_1⟩ b ⟨n_0, n_1, n_2, n_3, n_4⟩ K
  | [.tup [.st [.own .item l, .int .i64 c]], .str b, .tup [.st [.int .i64 n1, .int .i64 n2, .str n3, .own .str n4, .own .node n5]]], K => c75b l c b n1 n2 n3 n4 n5 K
  | _, _ => False
noncomputable def E75 : Ctx := mkE tab [(19, .gen .ln C19), (35, .gen .ps C35)]
noncomputable def O75 : Nat → List DI := ordL [(2, [.q 0, .q 1, .q 2, .q 3, .q 4, .l 5 [2], .q 6, .a 7, .l 8 []])]
theorem a75 (s : Sto) (b : Bs) (n : Nd) (hb : BdAs [.st (stC s), .str b, .st (ndC n)]) (K : AV → List AV → Prop) (h : c75 s b n K) : abody E75 O75 .ow Tryz.f75 (Tryz.f75.body.getD .skip) [.st (stC s), .str b, .st (ndC n)] K := by
  simp only [BdAs, BdA, BdL, BdC, MX, ndC, shC, itC, stC, opC, chC, nwC, flC, rqC, rsC, enc, List.cons_append, List.nil_append, and_true, true_and] at hb
  unfold c75 at h
  obtain ⟨⟨⟨hs, hn⟩, hc⟩, hK⟩ := h
  have h3 := hs.1
  conv => whnf
  repeat' first
    | (refine Cnd.mk (fun h => ?_) (fun h => ?_) <;> (try simp [nd_eta, sh_eta, it_eta, sto_eta, op_eta, ch_eta, nw_eta, fl_eta, rq_eta, rs_eta, elDef, -List.getD_eq_getElem?_getD] at h) <;> conv => whnf)
    | (refine Obl.mk (by first | omega | rfl | exact inK_byte _ | (simp only [inK, Int.toNat_natCast, nd_eta, sh_eta, it_eta, sto_eta, op_eta, ch_eta, nw_eta, fl_eta, rq_eta, rs_eta, elDef, m35] <;> first | omega | grind) | grind [inK, m35]) ?_ <;> conv => whnf)
    | (refine OblG.mk (by conv => whnf
                          repeat (first | (refine Bx.mk ?_) | (intro h; (try simp [nd_eta, sh_eta, it_eta, sto_eta, op_eta, ch_eta, nw_eta, fl_eta, rq_eta, rs_eta, elDef, -List.getD_eq_getElem?_getD] at h); conv => whnf))
                          first | omega | rfl | exact inK_byte _ | (simp only [inK, Int.toNat_natCast, nd_eta, sh_eta, it_eta, sto_eta, op_eta, ch_eta, nw_eta, fl_eta, rq_eta, rs_eta, elDef, m35] <;> first | omega | grind) | grind [inK, m35]) ?_ <;> conv => whnf)
    | (refine Gd.mk (fun h => ?_) <;> (try simp [nd_eta, sh_eta, it_eta, sto_eta, op_eta, ch_eta, nw_eta, fl_eta, rq_eta, rs_eta, elDef, -List.getD_eq_getElem?_getD] at h) <;> conv => whnf)
    | (refine And.intro ?_ ?_ <;> conv => whnf)
    | exact True.intro
    | (intro; conv => whnf)
  refine aloop_intro Nat (fun k => k ≤ s.items.length ∧ True) (fun k => s.items.length - k) (fun k => [(11, .int .i64 k), (7, .ls 900), (10, .bool (putF ⟨b, s.clock + 1, n⟩ (s.items.take k)).2)]) (fun k => [(900, .arr .item (putF ⟨b, s.clock + 1, n⟩ (s.items.take k)).1)]) [3, 5, 6, 8] 0 [(900, 12)] [] ?_ ?_ (by exact sgOk_of (by rfl)) ?_
  · first | (simp; done) | (simp; assumption)
  · (conv => whnf); (repeat' (first | exact trivial | rfl | (refine nilEq ?_; first | rfl | (simp only [*]; done) | (simp [*]; done) | grind) | apply And.intro | ((first | refine intEq ?_ | refine boolEq ?_ | refine strEq ?_ | refine psEq ?_ | refine nilEq ?_ | refine arrEq ?_); (try simp only [Int.toNat_natCast, nd_eta, sh_eta, it_eta, sto_eta, op_eta, ch_eta, nw_eta, fl_eta, rq_eta, rs_eta, elDef]); first | done | omega | grind | (simp only [*]; done) | (simp [*]; done)))); (all_goals (conv => whnf)); (repeat' (first | exact trivial | rfl | (refine nilEq ?_; first | rfl | (simp only [*]; done) | (simp [*]; done) | grind) | apply And.intro | ((first | refine intEq ?_ | refine boolEq ?_ | refine strEq ?_ | refine psEq ?_ | refine nilEq ?_ | refine arrEq ?_); (try simp only [Int.toNat_natCast, nd_eta, sh_eta, it_eta, sto_eta, op_eta, ch_eta, nw_eta, fl_eta, rq_eta, rs_eta, elDef]); first | done | omega | grind | (simp only [*]; done) | (simp [*]; done)) | ((try simp only [Int.toNat_natCast, nd_eta, sh_eta, it_eta, sto_eta, op_eta, ch_eta, nw_eta, fl_eta, rq_eta, rs_eta, elDef]); first | done | omega | grind | (simp only [*]; done) | (simp [*]; done))))
  rintro i ⟨hi, hj⟩
  conv => whnf
  have hlen := putF_len ⟨b, s.clock + 1, n⟩ s.items i
  have htk := fun h => putF_take (it := ⟨b, s.clock + 1, n⟩) (l := s.items) (i := i) h
  repeat' first
    | (refine Cnd.mk (fun h => ?_) (fun h => ?_) <;> (try simp [nd_eta, sh_eta, it_eta, sto_eta, op_eta, ch_eta, nw_eta, fl_eta, rq_eta, rs_eta, elDef, -List.getD_eq_getElem?_getD] at h) <;> conv => whnf)
    | (refine Obl.mk (by first | omega | rfl | exact inK_byte _ | (simp only [inK, Int.toNat_natCast, nd_eta, sh_eta, it_eta, sto_eta, op_eta, ch_eta, nw_eta, fl_eta, rq_eta, rs_eta, elDef, m35] <;> first | omega | grind) | grind [inK, m35]) ?_ <;> conv => whnf)
    | (refine OblG.mk (by conv => whnf
                          repeat (first | (refine Bx.mk ?_) | (intro h; (try simp [nd_eta, sh_eta, it_eta, sto_eta, op_eta, ch_eta, nw_eta, fl_eta, rq_eta, rs_eta, elDef, -List.getD_eq_getElem?_getD] at h); conv => whnf))
                          first | omega | rfl | exact inK_byte _ | (simp only [inK, Int.toNat_natCast, nd_eta, sh_eta, it_eta, sto_eta, op_eta, ch_eta, nw_eta, fl_eta, rq_eta, rs_eta, elDef, m35] <;> first | omega | grind) | grind [inK, m35]) ?_ <;> conv => whnf)
    | (refine Gd.mk (fun h => ?_) <;> (try simp [nd_eta, sh_eta, it_eta, sto_eta, op_eta, ch_eta, nw_eta, fl_eta, rq_eta, rs_eta, elDef, -List.getD_eq_getElem?_getD] at h) <;> conv => whnf)
    | (refine And.intro ?_ ?_ <;> conv => whnf)
    | exact True.intro
    | (intro; conv => whnf)
  · exact ⟨i + 1, [(900, 57)], [], ⟨by omega, by grind⟩, by omega, by (conv => whnf); (repeat' (first | exact trivial | rfl | (refine nilEq ?_; first | rfl | (simp only [*]; done) | (simp [*]; done) | grind) | apply And.intro | ((first | refine intEq ?_ | refine boolEq ?_ | refine strEq ?_ | refine psEq ?_ | refine nilEq ?_ | refine arrEq ?_); (try simp only [Int.toNat_natCast, nd_eta, sh_eta, it_eta, sto_eta, op_eta, ch_eta, nw_eta, fl_eta, rq_eta, rs_eta, elDef]); grind [putStep]))); (all_goals (conv => whnf)); (repeat' (first | exact trivial | rfl | (refine nilEq ?_; first | rfl | (simp only [*]; done) | (simp [*]; done) | grind) | apply And.intro | ((first | refine intEq ?_ | refine boolEq ?_ | refine strEq ?_ | refine psEq ?_ | refine nilEq ?_ | refine arrEq ?_); (try simp only [Int.toNat_natCast, nd_eta, sh_eta, it_eta, sto_eta, op_eta, ch_eta, nw_eta, fl_eta, rq_eta, rs_eta, elDef]); grind [putStep]) | ((try simp only [Int.toNat_natCast, nd_eta, sh_eta, it_eta, sto_eta, op_eta, ch_eta, nw_eta, fl_eta, rq_eta, rs_eta, elDef]); grind [putStep]))), (by exact sgOk_of (by rfl))⟩
  · exact ⟨i + 1, [(900, 43)], [], ⟨by omega, by grind⟩, by omega, by (conv => whnf); (repeat' (first | exact trivial | rfl | (refine nilEq ?_; first | rfl | (simp only [*]; done) | (simp [*]; done) | grind) | apply And.intro | ((first | refine intEq ?_ | refine boolEq ?_ | refine strEq ?_ | refine psEq ?_ | refine nilEq ?_ | refine arrEq ?_); (try simp only [Int.toNat_natCast, nd_eta, sh_eta, it_eta, sto_eta, op_eta, ch_eta, nw_eta, fl_eta, rq_eta, rs_eta, elDef]); grind [putStep]))); (all_goals (conv => whnf)); (repeat' (first | exact trivial | rfl | (refine nilEq ?_; first | rfl | (simp only [*]; done) | (simp [*]; done) | grind) | apply And.intro | ((first | refine intEq ?_ | refine boolEq ?_ | refine strEq ?_ | refine psEq ?_ | refine nilEq ?_ | refine arrEq ?_); (try simp only [Int.toNat_natCast, nd_eta, sh_eta, it_eta, sto_eta, op_eta, ch_eta, nw_eta, fl_eta, rq_eta, rs_eta, elDef]); grind [putStep]) | ((try simp only [Int.toNat_natCast, nd_eta, sh_eta, it_eta, sto_eta, op_eta, ch_eta, nw_eta, fl_eta, rq_eta, rs_eta, elDef]); grind [putStep]))), (by exact sgOk_of (by rfl))⟩
  · exact ⟨i + 1, [(900, 57)], [], ⟨by omega, by grind⟩, by omega, by (conv => whnf); (repeat' (first | exact trivial | rfl | (refine nilEq ?_; first | rfl | (simp only [*]; done) | (simp [*]; done) | grind) | apply And.intro | ((first | refine intEq ?_ | refine boolEq ?_ | refine strEq ?_ | refine psEq ?_ | refine nilEq ?_ | refine arrEq ?_); (try simp only [Int.toNat_natCast, nd_eta, sh_eta, it_eta, sto_eta, op_eta, ch_eta, nw_eta, fl_eta, rq_eta, rs_eta, elDef]); grind [putStep]))); (all_goals (conv => whnf)); (repeat' (first | exact trivial | rfl | (refine nilEq ?_; first | rfl | (simp only [*]; done) | (simp [*]; done) | grind) | apply And.intro | ((first | refine intEq ?_ | refine boolEq ?_ | refine strEq ?_ | refine psEq ?_ | refine nilEq ?_ | refine arrEq ?_); (try simp only [Int.toNat_natCast, nd_eta, sh_eta, it_eta, sto_eta, op_eta, ch_eta, nw_eta, fl_eta, rq_eta, rs_eta, elDef]); grind [putStep]) | ((try simp only [Int.toNat_natCast, nd_eta, sh_eta, it_eta, sto_eta, op_eta, ch_eta, nw_eta, fl_eta, rq_eta, rs_eta, elDef]); grind [putStep]))), (by exact sgOk_of (by rfl))⟩
  · exact ⟨i + 1, [], [], ⟨by omega, by grind⟩, by omega, by (conv => whnf); (repeat' (first | exact trivial | rfl | (refine nilEq ?_; first | rfl | (simp only [*]; done) | (simp [*]; done) | grind) | apply And.intro | ((first | refine intEq ?_ | refine boolEq ?_ | refine strEq ?_ | refine psEq ?_ | refine nilEq ?_ | refine arrEq ?_); (try simp only [Int.toNat_natCast, nd_eta, sh_eta, it_eta, sto_eta, op_eta, ch_eta, nw_eta, fl_eta, rq_eta, rs_eta, elDef]); grind [putStep]))); (all_goals (conv => whnf)); (repeat' (first | exact trivial | rfl | (refine nilEq ?_; first | rfl | (simp only [*]; done) | (simp [*]; done) | grind) | apply And.intro | ((first | refine intEq ?_ | refine boolEq ?_ | refine strEq ?_ | refine psEq ?_ | refine nilEq ?_ | refine arrEq ?_); (try simp only [Int.toNat_natCast, nd_eta, sh_eta, it_eta, sto_eta, op_eta, ch_eta, nw_eta, fl_eta, rq_eta, rs_eta, elDef]); grind [putStep]) | ((try simp only [Int.toNat_natCast, nd_eta, sh_eta, it_eta, sto_eta, op_eta, ch_eta, nw_eta, fl_eta, rq_eta, rs_eta, elDef]); grind [putStep]))), (by exact sgOk_of (by rfl))⟩
  all_goals
    have e := putF_end ⟨b, s.clock + 1, n⟩ s.items
    have e1 : s.items.take i = s.items := List.take_of_length_le (by omega)
    rw [e1] at h
    rw [h] at e
    exact leafV hK (by simp only [stO, putS, ← e, e1, nd_eta]; simp)
theorem a75b (l : List It) (c : Int) (b : Bs) (n1 : Int) (n2 : Int) (n3 : Bs) (n4 : List Bs) (n5 : List Nd) (hb : BdAs [.tup [.st [.own .item l, .int .i64 c]], .str b, .tup [.st [.int .i64 n1, .int .i64 n2, .str n3, .own .str n4, .own .node n5]]]) (K : AV → List AV → Prop) (h : c75b l c b n1 n2 n3 n4 n5 K) : abody E75 O75 .ow Tryz.f75 (Tryz.f75.body.getD .skip) [.tup [.st [.own .item l, .int .i64 c]], .str b, .tup [.st [.int .i64 n1, .int .i64 n2, .str n3, .own .str n4, .own .node n5]]] K := by
  simp only [BdAs, BdA, BdL, BdC, MX, ndC, shC, itC, stC, opC, chC, nwC, flC, rqC, rsC, enc, List.cons_append, List.nil_append, and_true, true_and] at hb
  unfold c75b at h
  obtain ⟨⟨⟨hs, hn⟩, hc⟩, hK⟩ := h
  have h3 := hs.1
  simp only at h3
  conv => whnf
  repeat' first
    | (refine Cnd.mk (fun h => ?_) (fun h => ?_) <;> (try simp [nd_eta, sh_eta, it_eta, sto_eta, op_eta, ch_eta, nw_eta, fl_eta, rq_eta, rs_eta, elDef, -List.getD_eq_getElem?_getD] at h) <;> conv => whnf)
    | (refine Obl.mk (by first | omega | rfl | exact inK_byte _ | (simp only [inK, Int.toNat_natCast, nd_eta, sh_eta, it_eta, sto_eta, op_eta, ch_eta, nw_eta, fl_eta, rq_eta, rs_eta, elDef, m35] <;> first | omega | grind) | grind [inK, m35]) ?_ <;> conv => whnf)
    | (refine OblG.mk (by conv => whnf
                          repeat (first | (refine Bx.mk ?_) | (intro h; (try simp [nd_eta, sh_eta, it_eta, sto_eta, op_eta, ch_eta, nw_eta, fl_eta, rq_eta, rs_eta, elDef, -List.getD_eq_getElem?_getD] at h); conv => whnf))
                          first | omega | rfl | exact inK_byte _ | (simp only [inK, Int.toNat_natCast, nd_eta, sh_eta, it_eta, sto_eta, op_eta, ch_eta, nw_eta, fl_eta, rq_eta, rs_eta, elDef, m35] <;> first | omega | grind) | grind [inK, m35]) ?_ <;> conv => whnf)
    | (refine Gd.mk (fun h => ?_) <;> (try simp [nd_eta, sh_eta, it_eta, sto_eta, op_eta, ch_eta, nw_eta, fl_eta, rq_eta, rs_eta, elDef, -List.getD_eq_getElem?_getD] at h) <;> conv => whnf)
    | (refine And.intro ?_ ?_ <;> conv => whnf)
    | exact True.intro
    | (intro; conv => whnf)
  refine aloop_intro Nat (fun k => k ≤ l.length ∧ True) (fun k => l.length - k) (fun k => [(11, .int .i64 k), (7, .ls 900), (10, .bool (putF ⟨b, c + 1, ⟨n1, n2, n3, n4, n5⟩⟩ (l.take k)).2)]) (fun k => [(900, .arr .item (putF ⟨b, c + 1, ⟨n1, n2, n3, n4, n5⟩⟩ (l.take k)).1)]) [3, 5, 6, 8, 1000000, 3000000, 3000001] 0 [(900, 12)] [] ?_ ?_ (by exact sgOk_of (by rfl)) ?_
  · first | (simp; done) | (simp; assumption)
  · (conv => whnf); (repeat' (first | exact trivial | rfl | (refine nilEq ?_; first | rfl | (simp only [*]; done) | (simp [*]; done) | grind) | apply And.intro | ((first | refine intEq ?_ | refine boolEq ?_ | refine strEq ?_ | refine psEq ?_ | refine nilEq ?_ | refine arrEq ?_); (try simp only [Int.toNat_natCast, nd_eta, sh_eta, it_eta, sto_eta, op_eta, ch_eta, nw_eta, fl_eta, rq_eta, rs_eta, elDef]); first | done | omega | grind | (simp only [*]; done) | (simp [*]; done)))); (all_goals (conv => whnf)); (repeat' (first | exact trivial | rfl | (refine nilEq ?_; first | rfl | (simp only [*]; done) | (simp [*]; done) | grind) | apply And.intro | ((first | refine intEq ?_ | refine boolEq ?_ | refine strEq ?_ | refine psEq ?_ | refine nilEq ?_ | refine arrEq ?_); (try simp only [Int.toNat_natCast, nd_eta, sh_eta, it_eta, sto_eta, op_eta, ch_eta, nw_eta, fl_eta, rq_eta, rs_eta, elDef]); first | done | omega | grind | (simp only [*]; done) | (simp [*]; done)) | ((try simp only [Int.toNat_natCast, nd_eta, sh_eta, it_eta, sto_eta, op_eta, ch_eta, nw_eta, fl_eta, rq_eta, rs_eta, elDef]); first | done | omega | grind | (simp only [*]; done) | (simp [*]; done))))
  rintro i ⟨hi, hj⟩
  conv => whnf
  have hlen := putF_len ⟨b, c + 1, ⟨n1, n2, n3, n4, n5⟩⟩ l i
  have htk := fun h => putF_take (it := ⟨b, c + 1, ⟨n1, n2, n3, n4, n5⟩⟩) (l := l) (i := i) h
  repeat' first
    | (refine Cnd.mk (fun h => ?_) (fun h => ?_) <;> (try simp [nd_eta, sh_eta, it_eta, sto_eta, op_eta, ch_eta, nw_eta, fl_eta, rq_eta, rs_eta, elDef, -List.getD_eq_getElem?_getD] at h) <;> conv => whnf)
    | (refine Obl.mk (by first | omega | rfl | exact inK_byte _ | (simp only [inK, Int.toNat_natCast, nd_eta, sh_eta, it_eta, sto_eta, op_eta, ch_eta, nw_eta, fl_eta, rq_eta, rs_eta, elDef, m35] <;> first | omega | grind) | grind [inK, m35]) ?_ <;> conv => whnf)
    | (refine OblG.mk (by conv => whnf
                          repeat (first | (refine Bx.mk ?_) | (intro h; (try simp [nd_eta, sh_eta, it_eta, sto_eta, op_eta, ch_eta, nw_eta, fl_eta, rq_eta, rs_eta, elDef, -List.getD_eq_getElem?_getD] at h); conv => whnf))
                          first | omega | rfl | exact inK_byte _ | (simp only [inK, Int.toNat_natCast, nd_eta, sh_eta, it_eta, sto_eta, op_eta, ch_eta, nw_eta, fl_eta, rq_eta, rs_eta, elDef, m35] <;> first | omega | grind) | grind [inK, m35]) ?_ <;> conv => whnf)
    | (refine Gd.mk (fun h => ?_) <;> (try simp [nd_eta, sh_eta, it_eta, sto_eta, op_eta, ch_eta, nw_eta, fl_eta, rq_eta, rs_eta, elDef, -List.getD_eq_getElem?_getD] at h) <;> conv => whnf)
    | (refine And.intro ?_ ?_ <;> conv => whnf)
    | exact True.intro
    | (intro; conv => whnf)
  · exact ⟨i + 1, [(900, 57)], [], ⟨by omega, by grind⟩, by omega, by (conv => whnf); (repeat' (first | exact trivial | rfl | (refine nilEq ?_; first | rfl | (simp only [*]; done) | (simp [*]; done) | grind) | apply And.intro | ((first | refine intEq ?_ | refine boolEq ?_ | refine strEq ?_ | refine psEq ?_ | refine nilEq ?_ | refine arrEq ?_); (try simp only [Int.toNat_natCast, nd_eta, sh_eta, it_eta, sto_eta, op_eta, ch_eta, nw_eta, fl_eta, rq_eta, rs_eta, elDef]); grind [putStep]))); (all_goals (conv => whnf)); (repeat' (first | exact trivial | rfl | (refine nilEq ?_; first | rfl | (simp only [*]; done) | (simp [*]; done) | grind) | apply And.intro | ((first | refine intEq ?_ | refine boolEq ?_ | refine strEq ?_ | refine psEq ?_ | refine nilEq ?_ | refine arrEq ?_); (try simp only [Int.toNat_natCast, nd_eta, sh_eta, it_eta, sto_eta, op_eta, ch_eta, nw_eta, fl_eta, rq_eta, rs_eta, elDef]); grind [putStep]) | ((try simp only [Int.toNat_natCast, nd_eta, sh_eta, it_eta, sto_eta, op_eta, ch_eta, nw_eta, fl_eta, rq_eta, rs_eta, elDef]); grind [putStep]))), (by exact sgOk_of (by rfl))⟩
  · exact ⟨i + 1, [(900, 43)], [], ⟨by omega, by grind⟩, by omega, by (conv => whnf); (repeat' (first | exact trivial | rfl | (refine nilEq ?_; first | rfl | (simp only [*]; done) | (simp [*]; done) | grind) | apply And.intro | ((first | refine intEq ?_ | refine boolEq ?_ | refine strEq ?_ | refine psEq ?_ | refine nilEq ?_ | refine arrEq ?_); (try simp only [Int.toNat_natCast, nd_eta, sh_eta, it_eta, sto_eta, op_eta, ch_eta, nw_eta, fl_eta, rq_eta, rs_eta, elDef]); grind [putStep]))); (all_goals (conv => whnf)); (repeat' (first | exact trivial | rfl | (refine nilEq ?_; first | rfl | (simp only [*]; done) | (simp [*]; done) | grind) | apply And.intro | ((first | refine intEq ?_ | refine boolEq ?_ | refine strEq ?_ | refine psEq ?_ | refine nilEq ?_ | refine arrEq ?_); (try simp only [Int.toNat_natCast, nd_eta, sh_eta, it_eta, sto_eta, op_eta, ch_eta, nw_eta, fl_eta, rq_eta, rs_eta, elDef]); grind [putStep]) | ((try simp only [Int.toNat_natCast, nd_eta, sh_eta, it_eta, sto_eta, op_eta, ch_eta, nw_eta, fl_eta, rq_eta, rs_eta, elDef]); grind [putStep]))), (by exact sgOk_of (by rfl))⟩
  · exact ⟨i + 1, [(900, 57)], [], ⟨by omega, by grind⟩, by omega, by (conv => whnf); (repeat' (first | exact trivial | rfl | (refine nilEq ?_; first | rfl | (simp only [*]; done) | (simp [*]; done) | grind) | apply And.intro | ((first | refine intEq ?_ | refine boolEq ?_ | refine strEq ?_ | refine psEq ?_ | refine nilEq ?_ | refine arrEq ?_); (try simp only [Int.toNat_natCast, nd_eta, sh_eta, it_eta, sto_eta, op_eta, ch_eta, nw_eta, fl_eta, rq_eta, rs_eta, elDef]); grind [putStep]))); (all_goals (conv => whnf)); (repeat' (first | exact trivial | rfl | (refine nilEq ?_; first | rfl | (simp only [*]; done) | (simp [*]; done) | grind) | apply And.intro | ((first | refine intEq ?_ | refine boolEq ?_ | refine strEq ?_ | refine psEq ?_ | refine nilEq ?_ | refine arrEq ?_); (try simp only [Int.toNat_natCast, nd_eta, sh_eta, it_eta, sto_eta, op_eta, ch_eta, nw_eta, fl_eta, rq_eta, rs_eta, elDef]); grind [putStep]) | ((try simp only [Int.toNat_natCast, nd_eta, sh_eta, it_eta, sto_eta, op_eta, ch_eta, nw_eta, fl_eta, rq_eta, rs_eta, elDef]); grind [putStep]))), (by exact sgOk_of (by rfl))⟩
  · exact ⟨i + 1, [], [], ⟨by omega, by grind⟩, by omega, by (conv => whnf); (repeat' (first | exact trivial | rfl | (refine nilEq ?_; first | rfl | (simp only [*]; done) | (simp [*]; done) | grind) | apply And.intro | ((first | refine intEq ?_ | refine boolEq ?_ | refine strEq ?_ | refine psEq ?_ | refine nilEq ?_ | refine arrEq ?_); (try simp only [Int.toNat_natCast, nd_eta, sh_eta, it_eta, sto_eta, op_eta, ch_eta, nw_eta, fl_eta, rq_eta, rs_eta, elDef]); grind [putStep]))); (all_goals (conv => whnf)); (repeat' (first | exact trivial | rfl | (refine nilEq ?_; first | rfl | (simp only [*]; done) | (simp [*]; done) | grind) | apply And.intro | ((first | refine intEq ?_ | refine boolEq ?_ | refine strEq ?_ | refine psEq ?_ | refine nilEq ?_ | refine arrEq ?_); (try simp only [Int.toNat_natCast, nd_eta, sh_eta, it_eta, sto_eta, op_eta, ch_eta, nw_eta, fl_eta, rq_eta, rs_eta, elDef]); grind [putStep]) | ((try simp only [Int.toNat_natCast, nd_eta, sh_eta, it_eta, sto_eta, op_eta, ch_eta, nw_eta, fl_eta, rq_eta, rs_eta, elDef]); grind [putStep]))), (by exact sgOk_of (by rfl))⟩
  all_goals
    have e := putF_end ⟨b, c + 1, ⟨n1, n2, n3, n4, n5⟩⟩ l
    have e1 : l.take i = l := List.take_of_length_le (by omega)
    rw [e1] at h
    rw [h] at e
    exact leafV hK (by simp only [stO, putS, ← e, e1, nd_eta]; simp)
theorem s75 : (CtrOK Tryz.prog 75 (.gen .ln C75) ∧ Callable Tryz.prog 75) := by
  refine gen_ok (E := E75) (mkE_cons s19 (mkE_cons s35 (mkE_nil tab_ok))) mix (O := O75) (C := C75) (own := .ow) Tryz.func75 rfl (by rfl) (by kernel_rfl) (fun args K h hbd => ?_)
  unfold C75 at h; split at h
  case h_3 => exact h.elim
  case h_2 => exact ⟨Nat.le_of_ble_eq_true rfl, a75b _ _ _ _ _ _ _ _ (by exact hbd) _ h⟩
  exact ⟨Nat.le_of_ble_eq_true rfl, a75 ⟨_, _⟩ _ ⟨_, _, _, _, _⟩ (by exact hbd) _ h⟩
noncomputable def c58 (s : Sto) (b : Bs) (K : AV → List AV → Prop) : Prop :=
    K (optSO (dropItemM s b)) []
noncomputable def c58b (l : List It) (c : Int) (b : Bs) (K : AV → List AV → Prop) : Prop :=
    K (optSO (dropItemM ⟨l, c⟩ b)) [.own .item l]
noncomputable def C58 : List AV → (AV → List AV → Prop) → Prop
  | [.st [.ps .item s_0, .int .i64 s_1], .str b], K => c58 ⟨s_0, s_1⟩ b K
  | [.tup [.st [.own .item l, .int .i64 c]], .str b], K => c58b l c b K
  | _, _ => False
noncomputable def E58 : Ctx := mkE tab [(17, .pure F17), (76, .pure F76), (77, .gen .ln C77)]
noncomputable def O58 : Nat → List DI := ordL []
theorem a58 (s : Sto) (b : Bs) (hb : BdAs [.st (stC s), .str b]) (K : AV → List AV → Prop) (h : c58 s b K) : abody E58 O58 .ow Tryz.f58 (Tryz.f58.body.getD .skip) [.st (stC s), .str b] K := by
  simp only [BdAs, BdA, BdL, BdC, MX, ndC, shC, itC, stC, opC, chC, nwC, flC, rqC, rsC, enc, List.cons_append, List.nil_append, and_true, true_and] at hb
  unfold c58 at h
  have hK := h
  have h9 : storeM s = true → smS s := storeM_sm
  have h8 : storeM s = true → 0 ≤ s.clock ∧ s.clock ≤ 999 ∧ s.items.length ≤ 10 := storeM_clock
  conv => whnf
  repeat' first
    | (refine Cnd.mk (fun h => ?_) (fun h => ?_) <;> (try simp [nd_eta, sh_eta, it_eta, sto_eta, op_eta, ch_eta, nw_eta, fl_eta, rq_eta, rs_eta, elDef, -List.getD_eq_getElem?_getD] at h) <;> conv => whnf)
    | (refine Obl.mk (by first | omega | rfl | exact inK_byte _ | (simp only [inK, Int.toNat_natCast, nd_eta, sh_eta, it_eta, sto_eta, op_eta, ch_eta, nw_eta, fl_eta, rq_eta, rs_eta, elDef] <;> first | omega | grind) | grind [inK]) ?_ <;> conv => whnf)
    | (refine OblG.mk (by conv => whnf
                          repeat (first | (refine Bx.mk ?_) | (intro h; (try simp [nd_eta, sh_eta, it_eta, sto_eta, op_eta, ch_eta, nw_eta, fl_eta, rq_eta, rs_eta, elDef, -List.getD_eq_getElem?_getD] at h); conv => whnf))
                          first | omega | rfl | exact inK_byte _ | (simp only [inK, Int.toNat_natCast, nd_eta, sh_eta, it_eta, sto_eta, op_eta, ch_eta, nw_eta, fl_eta, rq_eta, rs_eta, elDef] <;> first | omega | grind) | grind [inK]) ?_ <;> conv => whnf)
    | (refine Gd.mk (fun h => ?_) <;> (try simp [nd_eta, sh_eta, it_eta, sto_eta, op_eta, ch_eta, nw_eta, fl_eta, rq_eta, rs_eta, elDef, -List.getD_eq_getElem?_getD] at h) <;> conv => whnf)
    | (refine And.intro ?_ ?_ <;> conv => whnf)
    | exact True.intro
    | (intro; conv => whnf)
  · have e : dropItemM s b = none := by grind [dropItemM]
    exact leafV hK (by rw [e]; first | rfl | (simp only [optSO, stO, nd_eta, sto_eta, Option.getD_some, Option.isSome_some, Option.getD_none, Option.isSome_none]; first | done | rfl))
  · have e : dropItemM s b = some (dropS s b) := by grind [dropItemM]
    exact leafV hK (by rw [e]; first | rfl | (simp only [optSO, stO, nd_eta, sto_eta, Option.getD_some, Option.isSome_some, Option.getD_none, Option.isSome_none]; first | done | rfl))
theorem a58b (l : List It) (c : Int) (b : Bs) (hb : BdAs [.tup [.st [.own .item l, .int .i64 c]], .str b]) (K : AV → List AV → Prop) (h : c58b l c b K) : abody E58 O58 .ow Tryz.f58 (Tryz.f58.body.getD .skip) [.tup [.st [.own .item l, .int .i64 c]], .str b] K := by
  simp only [BdAs, BdA, BdL, BdC, MX, ndC, shC, itC, stC, opC, chC, nwC, flC, rqC, rsC, enc, List.cons_append, List.nil_append, and_true, true_and] at hb
  unfold c58b at h
  have hK := h
  have h9 : storeM ⟨l, c⟩ = true → smS ⟨l, c⟩ := storeM_sm
  have h8 : storeM ⟨l, c⟩ = true → 0 ≤ c ∧ c ≤ 999 ∧ l.length ≤ 10 := storeM_clock
  conv => whnf
  repeat' first
    | (refine Cnd.mk (fun h => ?_) (fun h => ?_) <;> (try simp [nd_eta, sh_eta, it_eta, sto_eta, op_eta, ch_eta, nw_eta, fl_eta, rq_eta, rs_eta, elDef, -List.getD_eq_getElem?_getD] at h) <;> conv => whnf)
    | (refine Obl.mk (by first | omega | rfl | exact inK_byte _ | (simp only [inK, Int.toNat_natCast, nd_eta, sh_eta, it_eta, sto_eta, op_eta, ch_eta, nw_eta, fl_eta, rq_eta, rs_eta, elDef] <;> first | omega | grind) | grind [inK]) ?_ <;> conv => whnf)
    | (refine OblG.mk (by conv => whnf
                          repeat (first | (refine Bx.mk ?_) | (intro h; (try simp [nd_eta, sh_eta, it_eta, sto_eta, op_eta, ch_eta, nw_eta, fl_eta, rq_eta, rs_eta, elDef, -List.getD_eq_getElem?_getD] at h); conv => whnf))
                          first | omega | rfl | exact inK_byte _ | (simp only [inK, Int.toNat_natCast, nd_eta, sh_eta, it_eta, sto_eta, op_eta, ch_eta, nw_eta, fl_eta, rq_eta, rs_eta, elDef] <;> first | omega | grind) | grind [inK]) ?_ <;> conv => whnf)
    | (refine Gd.mk (fun h => ?_) <;> (try simp [nd_eta, sh_eta, it_eta, sto_eta, op_eta, ch_eta, nw_eta, fl_eta, rq_eta, rs_eta, elDef, -List.getD_eq_getElem?_getD] at h) <;> conv => whnf)
    | (refine And.intro ?_ ?_ <;> conv => whnf)
    | exact True.intro
    | (intro; conv => whnf)
  · have e : dropItemM ⟨l, c⟩ b = none := by grind [dropItemM]
    exact leafV hK (by rw [e]; first | rfl | (simp only [optSO, stO, nd_eta, sto_eta, Option.getD_some, Option.isSome_some, Option.getD_none, Option.isSome_none]; first | done | rfl))
  · have e : dropItemM ⟨l, c⟩ b = some (dropS ⟨l, c⟩ b) := by grind [dropItemM]
    exact leafV hK (by rw [e]; first | rfl | (simp only [optSO, stO, nd_eta, sto_eta, Option.getD_some, Option.isSome_some, Option.getD_none, Option.isSome_none]; first | done | rfl))
theorem s58 : (CtrOK Tryz.prog 58 (.gen .ln C58) ∧ Callable Tryz.prog 58) := by
  refine gen_ok (E := E58) (mkE_cons s17 (mkE_cons s76 (mkE_cons s77 (mkE_nil tab_ok)))) mix (O := O58) (C := C58) (own := .ow) Tryz.func58 rfl (by rfl) (by kernel_rfl) (fun args K h hbd => ?_)
  unfold C58 at h; split at h
  case h_3 => exact h.elim
  case h_2 => exact ⟨Nat.le_of_ble_eq_true rfl, a58b _ _ _ (by exact hbd) _ h⟩
  exact ⟨Nat.le_of_ble_eq_true rfl, a58 ⟨_, _⟩ _ (by exact hbd) _ h⟩
noncomputable def c55 (s : Sto) (b : Bs) (n : Nd) (K : AV → List AV → Prop) : Prop :=
    K (optSO (putItemM s b n)) []
noncomputable def c55b (l : List It) (c : Int) (b : Bs) (n1 : Int) (n2 : Int) (n3 : Bs) (n4 : List Bs) (n5 : List Nd) (K : AV → List AV → Prop) : Prop :=
    (storeM ⟨l, c⟩ = true ∧ nameM b = true ∧ validM ⟨n1, n2, n3, n4, n5⟩ = true → K (optSO (putItemM ⟨l, c⟩ b ⟨n1, n2, n3, n4, n5⟩)) [.own .item l, .ps .str n4, .ps .node n5]) ∧ K (optSO none) [.own .item l, .own .str n4, .own .node n5]
noncomputable def C55 : List AV → (AV → List AV → Prop) → Prop
  | [.st [.ps .item s_0, .int .i64 s_1], .str b, .st [.int .i64 n_0, .int .i64 n_1, .str n_2, .ps .str n_3, .ps .node n_4]], K => c55 ⟨s_0, s_1⟩ b ⟨n_0, n_1, n_2, n_3, n_4⟩ K
  | [.tup [.st [.own .item l, .int .i64 c]], .str b, .tup [.st [.int .i64 n1, .int .i64 n2, .str n3, .own .str n4, .own .node n5]]], K => c55b l c b n1 n2 n3 n4 n5 K
  | _, _ => False
noncomputable def E55 : Ctx := mkE tab [(17, .pure F17), (31, .pure F31), (32, .pure F32), (75, .gen .ln C75)]
noncomputable def O55 : Nat → List DI := ordL []
theorem a55 (s : Sto) (b : Bs) (n : Nd) (hb : BdAs [.st (stC s), .str b, .st (ndC n)]) (K : AV → List AV → Prop) (h : c55 s b n K) : abody E55 O55 .ow Tryz.f55 (Tryz.f55.body.getD .skip) [.st (stC s), .str b, .st (ndC n)] K := by
  simp only [BdAs, BdA, BdL, BdC, MX, ndC, shC, itC, stC, opC, chC, nwC, flC, rqC, rsC, enc, List.cons_append, List.nil_append, and_true, true_and] at hb
  unfold c55 at h
  have hK := h
  have h9 : storeM s = true → smS s := storeM_sm
  have h8 : storeM s = true → 0 ≤ s.clock ∧ s.clock ≤ 999 ∧ s.items.length ≤ 10 := storeM_clock
  have h7 : validM n = true → smN n := validM_sm
  conv => whnf
  repeat' first
    | (refine Cnd.mk (fun h => ?_) (fun h => ?_) <;> (try simp [nd_eta, sh_eta, it_eta, sto_eta, op_eta, ch_eta, nw_eta, fl_eta, rq_eta, rs_eta, elDef, -List.getD_eq_getElem?_getD] at h) <;> conv => whnf)
    | (refine Obl.mk (by first | omega | rfl | exact inK_byte _ | (simp only [inK, Int.toNat_natCast, nd_eta, sh_eta, it_eta, sto_eta, op_eta, ch_eta, nw_eta, fl_eta, rq_eta, rs_eta, elDef] <;> first | omega | grind) | grind [inK]) ?_ <;> conv => whnf)
    | (refine OblG.mk (by conv => whnf
                          repeat (first | (refine Bx.mk ?_) | (intro h; (try simp [nd_eta, sh_eta, it_eta, sto_eta, op_eta, ch_eta, nw_eta, fl_eta, rq_eta, rs_eta, elDef, -List.getD_eq_getElem?_getD] at h); conv => whnf))
                          first | omega | rfl | exact inK_byte _ | (simp only [inK, Int.toNat_natCast, nd_eta, sh_eta, it_eta, sto_eta, op_eta, ch_eta, nw_eta, fl_eta, rq_eta, rs_eta, elDef] <;> first | omega | grind) | grind [inK]) ?_ <;> conv => whnf)
    | (refine Gd.mk (fun h => ?_) <;> (try simp [nd_eta, sh_eta, it_eta, sto_eta, op_eta, ch_eta, nw_eta, fl_eta, rq_eta, rs_eta, elDef, -List.getD_eq_getElem?_getD] at h) <;> conv => whnf)
    | (refine And.intro ?_ ?_ <;> conv => whnf)
    | exact True.intro
    | (intro; conv => whnf)
  · have e : putItemM s b n = none := by grind [putItemM]
    exact leafV hK (by rw [e]; first | rfl | (simp only [optSO, stO, nd_eta, sto_eta, Option.getD_some, Option.isSome_some, Option.getD_none, Option.isSome_none]; first | done | rfl))
  · have e : putItemM s b n = none := by grind [putItemM]
    exact leafV hK (by rw [e]; first | rfl | (simp only [optSO, stO, nd_eta, sto_eta, Option.getD_some, Option.isSome_some, Option.getD_none, Option.isSome_none]; first | done | rfl))
  · have e : putItemM s b n = some (putS s b n) := by grind [putItemM]
    exact leafV hK (by rw [e]; first | rfl | (simp only [optSO, stO, nd_eta, sto_eta, Option.getD_some, Option.isSome_some, Option.getD_none, Option.isSome_none]; first | done | rfl))
theorem a55b (l : List It) (c : Int) (b : Bs) (n1 : Int) (n2 : Int) (n3 : Bs) (n4 : List Bs) (n5 : List Nd) (hb : BdAs [.tup [.st [.own .item l, .int .i64 c]], .str b, .tup [.st [.int .i64 n1, .int .i64 n2, .str n3, .own .str n4, .own .node n5]]]) (K : AV → List AV → Prop) (h : c55b l c b n1 n2 n3 n4 n5 K) : abody E55 O55 .ow Tryz.f55 (Tryz.f55.body.getD .skip) [.tup [.st [.own .item l, .int .i64 c]], .str b, .tup [.st [.int .i64 n1, .int .i64 n2, .str n3, .own .str n4, .own .node n5]]] K := by
  simp only [BdAs, BdA, BdL, BdC, MX, ndC, shC, itC, stC, opC, chC, nwC, flC, rqC, rsC, enc, List.cons_append, List.nil_append, and_true, true_and] at hb
  unfold c55b at h
  obtain ⟨hK, hK0⟩ := h
  have h9 : storeM ⟨l, c⟩ = true → smS ⟨l, c⟩ := storeM_sm
  have h8 : storeM ⟨l, c⟩ = true → 0 ≤ c ∧ c ≤ 999 ∧ l.length ≤ 10 := storeM_clock
  have h7 : validM ⟨n1, n2, n3, n4, n5⟩ = true → smN ⟨n1, n2, n3, n4, n5⟩ := validM_sm
  conv => whnf
  repeat' first
    | (refine Cnd.mk (fun h => ?_) (fun h => ?_) <;> (try simp [nd_eta, sh_eta, it_eta, sto_eta, op_eta, ch_eta, nw_eta, fl_eta, rq_eta, rs_eta, elDef, -List.getD_eq_getElem?_getD] at h) <;> conv => whnf)
    | (refine Obl.mk (by first | omega | rfl | exact inK_byte _ | (simp only [inK, Int.toNat_natCast, nd_eta, sh_eta, it_eta, sto_eta, op_eta, ch_eta, nw_eta, fl_eta, rq_eta, rs_eta, elDef] <;> first | omega | grind) | grind [inK]) ?_ <;> conv => whnf)
    | (refine OblG.mk (by conv => whnf
                          repeat (first | (refine Bx.mk ?_) | (intro h; (try simp [nd_eta, sh_eta, it_eta, sto_eta, op_eta, ch_eta, nw_eta, fl_eta, rq_eta, rs_eta, elDef, -List.getD_eq_getElem?_getD] at h); conv => whnf))
                          first | omega | rfl | exact inK_byte _ | (simp only [inK, Int.toNat_natCast, nd_eta, sh_eta, it_eta, sto_eta, op_eta, ch_eta, nw_eta, fl_eta, rq_eta, rs_eta, elDef] <;> first | omega | grind) | grind [inK]) ?_ <;> conv => whnf)
    | (refine Gd.mk (fun h => ?_) <;> (try simp [nd_eta, sh_eta, it_eta, sto_eta, op_eta, ch_eta, nw_eta, fl_eta, rq_eta, rs_eta, elDef, -List.getD_eq_getElem?_getD] at h) <;> conv => whnf)
    | (refine And.intro ?_ ?_ <;> conv => whnf)
    | exact True.intro
    | (intro; conv => whnf)
  · exact hK0
  · have e : putItemM ⟨l, c⟩ b ⟨n1, n2, n3, n4, n5⟩ = none := by grind [putItemM]
    exact leafV (hK (by grind)) (by rw [e]; first | rfl | (simp only [optSO, stO, nd_eta, sto_eta, Option.getD_some, Option.isSome_some, Option.getD_none, Option.isSome_none]; first | done | rfl))
  · have e : putItemM ⟨l, c⟩ b ⟨n1, n2, n3, n4, n5⟩ = some (putS ⟨l, c⟩ b ⟨n1, n2, n3, n4, n5⟩) := by grind [putItemM]
    exact leafV (hK (by grind)) (by rw [e]; first | rfl | (simp only [optSO, stO, nd_eta, sto_eta, Option.getD_some, Option.isSome_some, Option.getD_none, Option.isSome_none]; first | done | rfl))
theorem s55 : (CtrOK Tryz.prog 55 (.gen .ln C55) ∧ Callable Tryz.prog 55) := by
  refine gen_ok (E := E55) (mkE_cons s17 (mkE_cons s31 (mkE_cons s32 (mkE_cons s75 (mkE_nil tab_ok))))) mix (O := O55) (C := C55) (own := .ow) Tryz.func55 rfl (by rfl) (by kernel_rfl) (fun args K h hbd => ?_)
  unfold C55 at h; split at h
  case h_3 => exact h.elim
  case h_2 => exact ⟨Nat.le_of_ble_eq_true rfl, a55b _ _ _ _ _ _ _ _ (by exact hbd) _ h⟩
  exact ⟨Nat.le_of_ble_eq_true rfl, a55 ⟨_, _⟩ _ ⟨_, _, _, _, _⟩ (by exact hbd) _ h⟩
end Go.Rs

