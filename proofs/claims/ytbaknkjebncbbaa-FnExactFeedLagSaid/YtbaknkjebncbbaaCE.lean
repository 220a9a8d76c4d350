import Derived.Test.YtbaknkjebncbbaaCD
import Derived.Test.YtbaknkjebncbbaaMB
set_option linter.all false
namespace Go.Rs
open Go.Proofs
set_option maxRecDepth 100000
set_option linter.unusedVariables false
set_option linter.unusedSimpArgs false
noncomputable def c60 (s : Sto) (b : Bs) (n : Nd) (K : AV → List AV → Prop) : Prop :=
    Obl ((smS s ∧ smN n) ∧ 0 ≤ s.clock ∧ s.clock ≤ 10000) (K (.st (stO (putS s b n))) [])
noncomputable def c60b (l : List It) (c : Int) (b : Bs) (n1 : Int) (n2 : Int) (n3 : Bs) (n4 : List Bs) (n5 : List Nd) (K : AV → List AV → Prop) : Prop :=
    Obl ((smS ⟨l, c⟩ ∧ smN ⟨n1, n2, n3, n4, n5⟩) ∧ 0 ≤ c ∧ c ≤ 10000) (K (.st (stO (putS ⟨l, c⟩ b ⟨n1, n2, n3, n4, n5⟩))) [.own .item l, .ps .str n4, .ps .node n5])
noncomputable def C60 : List AV → (AV → List AV → Prop) → Prop
  | [.st [.ps .item s_0, .int .i64 s_1], .str b, .st [.int .i64 n_0, .int .i64 n_1, .str n_2, .ps .str n_3, .ps .node n_4]], K => c60 ⟨s_0, s_1⟩ b ⟨n_0, n_1, n_2, n_3, n_4⟩ K
  | [.tup [.st [.own .item l, .int .i64 c]], .str b, .tup [.st [.int .i64 n1, .int .i64 n2, .str n3, .own .str n4, .own .node n5]]], K => c60b l c b n1 n2 n3 n4 n5 K
  | _, _ => False
noncomputable def E60 : Ctx := mkE tab [(67, .gen .ln C67), (68, .gen .ps C68)]
noncomputable def O60 : Nat → List DI := ordL [(2, [.q 0, .q 1, .q 2, .q 3, .q 4, .l 5 [2], .q 6, .a 7, .l 8 []])]
theorem a60 (s : Sto) (b : Bs) (n : Nd) (hb : BdAs [.st (stC s), .str b, .st (ndC n)]) (K : AV → List AV → Prop) (h : c60 s b n K) : abody E60 O60 .ow Try.f60 (Try.f60.body.getD .skip) [.st (stC s), .str b, .st (ndC n)] K := by
  simp only [BdAs, BdA, BdL, BdC, MX, ndC, shC, itC, stC, opC, chC, nwC, flC, rqC, rsC, enc, List.cons_append, List.nil_append, and_true, true_and] at hb
  unfold c60 at h
  obtain ⟨⟨⟨hs, hn⟩, hc⟩, hK⟩ := h
  have h3 := hs.1
  conv => whnf
  repeat' first
    | (refine Cnd.mk (fun h => ?_) (fun h => ?_) <;> (try simp [etas, elDef, -List.getD_eq_getElem?_getD] at h) <;> conv => whnf)
    | (refine Obl.mk (by first | omega | rfl | exact inK_byte _ | (simp only [inK, Int.toNat_natCast, etas, elDef, m68] <;> first | omega | grind) | grind [inK, m68]) ?_ <;> conv => whnf)
    | (refine OblG.mk (by conv => whnf
                          repeat (first | (refine Bx.mk ?_) | (intro h; (try simp [etas, elDef, -List.getD_eq_getElem?_getD] at h); conv => whnf))
                          first | omega | rfl | exact inK_byte _ | (simp only [inK, Int.toNat_natCast, etas, elDef, m68] <;> first | omega | grind) | grind [inK, m68]) ?_ <;> conv => whnf)
    | (refine Gd.mk (fun h => ?_) <;> (try simp [etas, elDef, -List.getD_eq_getElem?_getD] at h) <;> conv => whnf)
    | (refine And.intro ?_ ?_ <;> conv => whnf)
    | exact True.intro
    | (intro; conv => whnf)
  refine aloop_intro Nat (fun k => k ≤ s.items.length ∧ True) (fun k => s.items.length - k) (fun k => [(11, .int .i64 k), (7, .ls 900), (10, .bool (putF ⟨b, s.clock + 1, n⟩ (s.items.take k)).2)]) (fun k => [(900, .arr .item (putF ⟨b, s.clock + 1, n⟩ (s.items.take k)).1)]) [3, 5, 6, 8] 0 [(900, 12)] [] ?_ ?_ (by exact sgOk_of (by rfl)) ?_
  · first | (simp; done) | (simp; assumption)
  · (conv => whnf); (repeat' (first | exact trivial | rfl | (refine nilEq ?_; first | rfl | (simp only [*]; done) | (simp [*]; done) | grind) | apply And.intro | ((first | refine intEq ?_ | refine boolEq ?_ | refine strEq ?_ | refine psEq ?_ | refine nilEq ?_ | refine arrEq ?_); (try simp only [Int.toNat_natCast, etas, elDef]); first | done | omega | grind | (simp only [*]; done) | (simp [*]; done)))); (all_goals (conv => whnf)); (repeat' (first | exact trivial | rfl | (refine nilEq ?_; first | rfl | (simp only [*]; done) | (simp [*]; done) | grind) | apply And.intro | ((first | refine intEq ?_ | refine boolEq ?_ | refine strEq ?_ | refine psEq ?_ | refine nilEq ?_ | refine arrEq ?_); (try simp only [Int.toNat_natCast, etas, elDef]); first | done | omega | grind | (simp only [*]; done) | (simp [*]; done)) | ((try simp only [Int.toNat_natCast, etas, elDef]); first | done | omega | grind | (simp only [*]; done) | (simp [*]; done))))
  rintro i ⟨hi, hj⟩
  conv => whnf
  have hlen := putF_len ⟨b, s.clock + 1, n⟩ s.items i
  have htk := fun h => putF_take (it := ⟨b, s.clock + 1, n⟩) (l := s.items) (i := i) h
  repeat' first
    | (refine Cnd.mk (fun h => ?_) (fun h => ?_) <;> (try simp [etas, elDef, -List.getD_eq_getElem?_getD] at h) <;> conv => whnf)
    | (refine Obl.mk (by first | omega | rfl | exact inK_byte _ | (simp only [inK, Int.toNat_natCast, etas, elDef, m68] <;> first | omega | grind) | grind [inK, m68]) ?_ <;> conv => whnf)
    | (refine OblG.mk (by conv => whnf
                          repeat (first | (refine Bx.mk ?_) | (intro h; (try simp [etas, elDef, -List.getD_eq_getElem?_getD] at h); conv => whnf))
                          first | omega | rfl | exact inK_byte _ | (simp only [inK, Int.toNat_natCast, etas, elDef, m68] <;> first | omega | grind) | grind [inK, m68]) ?_ <;> conv => whnf)
    | (refine Gd.mk (fun h => ?_) <;> (try simp [etas, elDef, -List.getD_eq_getElem?_getD] at h) <;> conv => whnf)
    | (refine And.intro ?_ ?_ <;> conv => whnf)
    | exact True.intro
    | (intro; conv => whnf)
  · exact ⟨i + 1, [(900, 57)], [], ⟨by omega, by grind⟩, by omega, by (conv => whnf); (repeat' (first | exact trivial | rfl | (refine nilEq ?_; first | rfl | (simp only [*]; done) | (simp [*]; done) | grind) | apply And.intro | ((first | refine intEq ?_ | refine boolEq ?_ | refine strEq ?_ | refine psEq ?_ | refine nilEq ?_ | refine arrEq ?_); (try simp only [Int.toNat_natCast, etas, elDef]); grind [putStep]))); (all_goals (conv => whnf)); (repeat' (first | exact trivial | rfl | (refine nilEq ?_; first | rfl | (simp only [*]; done) | (simp [*]; done) | grind) | apply And.intro | ((first | refine intEq ?_ | refine boolEq ?_ | refine strEq ?_ | refine psEq ?_ | refine nilEq ?_ | refine arrEq ?_); (try simp only [Int.toNat_natCast, etas, elDef]); grind [putStep]) | ((try simp only [Int.toNat_natCast, etas, elDef]); grind [putStep]))), (by exact sgOk_of (by rfl))⟩
  · exact ⟨i + 1, [(900, 43)], [], ⟨by omega, by grind⟩, by omega, by (conv => whnf); (repeat' (first | exact trivial | rfl | (refine nilEq ?_; first | rfl | (simp only [*]; done) | (simp [*]; done) | grind) | apply And.intro | ((first | refine intEq ?_ | refine boolEq ?_ | refine strEq ?_ | refine psEq ?_ | refine nilEq ?_ | refine arrEq ?_); (try simp only [Int.toNat_natCast, etas, elDef]); grind [putStep]))); (all_goals (conv => whnf)); (repeat' (first | exact trivial | rfl | (refine nilEq ?_; first | rfl | (simp only [*]; done) | (simp [*]; done) | grind) | apply And.intro | ((first | refine intEq ?_ | refine boolEq ?_ | refine strEq ?_ | refine psEq ?_ | refine nilEq ?_ | refine arrEq ?_); (try simp only [Int.toNat_natCast, etas, elDef]); grind [putStep]) | ((try simp only [Int.toNat_natCast, etas, elDef]); grind [putStep]))), (by exact sgOk_of (by rfl))⟩
  · exact ⟨i + 1, [(900, 57)], [], ⟨by omega, by grind⟩, by omega, by (conv => whnf); (repeat' (first | exact trivial | rfl | (refine nilEq ?_; first | rfl | (simp only [*]; done) | (simp [*]; done) | grind) | apply And.intro | ((first | refine intEq ?_ | refine boolEq ?_ | refine strEq ?_ | refine psEq ?_ | refine nilEq ?_ | refine arrEq ?_); (try simp only [Int.toNat_natCast, etas, elDef]); grind [putStep]))); (all_goals (conv => whnf)); (repeat' (first | exact trivial | rfl | (refine nilEq ?_; first | rfl | (simp only [*]; done) | (simp [*]; done) | grind) | apply And.intro | ((first | refine intEq ?_ | refine boolEq ?_ | refine strEq ?_ | refine psEq ?_ | refine nilEq ?_ | refine arrEq ?_); (try simp only [Int.toNat_natCast, etas, elDef]); grind [putStep]) | ((try simp only [Int.toNat_natCast, etas, elDef]); grind [putStep]))), (by exact sgOk_of (by rfl))⟩
  · exact ⟨i + 1, [], [], ⟨by omega, by grind⟩, by omega, by (conv => whnf); (repeat' (first | exact trivial | rfl | (refine nilEq ?_; first | rfl | (simp only [*]; done) | (simp [*]; done) | grind) | apply And.intro | ((first | refine intEq ?_ | refine boolEq ?_ | refine strEq ?_ | refine psEq ?_ | refine nilEq ?_ | refine arrEq ?_); (try simp only [Int.toNat_natCast, etas, elDef]); grind [putStep]))); (all_goals (conv => whnf)); (repeat' (first | exact trivial | rfl | (refine nilEq ?_; first | rfl | (simp only [*]; done) | (simp [*]; done) | grind) | apply And.intro | ((first | refine intEq ?_ | refine boolEq ?_ | refine strEq ?_ | refine psEq ?_ | refine nilEq ?_ | refine arrEq ?_); (try simp only [Int.toNat_natCast, etas, elDef]); grind [putStep]) | ((try simp only [Int.toNat_natCast, etas, elDef]); grind [putStep]))), (by exact sgOk_of (by rfl))⟩
  all_goals
    have e := putF_end ⟨b, s.clock + 1, n⟩ s.items
    have e1 : s.items.take i = s.items := List.take_of_length_le (by omega)
    rw [e1] at h
    rw [h] at e
    exact leafV hK (by simp only [stO, putS, ← e, e1, nd_eta]; simp)
theorem a60b (l : List It) (c : Int) (b : Bs) (n1 : Int) (n2 : Int) (n3 : Bs) (n4 : List Bs) (n5 : List Nd) (hb : BdAs [.tup [.st [.own .item l, .int .i64 c]], .str b, .tup [.st [.int .i64 n1, .int .i64 n2, .str n3, .own .str n4, .own .node n5]]]) (K : AV → List AV → Prop) (h : c60b l c b n1 n2 n3 n4 n5 K) : abody E60 O60 .ow Try.f60 (Try.f60.body.getD .skip) [.tup [.st [.own .item l, .int .i64 c]], .str b, .tup [.st [.int .i64 n1, .int .i64 n2, .str n3, .own .str n4, .own .node n5]]] K := by
  simp only [BdAs, BdA, BdL, BdC, MX, ndC, shC, itC, stC, opC, chC, nwC, flC, rqC, rsC, enc, List.cons_append, List.nil_append, and_true, true_and] at hb
  unfold c60b at h
  obtain ⟨⟨⟨hs, hn⟩, hc⟩, hK⟩ := h
  have h3 := hs.1
  simp only at h3
  conv => whnf
  repeat' first
    | (refine Cnd.mk (fun h => ?_) (fun h => ?_) <;> (try simp [etas, elDef, -List.getD_eq_getElem?_getD] at h) <;> conv => whnf)
    | (refine Obl.mk (by first | omega | rfl | exact inK_byte _ | (simp only [inK, Int.toNat_natCast, etas, elDef, m68] <;> first | omega | grind) | grind [inK, m68]) ?_ <;> conv => whnf)
    | (refine OblG.mk (by conv => whnf
                          repeat (first | (refine Bx.mk ?_) | (intro h; (try simp [etas, elDef, -List.getD_eq_getElem?_getD] at h); conv => whnf))
                          first | omega | rfl | exact inK_byte _ | (simp only [inK, Int.toNat_natCast, etas, elDef, m68] <;> first | omega | grind) | grind [inK, m68]) ?_ <;> conv => whnf)
    | (refine Gd.mk (fun h => ?_) <;> (try simp [etas, elDef, -List.getD_eq_getElem?_getD] at h) <;> conv => whnf)
    | (refine And.intro ?_ ?_ <;> conv => whnf)
    | exact True.intro
    | (intro; conv => whnf)
  refine aloop_intro Nat (fun k => k ≤ l.length ∧ True) (fun k => l.length - k) (fun k => [(11, .int .i64 k), (7, .ls 900), (10, .bool (putF ⟨b, c + 1, ⟨n1, n2, n3, n4, n5⟩⟩ (l.take k)).2)]) (fun k => [(900, .arr .item (putF ⟨b, c + 1, ⟨n1, n2, n3, n4, n5⟩⟩ (l.take k)).1)]) [3, 5, 6, 8, 1000000, 3000000, 3000001] 0 [(900, 12)] [] ?_ ?_ (by exact sgOk_of (by rfl)) ?_
  · first | (simp; done) | (simp; assumption)
  · (conv => whnf); (repeat' (first | exact trivial | rfl | (refine nilEq ?_; first | rfl | (simp only [*]; done) | (simp [*]; done) | grind) | apply And.intro | ((first | refine intEq ?_ | refine boolEq ?_ | refine strEq ?_ | refine psEq ?_ | refine nilEq ?_ | refine arrEq ?_); (try simp only [Int.toNat_natCast, etas, elDef]); first | done | omega | grind | (simp only [*]; done) | (simp [*]; done)))); (all_goals (conv => whnf)); (repeat' (first | exact trivial | rfl | (refine nilEq ?_; first | rfl | (simp only [*]; done) | (simp [*]; done) | grind) | apply And.intro | ((first | refine intEq ?_ | refine boolEq ?_ | refine strEq ?_ | refine psEq ?_ | refine nilEq ?_ | refine arrEq ?_); (try simp only [Int.toNat_natCast, etas, elDef]); first | done | omega | grind | (simp only [*]; done) | (simp [*]; done)) | ((try simp only [Int.toNat_natCast, etas, elDef]); first | done | omega | grind | (simp only [*]; done) | (simp [*]; done))))
  rintro i ⟨hi, hj⟩
  conv => whnf
  have hlen := putF_len ⟨b, c + 1, ⟨n1, n2, n3, n4, n5⟩⟩ l i
  have htk := fun h => putF_take (it := ⟨b, c + 1, ⟨n1, n2, n3, n4, n5⟩⟩) (l := l) (i := i) h
  repeat' first
    | (refine Cnd.mk (fun h => ?_) (fun h => ?_) <;> (try simp [etas, elDef, -List.getD_eq_getElem?_getD] at h) <;> conv => whnf)
    | (refine Obl.mk (by first | omega | rfl | exact inK_byte _ | (simp only [inK, Int.toNat_natCast, etas, elDef, m68] <;> first | omega | grind) | grind [inK, m68]) ?_ <;> conv => whnf)
    | (refine OblG.mk (by conv => whnf
                          repeat (first | (refine Bx.mk ?_) | (intro h; (try simp [etas, elDef, -List.getD_eq_getElem?_getD] at h); conv => whnf))
                          first | omega | rfl | exact inK_byte _ | (simp only [inK, Int.toNat_natCast, etas, elDef, m68] <;> first | omega | grind) | grind [inK, m68]) ?_ <;> conv => whnf)
    | (refine Gd.mk (fun h => ?_) <;> (try simp [etas, elDef, -List.getD_eq_getElem?_getD] at h) <;> conv => whnf)
    | (refine And.intro ?_ ?_ <;> conv => whnf)
    | exact True.intro
    | (intro; conv => whnf)
  · exact ⟨i + 1, [(900, 57)], [], ⟨by omega, by grind⟩, by omega, by (conv => whnf); (repeat' (first | exact trivial | rfl | (refine nilEq ?_; first | rfl | (simp only [*]; done) | (simp [*]; done) | grind) | apply And.intro | ((first | refine intEq ?_ | refine boolEq ?_ | refine strEq ?_ | refine psEq ?_ | refine nilEq ?_ | refine arrEq ?_); (try simp only [Int.toNat_natCast, etas, elDef]); grind [putStep]))); (all_goals (conv => whnf)); (repeat' (first | exact trivial | rfl | (refine nilEq ?_; first | rfl | (simp only [*]; done) | (simp [*]; done) | grind) | apply And.intro | ((first | refine intEq ?_ | refine boolEq ?_ | refine strEq ?_ | refine psEq ?_ | refine nilEq ?_ | refine arrEq ?_); (try simp only [Int.toNat_natCast, etas, elDef]); grind [putStep]) | ((try simp only [Int.toNat_natCast, etas, elDef]); grind [putStep]))), (by exact sgOk_of (by rfl))⟩
  · exact ⟨i + 1, [(900, 43)], [], ⟨by omega, by grind⟩, by omega, by (conv => whnf); (repeat' (first | exact trivial | rfl | (refine nilEq ?_; first | rfl | (simp only [*]; done) | (simp [*]; done) | grind) | apply And.intro | ((first | refine intEq ?_ | refine boolEq ?_ | refine strEq ?_ | refine psEq ?_ | refine nilEq ?_ | refine arrEq ?_); (try simp only [Int.toNat_natCast, etas, elDef]); grind [putStep]))); (all_goals (conv => whnf)); (repeat' (first | exact trivial | rfl | (refine nilEq ?_; first | rfl | (simp only [*]; done) | (simp [*]; done) | grind) | apply And.intro | ((first | refine intEq ?_ | refine boolEq ?_ | refine strEq ?_ | refine psEq ?_ | refine nilEq ?_ | refine arrEq ?_); (try simp only [Int.toNat_natCast, etas, elDef]); grind [putStep]) | ((try simp only [Int.toNat_natCast, etas, elDef]); grind [putStep]))), (by exact sgOk_of (by rfl))⟩
  · exact ⟨i + 1, [(900, 57)], [], ⟨by omega, by grind⟩, by omega, by (conv => whnf); (repeat' (first | exact trivial | rfl | (refine nilEq ?_; first | rfl | (simp only [*]; done) | (simp [*]; done) | grind) | apply And.intro | ((first | refine intEq ?_ | refine boolEq ?_ | refine strEq ?_ | refine psEq ?_ | refine nilEq ?_ | refine arrEq ?_); (try simp only [Int.toNat_natCast, etas, elDef]); grind [putStep]))); (all_goals (conv => whnf)); (repeat' (first | exact trivial | rfl | (refine nilEq ?_; first | rfl | (simp only [*]; done) | (simp [*]; done) | grind) | apply And.intro | ((first | refine intEq ?_ | refine boolEq ?_ | refine strEq ?_ | refine psEq ?_ | refine nilEq ?_ | refine arrEq ?_); (try simp only [Int.toNat_natCast, etas, elDef]); grind [putStep]) | ((try simp only [Int.toNat_natCast, etas, elDef]); grind [putStep]))), (by exact sgOk_of (by rfl))⟩
  · exact ⟨i + 1, [], [], ⟨by omega, by grind⟩, by omega, by (conv => whnf); (repeat' (first | exact trivial | rfl | (refine nilEq ?_; first | rfl | (simp only [*]; done) | (simp [*]; done) | grind) | apply And.intro | ((first | refine intEq ?_ | refine boolEq ?_ | refine strEq ?_ | refine psEq ?_ | refine nilEq ?_ | refine arrEq ?_); (try simp only [Int.toNat_natCast, etas, elDef]); grind [putStep]))); (all_goals (conv => whnf)); (repeat' (first | exact trivial | rfl | (refine nilEq ?_; first | rfl | (simp only [*]; done) | (simp [*]; done) | grind) | apply And.intro | ((first | refine intEq ?_ | refine boolEq ?_ | refine strEq ?_ | refine psEq ?_ | refine nilEq ?_ | refine arrEq ?_); (try simp only [Int.toNat_natCast, etas, elDef]); grind [putStep]) | ((try simp only [Int.toNat_natCast, etas, elDef]); grind [putStep]))), (by exact sgOk_of (by rfl))⟩
  all_goals
    have e := putF_end ⟨b, c + 1, ⟨n1, n2, n3, n4, n5⟩⟩ l
    have e1 : l.take i = l := List.take_of_length_le (by omega)
    rw [e1] at h
    rw [h] at e
    exact leafV hK (by simp only [stO, putS, ← e, e1, nd_eta]; simp)
theorem s60 : (CtrOK Try.prog 60 (.gen .ln C60) ∧ Callable Try.prog 60) := by
  refine gen_ok (E := E60) (mkE_cons s67 (mkE_cons s68 (mkE_nil tab_ok))) mix (O := O60) (C := C60) (own := .ow) Try.func60 rfl (by rfl) (by kernel_rfl) (fun args K h hbd => ?_)
  unfold C60 at h; split at h
  case h_3 => exact h.elim
  case h_2 => exact ⟨Nat.le_of_ble_eq_true rfl, a60b _ _ _ _ _ _ _ _ (by exact hbd) _ h⟩
  exact ⟨Nat.le_of_ble_eq_true rfl, a60 ⟨_, _⟩ _ ⟨_, _, _, _, _⟩ (by exact hbd) _ h⟩
noncomputable def c51 (s : Sto) (b : Bs) (K : AV → List AV → Prop) : Prop :=
    K (optSO (dropItemM s b)) []
noncomputable def c51b (l : List It) (c : Int) (b : Bs) (K : AV → List AV → Prop) : Prop :=
    K (optSO (dropItemM ⟨l, c⟩ b)) [.own .item l]
noncomputable def C51 : List AV → (AV → List AV → Prop) → Prop
  | [.st [.ps .item s_0, .int .i64 s_1], .str b], K => c51 ⟨s_0, s_1⟩ b K
  | [.tup [.st [.own .item l, .int .i64 c]], .str b], K => c51b l c b K
  | _, _ => False
noncomputable def E51 : Ctx := mkE tab [(14, .pure F14), (58, .pure F58), (59, .gen .ln C59)]
noncomputable def O51 : Nat → List DI := ordL []
theorem a51 (s : Sto) (b : Bs) (hb : BdAs [.st (stC s), .str b]) (K : AV → List AV → Prop) (h : c51 s b K) : abody E51 O51 .ow Try.f51 (Try.f51.body.getD .skip) [.st (stC s), .str b] K := by
  simp only [BdAs, BdA, BdL, BdC, MX, ndC, shC, itC, stC, opC, chC, nwC, flC, rqC, rsC, enc, List.cons_append, List.nil_append, and_true, true_and] at hb
  unfold c51 at h
  have hK := h
  have h9 : storeM s = true → smS s := storeM_sm
  have h8 : storeM s = true → 0 ≤ s.clock ∧ s.clock ≤ 999 ∧ s.items.length ≤ 10 := storeM_clock
  conv => whnf
  repeat' first
    | (refine Cnd.mk (fun h => ?_) (fun h => ?_) <;> (try simp [etas, elDef, -List.getD_eq_getElem?_getD] at h) <;> conv => whnf)
    | (refine Obl.mk (by first | omega | rfl | exact inK_byte _ | (simp only [inK, Int.toNat_natCast, etas, elDef] <;> first | omega | grind) | grind [inK]) ?_ <;> conv => whnf)
    | (refine OblG.mk (by conv => whnf
                          repeat (first | (refine Bx.mk ?_) | (intro h; (try simp [etas, elDef, -List.getD_eq_getElem?_getD] at h); conv => whnf))
                          first | omega | rfl | exact inK_byte _ | (simp only [inK, Int.toNat_natCast, etas, elDef] <;> first | omega | grind) | grind [inK]) ?_ <;> conv => whnf)
    | (refine Gd.mk (fun h => ?_) <;> (try simp [etas, elDef, -List.getD_eq_getElem?_getD] at h) <;> conv => whnf)
    | (refine And.intro ?_ ?_ <;> conv => whnf)
    | exact True.intro
    | (intro; conv => whnf)
  · have e : dropItemM s b = none := by grind [dropItemM]
    exact leafV hK (by rw [e]; first | rfl | (simp only [optSO, stO, nd_eta, sto_eta, Option.getD_some, Option.isSome_some, Option.getD_none, Option.isSome_none]; first | done | rfl))
  · have e : dropItemM s b = some (dropS s b) := by grind [dropItemM]
    exact leafV hK (by rw [e]; first | rfl | (simp only [optSO, stO, nd_eta, sto_eta, Option.getD_some, Option.isSome_some, Option.getD_none, Option.isSome_none]; first | done | rfl))
theorem a51b (l : List It) (c : Int) (b : Bs) (hb : BdAs [.tup [.st [.own .item l, .int .i64 c]], .str b]) (K : AV → List AV → Prop) (h : c51b l c b K) : abody E51 O51 .ow Try.f51 (Try.f51.body.getD .skip) [.tup [.st [.own .item l, .int .i64 c]], .str b] K := by
  simp only [BdAs, BdA, BdL, BdC, MX, ndC, shC, itC, stC, opC, chC, nwC, flC, rqC, rsC, enc, List.cons_append, List.nil_append, and_true, true_and] at hb
  unfold c51b at h
  have hK := h
  have h9 : storeM ⟨l, c⟩ = true → smS ⟨l, c⟩ := storeM_sm
  have h8 : storeM ⟨l, c⟩ = true → 0 ≤ c ∧ c ≤ 999 ∧ l.length ≤ 10 := storeM_clock
  conv => whnf
  repeat' first
    | (refine Cnd.mk (fun h => ?_) (fun h => ?_) <;> (try simp [etas, elDef, -List.getD_eq_getElem?_getD] at h) <;> conv => whnf)
    | (refine Obl.mk (by first | omega | rfl | exact inK_byte _ | (simp only [inK, Int.toNat_natCast, etas, elDef] <;> first | omega | grind) | grind [inK]) ?_ <;> conv => whnf)
    | (refine OblG.mk (by conv => whnf
                          repeat (first | (refine Bx.mk ?_) | (intro h; (try simp [etas, elDef, -List.getD_eq_getElem?_getD] at h); conv => whnf))
                          first | omega | rfl | exact inK_byte _ | (simp only [inK, Int.toNat_natCast, etas, elDef] <;> first | omega | grind) | grind [inK]) ?_ <;> conv => whnf)
    | (refine Gd.mk (fun h => ?_) <;> (try simp [etas, elDef, -List.getD_eq_getElem?_getD] at h) <;> conv => whnf)
    | (refine And.intro ?_ ?_ <;> conv => whnf)
    | exact True.intro
    | (intro; conv => whnf)
  · have e : dropItemM ⟨l, c⟩ b = none := by grind [dropItemM]
    exact leafV hK (by rw [e]; first | rfl | (simp only [optSO, stO, nd_eta, sto_eta, Option.getD_some, Option.isSome_some, Option.getD_none, Option.isSome_none]; first | done | rfl))
  · have e : dropItemM ⟨l, c⟩ b = some (dropS ⟨l, c⟩ b) := by grind [dropItemM]
    exact leafV hK (by rw [e]; first | rfl | (simp only [optSO, stO, nd_eta, sto_eta, Option.getD_some, Option.isSome_some, Option.getD_none, Option.isSome_none]; first | done | rfl))
theorem s51 : (CtrOK Try.prog 51 (.gen .ln C51) ∧ Callable Try.prog 51) := by
  refine gen_ok (E := E51) (mkE_cons s14 (mkE_cons s58 (mkE_cons s59 (mkE_nil tab_ok)))) mix (O := O51) (C := C51) (own := .ow) Try.func51 rfl (by rfl) (by kernel_rfl) (fun args K h hbd => ?_)
  unfold C51 at h; split at h
  case h_3 => exact h.elim
  case h_2 => exact ⟨Nat.le_of_ble_eq_true rfl, a51b _ _ _ (by exact hbd) _ h⟩
  exact ⟨Nat.le_of_ble_eq_true rfl, a51 ⟨_, _⟩ _ (by exact hbd) _ h⟩
noncomputable def c52 (s : Sto) (b : Bs) (n : Nd) (K : AV → List AV → Prop) : Prop :=
    K (optSO (putItemM s b n)) []
noncomputable def c52b (l : List It) (c : Int) (b : Bs) (n1 : Int) (n2 : Int) (n3 : Bs) (n4 : List Bs) (n5 : List Nd) (K : AV → List AV → Prop) : Prop :=
    (storeM ⟨l, c⟩ = true ∧ nameM b = true ∧ validM ⟨n1, n2, n3, n4, n5⟩ = true → K (optSO (putItemM ⟨l, c⟩ b ⟨n1, n2, n3, n4, n5⟩)) [.own .item l, .ps .str n4, .ps .node n5]) ∧ K (optSO none) [.own .item l, .own .str n4, .own .node n5]
noncomputable def C52 : List AV → (AV → List AV → Prop) → Prop
  | [.st [.ps .item s_0, .int .i64 s_1], .str b, .st [.int .i64 n_0, .int .i64 n_1, .str n_2, .ps .str n_3, .ps .node n_4]], K => c52 ⟨s_0, s_1⟩ b ⟨n_0, n_1, n_2, n_3, n_4⟩ K
  | [.tup [.st [.own .item l, .int .i64 c]], .str b, .tup [.st [.int .i64 n1, .int .i64 n2, .str n3, .own .str n4, .own .node n5]]], K => c52b l c b n1 n2 n3 n4 n5 K
  | _, _ => False
noncomputable def E52 : Ctx := mkE tab [(14, .pure F14), (24, .pure F24), (25, .pure F25), (60, .gen .ln C60)]
noncomputable def O52 : Nat → List DI := ordL []
theorem a52 (s : Sto) (b : Bs) (n : Nd) (hb : BdAs [.st (stC s), .str b, .st (ndC n)]) (K : AV → List AV → Prop) (h : c52 s b n K) : abody E52 O52 .ow Try.f52 (Try.f52.body.getD .skip) [.st (stC s), .str b, .st (ndC n)] K := by
  simp only [BdAs, BdA, BdL, BdC, MX, ndC, shC, itC, stC, opC, chC, nwC, flC, rqC, rsC, enc, List.cons_append, List.nil_append, and_true, true_and] at hb
  unfold c52 at h
  have hK := h
  have h9 : storeM s = true → smS s := storeM_sm
  have h8 : storeM s = true → 0 ≤ s.clock ∧ s.clock ≤ 999 ∧ s.items.length ≤ 10 := storeM_clock
  have h7 : validM n = true → smN n := validM_sm
  conv => whnf
  repeat' first
    | (refine Cnd.mk (fun h => ?_) (fun h => ?_) <;> (try simp [etas, elDef, -List.getD_eq_getElem?_getD] at h) <;> conv => whnf)
    | (refine Obl.mk (by first | omega | rfl | exact inK_byte _ | (simp only [inK, Int.toNat_natCast, etas, elDef] <;> first | omega | grind) | grind [inK]) ?_ <;> conv => whnf)
    | (refine OblG.mk (by conv => whnf
                          repeat (first | (refine Bx.mk ?_) | (intro h; (try simp [etas, elDef, -List.getD_eq_getElem?_getD] at h); conv => whnf))
                          first | omega | rfl | exact inK_byte _ | (simp only [inK, Int.toNat_natCast, etas, elDef] <;> first | omega | grind) | grind [inK]) ?_ <;> conv => whnf)
    | (refine Gd.mk (fun h => ?_) <;> (try simp [etas, elDef, -List.getD_eq_getElem?_getD] at h) <;> conv => whnf)
    | (refine And.intro ?_ ?_ <;> conv => whnf)
    | exact True.intro
    | (intro; conv => whnf)
  · have e : putItemM s b n = none := by grind [putItemM]
    exact leafV hK (by rw [e]; first | rfl | (simp only [optSO, stO, nd_eta, sto_eta, Option.getD_some, Option.isSome_some, Option.getD_none, Option.isSome_none]; first | done | rfl))
  · have e : putItemM s b n = none := by grind [putItemM]
    exact leafV hK (by rw [e]; first | rfl | (simp only [optSO, stO, nd_eta, sto_eta, Option.getD_some, Option.isSome_some, Option.getD_none, Option.isSome_none]; first | done | rfl))
  · have e : putItemM s b n = some (putS s b n) := by grind [putItemM]
    exact leafV hK (by rw [e]; first | rfl | (simp only [optSO, stO, nd_eta, sto_eta, Option.getD_some, Option.isSome_some, Option.getD_none, Option.isSome_none]; first | done | rfl))
theorem a52b (l : List It) (c : Int) (b : Bs) (n1 : Int) (n2 : Int) (n3 : Bs) (n4 : List Bs) (n5 : List Nd) (hb : BdAs [.tup [.st [.own .item l, .int .i64 c]], .str b, .tup [.st [.int .i64 n1, .int .i64 n2, .str n3, .own .str n4, .own .node n5]]]) (K : AV → List AV → Prop) (h : c52b l c b n1 n2 n3 n4 n5 K) : abody E52 O52 .ow Try.f52 (Try.f52.body.getD .skip) [.tup [.st [.own .item l, .int .i64 c]], .str b, .tup [.st [.int .i64 n1, .int .i64 n2, .str n3, .own .str n4, .own .node n5]]] K := by
  simp only [BdAs, BdA, BdL, BdC, MX, ndC, shC, itC, stC, opC, chC, nwC, flC, rqC, rsC, enc, List.cons_append, List.nil_append, and_true, true_and] at hb
  unfold c52b at h
  obtain ⟨hK, hK0⟩ := h
  have h9 : storeM ⟨l, c⟩ = true → smS ⟨l, c⟩ := storeM_sm
  have h8 : storeM ⟨l, c⟩ = true → 0 ≤ c ∧ c ≤ 999 ∧ l.length ≤ 10 := storeM_clock
  have h7 : validM ⟨n1, n2, n3, n4, n5⟩ = true → smN ⟨n1, n2, n3, n4, n5⟩ := validM_sm
  conv => whnf
  repeat' first
    | (refine Cnd.mk (fun h => ?_) (fun h => ?_) <;> (try simp [etas, elDef, -List.getD_eq_getElem?_getD] at h) <;> conv => whnf)
    | (refine Obl.mk (by first | omega | rfl | exact inK_byte _ | (simp only [inK, Int.toNat_natCast, etas, elDef] <;> first | omega | grind) | grind [inK]) ?_ <;> conv => whnf)
    | (refine OblG.mk (by conv => whnf
                          repeat (first | (refine Bx.mk ?_) | (intro h; (try simp [etas, elDef, -List.getD_eq_getElem?_getD] at h); conv => whnf))
                          first | omega | rfl | exact inK_byte _ | (simp only [inK, Int.toNat_natCast, etas, elDef] <;> first | omega | grind) | grind [inK]) ?_ <;> conv => whnf)
    | (refine Gd.mk (fun h => ?_) <;> (try simp [etas, elDef, -List.getD_eq_getElem?_getD] at h) <;> conv => whnf)
    | (refine And.intro ?_ ?_ <;> conv => whnf)
    | exact True.intro
    | (intro; conv => whnf)
  · exact hK0
  · have e : putItemM ⟨l, c⟩ b ⟨n1, n2, n3, n4, n5⟩ = none := by grind [putItemM]
    exact leafV (hK (by grind)) (by rw [e]; first | rfl | (simp only [optSO, stO, nd_eta, sto_eta, Option.getD_some, Option.isSome_some, Option.getD_none, Option.isSome_none]; first | done | rfl))
  · have e : putItemM ⟨l, c⟩ b ⟨n1, n2, n3, n4, n5⟩ = some (putS ⟨l, c⟩ b ⟨n1, n2, n3, n4, n5⟩) := by grind [putItemM]
    exact leafV (hK (by grind)) (by rw [e]; first | rfl | (simp only [optSO, stO, nd_eta, sto_eta, Option.getD_some, Option.isSome_some, Option.getD_none, Option.isSome_none]; first | done | rfl))
theorem s52 : (CtrOK Try.prog 52 (.gen .ln C52) ∧ Callable Try.prog 52) := by
  refine gen_ok (E := E52) (mkE_cons s14 (mkE_cons s24 (mkE_cons s25 (mkE_cons s60 (mkE_nil tab_ok))))) mix (O := O52) (C := C52) (own := .ow) Try.func52 rfl (by rfl) (by kernel_rfl) (fun args K h hbd => ?_)
  unfold C52 at h; split at h
  case h_3 => exact h.elim
  case h_2 => exact ⟨Nat.le_of_ble_eq_true rfl, a52b _ _ _ _ _ _ _ _ (by exact hbd) _ h⟩
  exact ⟨Nat.le_of_ble_eq_true rfl, a52 ⟨_, _⟩ _ ⟨_, _, _, _, _⟩ (by exact hbd) _ h⟩
noncomputable def c40 (s : Sto) (c : Chg) (K : AV → List AV → Prop) : Prop :=
    K (optS (applyM s c)) []
noncomputable def C40 : List AV → (AV → List AV → Prop) → Prop
  | [.st [.ps .item s_0, .int .i64 s_1], .st [.str c_0, .bool c_1, .int .i64 c_2_0, .int .i64 c_2_1, .str c_2_2, .ps .str c_2_3, .ps .node c_2_4]], K => c40 ⟨s_0, s_1⟩ ⟨c_0, c_1, ⟨c_2_0, c_2_1, c_2_2, c_2_3, c_2_4⟩⟩ K
  | _, _ => False
noncomputable def E40 : Ctx := mkE tab [(51, .gen .ln C51), (52, .gen .ln C52)]
noncomputable def O40 : Nat → List DI := ordL []
theorem a40 (s : Sto) (c : Chg) (hb : BdAs [.st (stC s), .st (chC c)]) (K : AV → List AV → Prop) (h : c40 s c K) : abody E40 O40 .ps Try.f40 (Try.f40.body.getD .skip) [.st (stC s), .st (chC c)] K := by
  simp only [BdAs, BdA, BdL, BdC, MX, ndC, shC, itC, stC, opC, chC, nwC, flC, rqC, rsC, enc, List.cons_append, List.nil_append, and_true, true_and] at hb
  unfold c40 at h
  have hK := h
  conv => whnf
  repeat' first
    | (refine Cnd.mk (fun h => ?_) (fun h => ?_) <;> (try simp [etas, elDef, -List.getD_eq_getElem?_getD] at h) <;> conv => whnf)
    | (refine Obl.mk (by first | omega | rfl | exact inK_byte _ | (simp only [inK, Int.toNat_natCast, etas, elDef] <;> first | omega | grind) | grind [inK]) ?_ <;> conv => whnf)
    | (refine OblG.mk (by conv => whnf
                          repeat (first | (refine Bx.mk ?_) | (intro h; (try simp [etas, elDef, -List.getD_eq_getElem?_getD] at h); conv => whnf))
                          first | omega | rfl | exact inK_byte _ | (simp only [inK, Int.toNat_natCast, etas, elDef] <;> first | omega | grind) | grind [inK]) ?_ <;> conv => whnf)
    | (refine Gd.mk (fun h => ?_) <;> (try simp [etas, elDef, -List.getD_eq_getElem?_getD] at h) <;> conv => whnf)
    | (refine And.intro ?_ ?_ <;> conv => whnf)
    | exact True.intro
    | (intro; conv => whnf)
  all_goals exact leafV hK (by simp only [applyM, h, optS]; (try simp only [etas, elDef, Int.toNat_natCast]); (first | done | rfl | simp [optS, stC]))
theorem s40 : (CtrOK Try.prog 40 (.gen .ps C40) ∧ Callable Try.prog 40) := by
  refine gen_ok (E := E40) (mkE_cons s51 (mkE_cons s52 (mkE_nil tab_ok))) mix (O := O40) (C := C40) (own := .ps) Try.func40 rfl (by rfl) (by kernel_rfl) (fun args K h hbd => ?_)
  unfold C40 at h; split at h
  case h_2 => exact h.elim
  exact ⟨Nat.le_of_ble_eq_true rfl, a40 ⟨_, _⟩ ⟨_, _, ⟨_, _, _, _, _⟩⟩ (by exact hbd) _ h⟩
noncomputable def c27 (l : List Chg) (K : AV → List AV → Prop) : Prop :=
    K (optS (replayM l)) []
noncomputable def C27 : List AV → (AV → List AV → Prop) → Prop
  | [.ps .chg l], K => c27 l K
  | _, _ => False
noncomputable def E27 : Ctx := mkE tab [(39, .pure F39), (40, .gen .ps C40)]
noncomputable def O27 : Nat → List DI := ordL [(7, [.q 0, .q 1, .q 2, .q 3, .q 4, .l 5 [], .q 6, .q 7, .q 8, .a 9, .l 10 [], .q 11])]
theorem a27 (l : List Chg) (hb : BdAs [.ps .chg l]) (K : AV → List AV → Prop) (h : c27 l K) : abody E27 O27 .ps Try.f27 (Try.f27.body.getD .skip) [.ps .chg l] K := by
  simp only [BdAs, BdA, BdL, BdC, MX, ndC, shC, itC, stC, opC, chC, nwC, flC, rqC, rsC, enc, List.cons_append, List.nil_append, and_true, true_and] at hb
  unfold c27 at h
  have hK := h
  conv => whnf
  have h00 : (replayM []).isSome = true := rfl
  refine aloop_intro Nat (fun k => k ≤ l.length ∧ (replayM (l.take k)).isSome = true) (fun k => l.length - k) (fun k => [(5, .int .i64 k)]) (fun k => [(4, .box (stC ((replayM (l.take k)).getD ⟨[], 0⟩)))]) [2] 0 [] [8] ?_ ?_ (by exact sgOk_of (by rfl)) ?_
  · first | (simp; done) | (simp; assumption)
  · (conv => whnf); (repeat' (first | exact trivial | rfl | (refine nilEq ?_; first | rfl | (simp only [*]; done) | (simp [*]; done) | grind) | apply And.intro | ((first | refine intEq ?_ | refine boolEq ?_ | refine strEq ?_ | refine psEq ?_ | refine nilEq ?_ | refine arrEq ?_); (try simp only [Int.toNat_natCast, etas, elDef]); first | done | omega | grind | (simp only [*]; done) | (simp [*]; done)))); (all_goals (conv => whnf)); (repeat' (first | exact trivial | rfl | (refine nilEq ?_; first | rfl | (simp only [*]; done) | (simp [*]; done) | grind) | apply And.intro | ((first | refine intEq ?_ | refine boolEq ?_ | refine strEq ?_ | refine psEq ?_ | refine nilEq ?_ | refine arrEq ?_); (try simp only [Int.toNat_natCast, etas, elDef]); first | done | omega | grind | (simp only [*]; done) | (simp [*]; done)) | ((try simp only [Int.toNat_natCast, etas, elDef]); first | done | omega | grind | (simp only [*]; done) | (simp [*]; done))))
  rintro i ⟨hi, hj⟩
  conv => whnf
  have htk := fun h => replayM_take (l := l) (i := i) h
  repeat' first
    | (refine Cnd.mk (fun h => ?_) (fun h => ?_) <;> (try simp [etas, elDef, -List.getD_eq_getElem?_getD] at h) <;> conv => whnf)
    | (refine Obl.mk (by first | omega | rfl | exact inK_byte _ | (simp only [inK, Int.toNat_natCast, etas, elDef] <;> first | omega | grind) | grind [inK]) ?_ <;> conv => whnf)
    | (refine OblG.mk (by conv => whnf
                          repeat (first | (refine Bx.mk ?_) | (intro h; (try simp [etas, elDef, -List.getD_eq_getElem?_getD] at h); conv => whnf))
                          first | omega | rfl | exact inK_byte _ | (simp only [inK, Int.toNat_natCast, etas, elDef] <;> first | omega | grind) | grind [inK]) ?_ <;> conv => whnf)
    | (refine Gd.mk (fun h => ?_) <;> (try simp [etas, elDef, -List.getD_eq_getElem?_getD] at h) <;> conv => whnf)
    | (refine And.intro ?_ ?_ <;> conv => whnf)
    | exact True.intro
    | (intro; conv => whnf)
  · have e1 : replayM (l.take (i + 1)) = none := by
      rw [htk (by assumption)]
      cases hr : replayM (l.take i) with
      | none => rfl
      | some t => simp only [stepM, h]; rfl
    have e := replayM_none e1
    exact leafV hK (by rw [e]; (try simp only [etas, elDef, Int.toNat_natCast]); (first | done | rfl | simp [optS, stC]))
  · have e1 : replayM (l.take (i + 1)) = none := by
      rw [htk (by assumption)]
      cases hr : replayM (l.take i) with
      | none => rfl
      | some t => rw [hr] at h; simp only [stepM]; split <;> first | exact h | rfl
    have e := replayM_none e1
    exact leafV hK (by rw [e]; (try simp only [etas, elDef, Int.toNat_natCast]); (first | done | rfl | simp [optS, stC]))
  · have e1 : replayM (l.take (i + 1)) = applyM ((replayM (l.take i)).getD ⟨[], 0⟩) (l.getD i default) := by
      rw [htk (by assumption)]
      cases hr : replayM (l.take i) with
      | none => rw [hr] at hj; cases hj
      | some t => simp only [stepM, Option.getD_some]; grind
    exact ⟨i + 1, [], [], ⟨by omega, by rw [e1]; exact h⟩, by omega, by (conv => whnf); (repeat' (first | exact trivial | rfl | (refine nilEq ?_; first | rfl | (simp only [*]; done) | (simp [*]; done) | grind) | apply And.intro | ((first | refine intEq ?_ | refine boolEq ?_ | refine strEq ?_ | refine psEq ?_ | refine nilEq ?_ | refine arrEq ?_); (try simp only [Int.toNat_natCast, etas, elDef]); rw [e1]))); (all_goals (conv => whnf)); (repeat' (first | exact trivial | rfl | (refine nilEq ?_; first | rfl | (simp only [*]; done) | (simp [*]; done) | grind) | apply And.intro | ((first | refine intEq ?_ | refine boolEq ?_ | refine strEq ?_ | refine psEq ?_ | refine nilEq ?_ | refine arrEq ?_); (try simp only [Int.toNat_natCast, etas, elDef]); rw [e1]) | ((try simp only [Int.toNat_natCast, etas, elDef]); rw [e1]))), (by exact sgOk_of (by rfl))⟩
  · rw [List.take_of_length_le (by omega)] at hj
    exact leafV hK (by rw [List.take_of_length_le (by omega)]; simp only [optS, hj]; (try simp only [etas, elDef, Int.toNat_natCast]); (first | done | rfl | simp [optS, stC]))
theorem s27 : (CtrOK Try.prog 27 (.gen .ps C27) ∧ Callable Try.prog 27) := by
  refine gen_ok (E := E27) (mkE_cons s39 (mkE_cons s40 (mkE_nil tab_ok))) mix (O := O27) (C := C27) (own := .ps) Try.func27 rfl (by rfl) (by kernel_rfl) (fun args K h hbd => ?_)
  unfold C27 at h; split at h
  case h_2 => exact h.elim
  exact ⟨Nat.le_of_ble_eq_true rfl, a27 _ (by exact hbd) _ h⟩
noncomputable def c15 (l : List Chg) (K : AV → List AV → Prop) : Prop :=
    K (.bool (logM l).isSome) []
noncomputable def C15 : List AV → (AV → List AV → Prop) → Prop
  | [.ps .chg l], K => c15 l K
  | _, _ => False
noncomputable def E15 : Ctx := mkE tab [(27, .gen .ps C27)]
noncomputable def O15 : Nat → List DI := ordL []
theorem a15 (l : List Chg) (hb : BdAs [.ps .chg l]) (K : AV → List AV → Prop) (h : c15 l K) : abody E15 O15 .ps Try.f15 (Try.f15.body.getD .skip) [.ps .chg l] K := by
  simp only [BdAs, BdA, BdL, BdC, MX, ndC, shC, itC, stC, opC, chC, nwC, flC, rqC, rsC, enc, List.cons_append, List.nil_append, and_true, true_and] at hb
  unfold c15 at h
  have hK := h
  conv => whnf
  repeat' first
    | (refine Cnd.mk (fun h => ?_) (fun h => ?_) <;> (try simp [etas, elDef, -List.getD_eq_getElem?_getD] at h) <;> conv => whnf)
    | (refine Obl.mk (by first | omega | rfl | exact inK_byte _ | (simp only [inK, Int.toNat_natCast, etas, elDef] <;> first | omega | grind) | grind [inK]) ?_ <;> conv => whnf)
    | (refine OblG.mk (by conv => whnf
                          repeat (first | (refine Bx.mk ?_) | (intro h; (try simp [etas, elDef, -List.getD_eq_getElem?_getD] at h); conv => whnf))
                          first | omega | rfl | exact inK_byte _ | (simp only [inK, Int.toNat_natCast, etas, elDef] <;> first | omega | grind) | grind [inK]) ?_ <;> conv => whnf)
    | (refine Gd.mk (fun h => ?_) <;> (try simp [etas, elDef, -List.getD_eq_getElem?_getD] at h) <;> conv => whnf)
    | (refine And.intro ?_ ?_ <;> conv => whnf)
    | exact True.intro
    | (intro; conv => whnf)
  · exact leafB hK (by grind [logM])
  · exact leafB hK (by grind [logM])
theorem s15 : (CtrOK Try.prog 15 (.gen .ps C15) ∧ Callable Try.prog 15) := by
  refine gen_ok (E := E15) (mkE_cons s27 (mkE_nil tab_ok)) mix (O := O15) (C := C15) (own := .ps) Try.func15 rfl (by rfl) (by kernel_rfl) (fun args K h hbd => ?_)
  unfold C15 at h; split at h
  case h_2 => exact h.elim
  exact ⟨Nat.le_of_ble_eq_true rfl, a15 _ (by exact hbd) _ h⟩
end Go.Rs

