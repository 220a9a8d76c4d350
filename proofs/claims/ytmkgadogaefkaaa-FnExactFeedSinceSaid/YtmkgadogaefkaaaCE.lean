import Derived.Test.YtmkgadogaefkaaaCD
import Derived.Test.YtmkgadogaefkaaaMB
set_option linter.all false
set_option linter.unusedSimpArgs false
set_option linter.unusedVariables false
namespace Go.Rs
open Go.Proofs
set_option maxRecDepth 100000
noncomputable def c61 (s : Sto) (b : Bs) (n : Nd) (K : AV → List AV → Prop) : Prop :=
    Obl ((smS s ∧ smN n) ∧ 0 ≤ s.clock ∧ s.clock ≤ 10000) (K (.st (stO (putS s b n))) [])
noncomputable def c61b (l : List It) (c : Int) (b : Bs) (n1 : Int) (n2 : Int) (n3 : Bs) (n4 : List Bs) (n5 : List Nd) (K : AV → List AV → Prop) : Prop :=
    Obl ((smS ⟨l, c⟩ ∧ smN ⟨n1, n2, n3, n4, n5⟩) ∧ 0 ≤ c ∧ c ≤ 10000) (K (.st (stO (putS ⟨l, c⟩ b ⟨n1, n2, n3, n4, n5⟩))) [.own .item l, .ps .str n4, .ps .node n5])
noncomputable def C61 : List AV → (AV → List AV → Prop) → Prop
  | [.st [.ps .item s_0, .int .i64 s_1], .str b, .st [.int .i64 n_0, .int .i64 n_1, .str n_2, .ps .str n_3, .ps .node n_4]], K => c61 ⟨s_0, s_1⟩ b ⟨n_0, n_1, n_2, n_3, n_4⟩ K
  | [.tup [.st [.own .item l, .int .i64 c]], .str b, .tup [.st [.int .i64 n1, .int .i64 n2, .str n3, .own .str n4, .own .node n5]]], K => c61b l c b n1 n2 n3 n4 n5 K
  | _, _ => False
noncomputable def E61 : Ctx := mkE tab [(48, .gen .ps C48), (59, .gen .ln C59)]
noncomputable def O61 : Nat → List DI := ordL [(2, [.q 0, .q 1, .q 2, .q 3, .q 4, .l 5 [2], .q 6, .a 7, .l 8 []])]
theorem a61 (s : Sto) (b : Bs) (n : Nd) (hb : BdAs [.st (stC s), .str b, .st (ndC n)]) (K : AV → List AV → Prop) (h : c61 s b n K) : abody E61 O61 .ow Try.f61 (Try.f61.body.getD .skip) [.st (stC s), .str b, .st (ndC n)] K := by
  simp only [BdAs, BdA, BdL, BdC, MX, ndC, shC, itC, stC, opC, chC, nwC, flC, rqC, rsC, enc, List.cons_append, List.nil_append, and_true, true_and] at hb
  unfold c61 at h
  obtain ⟨⟨⟨hs, hn⟩, hc⟩, hK⟩ := h
  have h3 := hs.1
  conv => whnf
  repeat' first|(refine Cnd.mk (fun h=>?_) (fun h=>?_)<;>(try simp [etas,elDef,-List.getD_eq_getElem?_getD] at h)<;>conv=>whnf)|(refine Obl.mk (by first|omega|rfl|exact inK_byte _|(simp only [inK,Int.toNat_natCast,etas,elDef,m48]<;>first|omega|grind)|grind [inK,m48]) ?_<;>conv=>whnf)|(refine OblG.mk (by ((conv=>whnf);(repeat (first|(refine Bx.mk ?_)|(intro h;(try simp [etas,elDef,-List.getD_eq_getElem?_getD] at h);conv=>whnf)));(first|omega|rfl|exact inK_byte _|(simp only [inK,Int.toNat_natCast,etas,elDef,m48]<;>first|omega|grind)|grind [inK,m48]))) ?_<;>conv=>whnf)|(refine Gd.mk (fun h=>?_)<;>(try simp [etas,elDef,-List.getD_eq_getElem?_getD] at h)<;>conv=>whnf)|(refine And.intro ?_ ?_<;>conv=>whnf)|exact True.intro|(intro;conv=>whnf)
  refine aloop_intro Nat (fun k => k ≤ s.items.length ∧ True) (fun k => s.items.length - k) (fun k => [(11, .int .i64 k), (7, .ls 900), (10, .bool (putF ⟨b, s.clock + 1, n⟩ (s.items.take k)).2)]) (fun k => [(900, .arr .item (putF ⟨b, s.clock + 1, n⟩ (s.items.take k)).1)]) [3, 5, 6, 8] 0 [(900, 12)] [] ?_ ?_ (by exact sgOk_of (by rfl)) ?_
  · first | (simp; done) | (simp; assumption)
  · iterate 2 ((all_goals (conv=>whnf));(repeat' (first|exact trivial|rfl|(refine nilEq ?_;first|rfl|(simp only [*];done)|(simp [*];done)|grind)|apply And.intro|((first|refine intEq ?_|refine boolEq ?_|refine strEq ?_|refine psEq ?_|refine nilEq ?_|refine arrEq ?_);(try simp only [Int.toNat_natCast,etas,elDef]);first | done | omega | grind | (simp only [*]; done) | (simp [*]; done)))));(all_goals ((try simp only [Int.toNat_natCast,etas,elDef]);first | done | omega | grind | (simp only [*]; done) | (simp [*]; done)))
  rintro i ⟨hi, hj⟩
  conv => whnf
  have hlen := putF_len ⟨b, s.clock + 1, n⟩ s.items i
  have htk := fun h => putF_take (it := ⟨b, s.clock + 1, n⟩) (l := s.items) (i := i) h
  repeat' first|(refine Cnd.mk (fun h=>?_) (fun h=>?_)<;>(try simp [etas,elDef,-List.getD_eq_getElem?_getD] at h)<;>conv=>whnf)|(refine Obl.mk (by first|omega|rfl|exact inK_byte _|(simp only [inK,Int.toNat_natCast,etas,elDef,m48]<;>first|omega|grind)|grind [inK,m48]) ?_<;>conv=>whnf)|(refine OblG.mk (by ((conv=>whnf);(repeat (first|(refine Bx.mk ?_)|(intro h;(try simp [etas,elDef,-List.getD_eq_getElem?_getD] at h);conv=>whnf)));(first|omega|rfl|exact inK_byte _|(simp only [inK,Int.toNat_natCast,etas,elDef,m48]<;>first|omega|grind)|grind [inK,m48]))) ?_<;>conv=>whnf)|(refine Gd.mk (fun h=>?_)<;>(try simp [etas,elDef,-List.getD_eq_getElem?_getD] at h)<;>conv=>whnf)|(refine And.intro ?_ ?_<;>conv=>whnf)|exact True.intro|(intro;conv=>whnf)
  · exact ⟨i + 1, [(900, 57)], [], ⟨by omega, by grind⟩, by omega, by iterate 2 ((all_goals (conv=>whnf));(repeat' (first|exact trivial|rfl|(refine nilEq ?_;first|rfl|(simp only [*];done)|(simp [*];done)|grind)|apply And.intro|((first|refine intEq ?_|refine boolEq ?_|refine strEq ?_|refine psEq ?_|refine nilEq ?_|refine arrEq ?_);(try simp only [Int.toNat_natCast,etas,elDef]);grind [putStep]))));(all_goals ((try simp only [Int.toNat_natCast,etas,elDef]);grind [putStep])), (by exact sgOk_of (by rfl))⟩
  · exact ⟨i + 1, [(900, 43)], [], ⟨by omega, by grind⟩, by omega, by iterate 2 ((all_goals (conv=>whnf));(repeat' (first|exact trivial|rfl|(refine nilEq ?_;first|rfl|(simp only [*];done)|(simp [*];done)|grind)|apply And.intro|((first|refine intEq ?_|refine boolEq ?_|refine strEq ?_|refine psEq ?_|refine nilEq ?_|refine arrEq ?_);(try simp only [Int.toNat_natCast,etas,elDef]);grind [putStep]))));(all_goals ((try simp only [Int.toNat_natCast,etas,elDef]);grind [putStep])), (by exact sgOk_of (by rfl))⟩
  · exact ⟨i + 1, [(900, 57)], [], ⟨by omega, by grind⟩, by omega, by iterate 2 ((all_goals (conv=>whnf));(repeat' (first|exact trivial|rfl|(refine nilEq ?_;first|rfl|(simp only [*];done)|(simp [*];done)|grind)|apply And.intro|((first|refine intEq ?_|refine boolEq ?_|refine strEq ?_|refine psEq ?_|refine nilEq ?_|refine arrEq ?_);(try simp only [Int.toNat_natCast,etas,elDef]);grind [putStep]))));(all_goals ((try simp only [Int.toNat_natCast,etas,elDef]);grind [putStep])), (by exact sgOk_of (by rfl))⟩
  · exact ⟨i + 1, [], [], ⟨by omega, by grind⟩, by omega, by iterate 2 ((all_goals (conv=>whnf));(repeat' (first|exact trivial|rfl|(refine nilEq ?_;first|rfl|(simp only [*];done)|(simp [*];done)|grind)|apply And.intro|((first|refine intEq ?_|refine boolEq ?_|refine strEq ?_|refine psEq ?_|refine nilEq ?_|refine arrEq ?_);(try simp only [Int.toNat_natCast,etas,elDef]);grind [putStep]))));(all_goals ((try simp only [Int.toNat_natCast,etas,elDef]);grind [putStep])), (by exact sgOk_of (by rfl))⟩
  all_goals
    have e := putF_end ⟨b, s.clock + 1, n⟩ s.items
    have e1 : s.items.take i = s.items := List.take_of_length_le (by omega)
    rw [e1] at h
    rw [h] at e
    exact leafV hK (by simp only [stO, putS, ← e, e1, nd_eta]; simp)
theorem a61b (l : List It) (c : Int) (b : Bs) (n1 : Int) (n2 : Int) (n3 : Bs) (n4 : List Bs) (n5 : List Nd) (hb : BdAs [.tup [.st [.own .item l, .int .i64 c]], .str b, .tup [.st [.int .i64 n1, .int .i64 n2, .str n3, .own .str n4, .own .node n5]]]) (K : AV → List AV → Prop) (h : c61b l c b n1 n2 n3 n4 n5 K) : abody E61 O61 .ow Try.f61 (Try.f61.body.getD .skip) [.tup [.st [.own .item l, .int .i64 c]], .str b, .tup [.st [.int .i64 n1, .int .i64 n2, .str n3, .own .str n4, .own .node n5]]] K := by
  simp only [BdAs, BdA, BdL, BdC, MX, ndC, shC, itC, stC, opC, chC, nwC, flC, rqC, rsC, enc, List.cons_append, List.nil_append, and_true, true_and] at hb
  unfold c61b at h
  obtain ⟨⟨⟨hs, hn⟩, hc⟩, hK⟩ := h
  have h3 := hs.1
  simp only at h3
  conv => whnf
  repeat' first|(refine Cnd.mk (fun h=>?_) (fun h=>?_)<;>(try simp [etas,elDef,-List.getD_eq_getElem?_getD] at h)<;>conv=>whnf)|(refine Obl.mk (by first|omega|rfl|exact inK_byte _|(simp only [inK,Int.toNat_natCast,etas,elDef,m48]<;>first|omega|grind)|grind [inK,m48]) ?_<;>conv=>whnf)|(refine OblG.mk (by ((conv=>whnf);(repeat (first|(refine Bx.mk ?_)|(intro h;(try simp [etas,elDef,-List.getD_eq_getElem?_getD] at h);conv=>whnf)));(first|omega|rfl|exact inK_byte _|(simp only [inK,Int.toNat_natCast,etas,elDef,m48]<;>first|omega|grind)|grind [inK,m48]))) ?_<;>conv=>whnf)|(refine Gd.mk (fun h=>?_)<;>(try simp [etas,elDef,-List.getD_eq_getElem?_getD] at h)<;>conv=>whnf)|(refine And.intro ?_ ?_<;>conv=>whnf)|exact True.intro|(intro;conv=>whnf)
  refine aloop_intro Nat (fun k => k ≤ l.length ∧ True) (fun k => l.length - k) (fun k => [(11, .int .i64 k), (7, .ls 900), (10, .bool (putF ⟨b, c + 1, ⟨n1, n2, n3, n4, n5⟩⟩ (l.take k)).2)]) (fun k => [(900, .arr .item (putF ⟨b, c + 1, ⟨n1, n2, n3, n4, n5⟩⟩ (l.take k)).1)]) [3, 5, 6, 8, 1000000, 3000000, 3000001] 0 [(900, 12)] [] ?_ ?_ (by exact sgOk_of (by rfl)) ?_
  · first | (simp; done) | (simp; assumption)
  · iterate 2 ((all_goals (conv=>whnf));(repeat' (first|exact trivial|rfl|(refine nilEq ?_;first|rfl|(simp only [*];done)|(simp [*];done)|grind)|apply And.intro|((first|refine intEq ?_|refine boolEq ?_|refine strEq ?_|refine psEq ?_|refine nilEq ?_|refine arrEq ?_);(try simp only [Int.toNat_natCast,etas,elDef]);first | done | omega | grind | (simp only [*]; done) | (simp [*]; done)))));(all_goals ((try simp only [Int.toNat_natCast,etas,elDef]);first | done | omega | grind | (simp only [*]; done) | (simp [*]; done)))
  rintro i ⟨hi, hj⟩
  conv => whnf
  have hlen := putF_len ⟨b, c + 1, ⟨n1, n2, n3, n4, n5⟩⟩ l i
  have htk := fun h => putF_take (it := ⟨b, c + 1, ⟨n1, n2, n3, n4, n5⟩⟩) (l := l) (i := i) h
  repeat' first|(refine Cnd.mk (fun h=>?_) (fun h=>?_)<;>(try simp [etas,elDef,-List.getD_eq_getElem?_getD] at h)<;>conv=>whnf)|(refine Obl.mk (by first|omega|rfl|exact inK_byte _|(simp only [inK,Int.toNat_natCast,etas,elDef,m48]<;>first|omega|grind)|grind [inK,m48]) ?_<;>conv=>whnf)|(refine OblG.mk (by ((conv=>whnf);(repeat (first|(refine Bx.mk ?_)|(intro h;(try simp [etas,elDef,-List.getD_eq_getElem?_getD] at h);conv=>whnf)));(first|omega|rfl|exact inK_byte _|(simp only [inK,Int.toNat_natCast,etas,elDef,m48]<;>first|omega|grind)|grind [inK,m48]))) ?_<;>conv=>whnf)|(refine Gd.mk (fun h=>?_)<;>(try simp [etas,elDef,-List.getD_eq_getElem?_getD] at h)<;>conv=>whnf)|(refine And.intro ?_ ?_<;>conv=>whnf)|exact True.intro|(intro;conv=>whnf)
  · exact ⟨i + 1, [(900, 57)], [], ⟨by omega, by grind⟩, by omega, by iterate 2 ((all_goals (conv=>whnf));(repeat' (first|exact trivial|rfl|(refine nilEq ?_;first|rfl|(simp only [*];done)|(simp [*];done)|grind)|apply And.intro|((first|refine intEq ?_|refine boolEq ?_|refine strEq ?_|refine psEq ?_|refine nilEq ?_|refine arrEq ?_);(try simp only [Int.toNat_natCast,etas,elDef]);grind [putStep]))));(all_goals ((try simp only [Int.toNat_natCast,etas,elDef]);grind [putStep])), (by exact sgOk_of (by rfl))⟩
  · exact ⟨i + 1, [(900, 43)], [], ⟨by omega, by grind⟩, by omega, by iterate 2 ((all_goals (conv=>whnf));(repeat' (first|exact trivial|rfl|(refine nilEq ?_;first|rfl|(simp only [*];done)|(simp [*];done)|grind)|apply And.intro|((first|refine intEq ?_|refine boolEq ?_|refine strEq ?_|refine psEq ?_|refine nilEq ?_|refine arrEq ?_);(try simp only [Int.toNat_natCast,etas,elDef]);grind [putStep]))));(all_goals ((try simp only [Int.toNat_natCast,etas,elDef]);grind [putStep])), (by exact sgOk_of (by rfl))⟩
  · exact ⟨i + 1, [(900, 57)], [], ⟨by omega, by grind⟩, by omega, by iterate 2 ((all_goals (conv=>whnf));(repeat' (first|exact trivial|rfl|(refine nilEq ?_;first|rfl|(simp only [*];done)|(simp [*];done)|grind)|apply And.intro|((first|refine intEq ?_|refine boolEq ?_|refine strEq ?_|refine psEq ?_|refine nilEq ?_|refine arrEq ?_);(try simp only [Int.toNat_natCast,etas,elDef]);grind [putStep]))));(all_goals ((try simp only [Int.toNat_natCast,etas,elDef]);grind [putStep])), (by exact sgOk_of (by rfl))⟩
  · exact ⟨i + 1, [], [], ⟨by omega, by grind⟩, by omega, by iterate 2 ((all_goals (conv=>whnf));(repeat' (first|exact trivial|rfl|(refine nilEq ?_;first|rfl|(simp only [*];done)|(simp [*];done)|grind)|apply And.intro|((first|refine intEq ?_|refine boolEq ?_|refine strEq ?_|refine psEq ?_|refine nilEq ?_|refine arrEq ?_);(try simp only [Int.toNat_natCast,etas,elDef]);grind [putStep]))));(all_goals ((try simp only [Int.toNat_natCast,etas,elDef]);grind [putStep])), (by exact sgOk_of (by rfl))⟩
  all_goals
    have e := putF_end ⟨b, c + 1, ⟨n1, n2, n3, n4, n5⟩⟩ l
    have e1 : l.take i = l := List.take_of_length_le (by omega)
    rw [e1] at h
    rw [h] at e
    exact leafV hK (by simp only [stO, putS, ← e, e1, nd_eta]; simp)
theorem s61 : (CtrOK Try.prog 61 (.gen .ln C61) ∧ Callable Try.prog 61) := by
  refine gen_ok (E := E61) (mkE_cons s48 (mkE_cons s59 (mkE_nil tab_ok))) mix (O := O61) (C := C61) (own := .ow) Try.func61 rfl (by rfl) (by kernel_rfl) (fun args K h hbd => ?_)
  unfold C61 at h; split at h
  case h_3 => exact h.elim
  case h_2 => exact ⟨Nat.le_of_ble_eq_true rfl, a61b _ _ _ _ _ _ _ _ (by exact hbd) _ h⟩
  exact ⟨Nat.le_of_ble_eq_true rfl, a61 ⟨_, _⟩ _ ⟨_, _, _, _, _⟩ (by exact hbd) _ h⟩
noncomputable def c97 (s : Sto) (b : Bs) (K : AV → List AV → Prop) : Prop :=
    K (optSO (dropItemM s b)) []
noncomputable def c97b (l : List It) (c : Int) (b : Bs) (K : AV → List AV → Prop) : Prop :=
    K (optSO (dropItemM ⟨l, c⟩ b)) [.own .item l]
noncomputable def C97 : List AV → (AV → List AV → Prop) → Prop
  | [.st [.ps .item s_0, .int .i64 s_1], .str b], K => c97 ⟨s_0, s_1⟩ b K
  | [.tup [.st [.own .item l, .int .i64 c]], .str b], K => c97b l c b K
  | _, _ => False
noncomputable def E97 : Ctx := mkE tab [(25, .pure F25), (60, .gen .ln C60), (104, .pure F104)]
noncomputable def O97 : Nat → List DI := ordL []
theorem a97 (s : Sto) (b : Bs) (hb : BdAs [.st (stC s), .str b]) (K : AV → List AV → Prop) (h : c97 s b K) : abody E97 O97 .ow Try.f97 (Try.f97.body.getD .skip) [.st (stC s), .str b] K := by
  simp only [BdAs, BdA, BdL, BdC, MX, ndC, shC, itC, stC, opC, chC, nwC, flC, rqC, rsC, enc, List.cons_append, List.nil_append, and_true, true_and] at hb
  unfold c97 at h
  have hK := h
  have h9 : storeM s = true → smS s := storeM_sm
  have h8 : storeM s = true → 0 ≤ s.clock ∧ s.clock ≤ 999 ∧ s.items.length ≤ 10 := storeM_clock
  conv => whnf
  repeat' first|(refine Cnd.mk (fun h=>?_) (fun h=>?_)<;>(try simp [etas,elDef,-List.getD_eq_getElem?_getD] at h)<;>conv=>whnf)|(refine Obl.mk (by first|omega|rfl|exact inK_byte _|(simp only [inK,Int.toNat_natCast,etas,elDef]<;>first|omega|grind)|grind [inK]) ?_<;>conv=>whnf)|(refine OblG.mk (by ((conv=>whnf);(repeat (first|(refine Bx.mk ?_)|(intro h;(try simp [etas,elDef,-List.getD_eq_getElem?_getD] at h);conv=>whnf)));(first|omega|rfl|exact inK_byte _|(simp only [inK,Int.toNat_natCast,etas,elDef]<;>first|omega|grind)|grind [inK]))) ?_<;>conv=>whnf)|(refine Gd.mk (fun h=>?_)<;>(try simp [etas,elDef,-List.getD_eq_getElem?_getD] at h)<;>conv=>whnf)|(refine And.intro ?_ ?_<;>conv=>whnf)|exact True.intro|(intro;conv=>whnf)
  · have e : dropItemM s b = none := by grind [dropItemM]
    exact leafV hK (by rw [e]; first | rfl | (simp only [optSO, stO, nd_eta, sto_eta, Option.getD_some, Option.isSome_some, Option.getD_none, Option.isSome_none]; first | done | rfl))
  · have e : dropItemM s b = some (dropS s b) := by grind [dropItemM]
    exact leafV hK (by rw [e]; first | rfl | (simp only [optSO, stO, nd_eta, sto_eta, Option.getD_some, Option.isSome_some, Option.getD_none, Option.isSome_none]; first | done | rfl))
theorem a97b (l : List It) (c : Int) (b : Bs) (hb : BdAs [.tup [.st [.own .item l, .int .i64 c]], .str b]) (K : AV → List AV → Prop) (h : c97b l c b K) : abody E97 O97 .ow Try.f97 (Try.f97.body.getD .skip) [.tup [.st [.own .item l, .int .i64 c]], .str b] K := by
  simp only [BdAs, BdA, BdL, BdC, MX, ndC, shC, itC, stC, opC, chC, nwC, flC, rqC, rsC, enc, List.cons_append, List.nil_append, and_true, true_and] at hb
  unfold c97b at h
  have hK := h
  have h9 : storeM ⟨l, c⟩ = true → smS ⟨l, c⟩ := storeM_sm
  have h8 : storeM ⟨l, c⟩ = true → 0 ≤ c ∧ c ≤ 999 ∧ l.length ≤ 10 := storeM_clock
  conv => whnf
  repeat' first|(refine Cnd.mk (fun h=>?_) (fun h=>?_)<;>(try simp [etas,elDef,-List.getD_eq_getElem?_getD] at h)<;>conv=>whnf)|(refine Obl.mk (by first|omega|rfl|exact inK_byte _|(simp only [inK,Int.toNat_natCast,etas,elDef]<;>first|omega|grind)|grind [inK]) ?_<;>conv=>whnf)|(refine OblG.mk (by ((conv=>whnf);(repeat (first|(refine Bx.mk ?_)|(intro h;(try simp [etas,elDef,-List.getD_eq_getElem?_getD] at h);conv=>whnf)));(first|omega|rfl|exact inK_byte _|(simp only [inK,Int.toNat_natCast,etas,elDef]<;>first|omega|grind)|grind [inK]))) ?_<;>conv=>whnf)|(refine Gd.mk (fun h=>?_)<;>(try simp [etas,elDef,-List.getD_eq_getElem?_getD] at h)<;>conv=>whnf)|(refine And.intro ?_ ?_<;>conv=>whnf)|exact True.intro|(intro;conv=>whnf)
  · have e : dropItemM ⟨l, c⟩ b = none := by grind [dropItemM]
    exact leafV hK (by rw [e]; first | rfl | (simp only [optSO, stO, nd_eta, sto_eta, Option.getD_some, Option.isSome_some, Option.getD_none, Option.isSome_none]; first | done | rfl))
  · have e : dropItemM ⟨l, c⟩ b = some (dropS ⟨l, c⟩ b) := by grind [dropItemM]
    exact leafV hK (by rw [e]; first | rfl | (simp only [optSO, stO, nd_eta, sto_eta, Option.getD_some, Option.isSome_some, Option.getD_none, Option.isSome_none]; first | done | rfl))
theorem s97 : (CtrOK Try.prog 97 (.gen .ln C97) ∧ Callable Try.prog 97) := by
  refine gen_ok (E := E97) (mkE_cons s25 (mkE_cons s60 (mkE_cons s104 (mkE_nil tab_ok)))) mix (O := O97) (C := C97) (own := .ow) Try.func97 rfl (by rfl) (by kernel_rfl) (fun args K h hbd => ?_)
  unfold C97 at h; split at h
  case h_3 => exact h.elim
  case h_2 => exact ⟨Nat.le_of_ble_eq_true rfl, a97b _ _ _ (by exact hbd) _ h⟩
  exact ⟨Nat.le_of_ble_eq_true rfl, a97 ⟨_, _⟩ _ (by exact hbd) _ h⟩
noncomputable def c98 (s : Sto) (b : Bs) (n : Nd) (K : AV → List AV → Prop) : Prop :=
    K (optSO (putItemM s b n)) []
noncomputable def c98b (l : List It) (c : Int) (b : Bs) (n1 : Int) (n2 : Int) (n3 : Bs) (n4 : List Bs) (n5 : List Nd) (K : AV → List AV → Prop) : Prop :=
    (storeM ⟨l, c⟩ = true ∧ nameM b = true ∧ validM ⟨n1, n2, n3, n4, n5⟩ = true → K (optSO (putItemM ⟨l, c⟩ b ⟨n1, n2, n3, n4, n5⟩)) [.own .item l, .ps .str n4, .ps .node n5]) ∧ K (optSO none) [.own .item l, .own .str n4, .own .node n5]
noncomputable def C98 : List AV → (AV → List AV → Prop) → Prop
  | [.st [.ps .item s_0, .int .i64 s_1], .str b, .st [.int .i64 n_0, .int .i64 n_1, .str n_2, .ps .str n_3, .ps .node n_4]], K => c98 ⟨s_0, s_1⟩ b ⟨n_0, n_1, n_2, n_3, n_4⟩ K
  | [.tup [.st [.own .item l, .int .i64 c]], .str b, .tup [.st [.int .i64 n1, .int .i64 n2, .str n3, .own .str n4, .own .node n5]]], K => c98b l c b n1 n2 n3 n4 n5 K
  | _, _ => False
noncomputable def E98 : Ctx := mkE tab [(25, .pure F25), (56, .pure F56), (57, .pure F57), (61, .gen .ln C61)]
noncomputable def O98 : Nat → List DI := ordL []
theorem a98 (s : Sto) (b : Bs) (n : Nd) (hb : BdAs [.st (stC s), .str b, .st (ndC n)]) (K : AV → List AV → Prop) (h : c98 s b n K) : abody E98 O98 .ow Try.f98 (Try.f98.body.getD .skip) [.st (stC s), .str b, .st (ndC n)] K := by
  simp only [BdAs, BdA, BdL, BdC, MX, ndC, shC, itC, stC, opC, chC, nwC, flC, rqC, rsC, enc, List.cons_append, List.nil_append, and_true, true_and] at hb
  unfold c98 at h
  have hK := h
  have h9 : storeM s = true → smS s := storeM_sm
  have h8 : storeM s = true → 0 ≤ s.clock ∧ s.clock ≤ 999 ∧ s.items.length ≤ 10 := storeM_clock
  have h7 : validM n = true → smN n := validM_sm
  conv => whnf
  repeat' first|(refine Cnd.mk (fun h=>?_) (fun h=>?_)<;>(try simp [etas,elDef,-List.getD_eq_getElem?_getD] at h)<;>conv=>whnf)|(refine Obl.mk (by first|omega|rfl|exact inK_byte _|(simp only [inK,Int.toNat_natCast,etas,elDef]<;>first|omega|grind)|grind [inK]) ?_<;>conv=>whnf)|(refine OblG.mk (by ((conv=>whnf);(repeat (first|(refine Bx.mk ?_)|(intro h;(try simp [etas,elDef,-List.getD_eq_getElem?_getD] at h);conv=>whnf)));(first|omega|rfl|exact inK_byte _|(simp only [inK,Int.toNat_natCast,etas,elDef]<;>first|omega|grind)|grind [inK]))) ?_<;>conv=>whnf)|(refine Gd.mk (fun h=>?_)<;>(try simp [etas,elDef,-List.getD_eq_getElem?_getD] at h)<;>conv=>whnf)|(refine And.intro ?_ ?_<;>conv=>whnf)|exact True.intro|(intro;conv=>whnf)
  · have e : putItemM s b n = none := by grind [putItemM]
    exact leafV hK (by rw [e]; first | rfl | (simp only [optSO, stO, nd_eta, sto_eta, Option.getD_some, Option.isSome_some, Option.getD_none, Option.isSome_none]; first | done | rfl))
  · have e : putItemM s b n = none := by grind [putItemM]
    exact leafV hK (by rw [e]; first | rfl | (simp only [optSO, stO, nd_eta, sto_eta, Option.getD_some, Option.isSome_some, Option.getD_none, Option.isSome_none]; first | done | rfl))
  · have e : putItemM s b n = some (putS s b n) := by grind [putItemM]
    exact leafV hK (by rw [e]; first | rfl | (simp only [optSO, stO, nd_eta, sto_eta, Option.getD_some, Option.isSome_some, Option.getD_none, Option.isSome_none]; first | done | rfl))
theorem a98b (l : List It) (c : Int) (b : Bs) (n1 : Int) (n2 : Int) (n3 : Bs) (n4 : List Bs) (n5 : List Nd) (hb : BdAs [.tup [.st [.own .item l, .int .i64 c]], .str b, .tup [.st [.int .i64 n1, .int .i64 n2, .str n3, .own .str n4, .own .node n5]]]) (K : AV → List AV → Prop) (h : c98b l c b n1 n2 n3 n4 n5 K) : abody E98 O98 .ow Try.f98 (Try.f98.body.getD .skip) [.tup [.st [.own .item l, .int .i64 c]], .str b, .tup [.st [.int .i64 n1, .int .i64 n2, .str n3, .own .str n4, .own .node n5]]] K := by
  simp only [BdAs, BdA, BdL, BdC, MX, ndC, shC, itC, stC, opC, chC, nwC, flC, rqC, rsC, enc, List.cons_append, List.nil_append, and_true, true_and] at hb
  unfold c98b at h
  obtain ⟨hK, hK0⟩ := h
  have h9 : storeM ⟨l, c⟩ = true → smS ⟨l, c⟩ := storeM_sm
  have h8 : storeM ⟨l, c⟩ = true → 0 ≤ c ∧ c ≤ 999 ∧ l.length ≤ 10 := storeM_clock
  have h7 : validM ⟨n1, n2, n3, n4, n5⟩ = true → smN ⟨n1, n2, n3, n4, n5⟩ := validM_sm
  conv => whnf
  repeat' first|(refine Cnd.mk (fun h=>?_) (fun h=>?_)<;>(try simp [etas,elDef,-List.getD_eq_getElem?_getD] at h)<;>conv=>whnf)|(refine Obl.mk (by first|omega|rfl|exact inK_byte _|(simp only [inK,Int.toNat_natCast,etas,elDef]<;>first|omega|grind)|grind [inK]) ?_<;>conv=>whnf)|(refine OblG.mk (by ((conv=>whnf);(repeat (first|(refine Bx.mk ?_)|(intro h;(try simp [etas,elDef,-List.getD_eq_getElem?_getD] at h);conv=>whnf)));(first|omega|rfl|exact inK_byte _|(simp only [inK,Int.toNat_natCast,etas,elDef]<;>first|omega|grind)|grind [inK]))) ?_<;>conv=>whnf)|(refine Gd.mk (fun h=>?_)<;>(try simp [etas,elDef,-List.getD_eq_getElem?_getD] at h)<;>conv=>whnf)|(refine And.intro ?_ ?_<;>conv=>whnf)|exact True.intro|(intro;conv=>whnf)
  · exact hK0
  · have e : putItemM ⟨l, c⟩ b ⟨n1, n2, n3, n4, n5⟩ = none := by grind [putItemM]
    exact leafV (hK (by grind)) (by rw [e]; first | rfl | (simp only [optSO, stO, nd_eta, sto_eta, Option.getD_some, Option.isSome_some, Option.getD_none, Option.isSome_none]; first | done | rfl))
  · have e : putItemM ⟨l, c⟩ b ⟨n1, n2, n3, n4, n5⟩ = some (putS ⟨l, c⟩ b ⟨n1, n2, n3, n4, n5⟩) := by grind [putItemM]
    exact leafV (hK (by grind)) (by rw [e]; first | rfl | (simp only [optSO, stO, nd_eta, sto_eta, Option.getD_some, Option.isSome_some, Option.getD_none, Option.isSome_none]; first | done | rfl))
theorem s98 : (CtrOK Try.prog 98 (.gen .ln C98) ∧ Callable Try.prog 98) := by
  refine gen_ok (E := E98) (mkE_cons s25 (mkE_cons s56 (mkE_cons s57 (mkE_cons s61 (mkE_nil tab_ok))))) mix (O := O98) (C := C98) (own := .ow) Try.func98 rfl (by rfl) (by kernel_rfl) (fun args K h hbd => ?_)
  unfold C98 at h; split at h
  case h_3 => exact h.elim
  case h_2 => exact ⟨Nat.le_of_ble_eq_true rfl, a98b _ _ _ _ _ _ _ _ (by exact hbd) _ h⟩
  exact ⟨Nat.le_of_ble_eq_true rfl, a98 ⟨_, _⟩ _ ⟨_, _, _, _, _⟩ (by exact hbd) _ h⟩
noncomputable def c89 (s : Sto) (c : Chg) (K : AV → List AV → Prop) : Prop :=
    K (optS (applyM s c)) []
noncomputable def C89 : List AV → (AV → List AV → Prop) → Prop
  | [.st [.ps .item s_0, .int .i64 s_1], .st [.str c_0, .bool c_1, .int .i64 c_2_0, .int .i64 c_2_1, .str c_2_2, .ps .str c_2_3, .ps .node c_2_4]], K => c89 ⟨s_0, s_1⟩ ⟨c_0, c_1, ⟨c_2_0, c_2_1, c_2_2, c_2_3, c_2_4⟩⟩ K
  | _, _ => False
noncomputable def E89 : Ctx := mkE tab [(97, .gen .ln C97), (98, .gen .ln C98)]
noncomputable def O89 : Nat → List DI := ordL []
theorem a89 (s : Sto) (c : Chg) (hb : BdAs [.st (stC s), .st (chC c)]) (K : AV → List AV → Prop) (h : c89 s c K) : abody E89 O89 .ps Try.f89 (Try.f89.body.getD .skip) [.st (stC s), .st (chC c)] K := by
  simp only [BdAs, BdA, BdL, BdC, MX, ndC, shC, itC, stC, opC, chC, nwC, flC, rqC, rsC, enc, List.cons_append, List.nil_append, and_true, true_and] at hb
  unfold c89 at h
  have hK := h
  conv => whnf
  repeat' first|(refine Cnd.mk (fun h=>?_) (fun h=>?_)<;>(try simp [etas,elDef,-List.getD_eq_getElem?_getD] at h)<;>conv=>whnf)|(refine Obl.mk (by first|omega|rfl|exact inK_byte _|(simp only [inK,Int.toNat_natCast,etas,elDef]<;>first|omega|grind)|grind [inK]) ?_<;>conv=>whnf)|(refine OblG.mk (by ((conv=>whnf);(repeat (first|(refine Bx.mk ?_)|(intro h;(try simp [etas,elDef,-List.getD_eq_getElem?_getD] at h);conv=>whnf)));(first|omega|rfl|exact inK_byte _|(simp only [inK,Int.toNat_natCast,etas,elDef]<;>first|omega|grind)|grind [inK]))) ?_<;>conv=>whnf)|(refine Gd.mk (fun h=>?_)<;>(try simp [etas,elDef,-List.getD_eq_getElem?_getD] at h)<;>conv=>whnf)|(refine And.intro ?_ ?_<;>conv=>whnf)|exact True.intro|(intro;conv=>whnf)
  all_goals exact leafV hK (by simp only [applyM, h, optS]; (try simp only [etas, elDef, Int.toNat_natCast]); (first | done | rfl | simp [optS, stC]))
theorem s89 : (CtrOK Try.prog 89 (.gen .ps C89) ∧ Callable Try.prog 89) := by
  refine gen_ok (E := E89) (mkE_cons s97 (mkE_cons s98 (mkE_nil tab_ok))) mix (O := O89) (C := C89) (own := .ps) Try.func89 rfl (by rfl) (by kernel_rfl) (fun args K h hbd => ?_)
  unfold C89 at h; split at h
  case h_2 => exact h.elim
  exact ⟨Nat.le_of_ble_eq_true rfl, a89 ⟨_, _⟩ ⟨_, _, ⟨_, _, _, _, _⟩⟩ (by exact hbd) _ h⟩
noncomputable def c74 (l : List Chg) (K : AV → List AV → Prop) : Prop :=
    K (optS (replayM l)) []
noncomputable def C74 : List AV → (AV → List AV → Prop) → Prop
  | [.ps .chg l], K => c74 l K
  | _, _ => False
noncomputable def E74 : Ctx := mkE tab [(58, .pure F58), (89, .gen .ps C89)]
noncomputable def O74 : Nat → List DI := ordL [(7, [.q 0, .q 1, .q 2, .q 3, .q 4, .l 5 [], .q 6, .q 7, .q 8, .a 9, .l 10 [], .q 11])]
theorem a74 (l : List Chg) (hb : BdAs [.ps .chg l]) (K : AV → List AV → Prop) (h : c74 l K) : abody E74 O74 .ps Try.f74 (Try.f74.body.getD .skip) [.ps .chg l] K := by
  simp only [BdAs, BdA, BdL, BdC, MX, ndC, shC, itC, stC, opC, chC, nwC, flC, rqC, rsC, enc, List.cons_append, List.nil_append, and_true, true_and] at hb
  unfold c74 at h
  have hK := h
  conv => whnf
  have h00 : (replayM []).isSome = true := rfl
  refine aloop_intro Nat (fun k => k ≤ l.length ∧ (replayM (l.take k)).isSome = true) (fun k => l.length - k) (fun k => [(5, .int .i64 k)]) (fun k => [(4, .box (stC ((replayM (l.take k)).getD ⟨[], 0⟩)))]) [2] 0 [] [8] ?_ ?_ (by exact sgOk_of (by rfl)) ?_
  · first | (simp; done) | (simp; assumption)
  · iterate 2 ((all_goals (conv=>whnf));(repeat' (first|exact trivial|rfl|(refine nilEq ?_;first|rfl|(simp only [*];done)|(simp [*];done)|grind)|apply And.intro|((first|refine intEq ?_|refine boolEq ?_|refine strEq ?_|refine psEq ?_|refine nilEq ?_|refine arrEq ?_);(try simp only [Int.toNat_natCast,etas,elDef]);first | done | omega | grind | (simp only [*]; done) | (simp [*]; done)))));(all_goals ((try simp only [Int.toNat_natCast,etas,elDef]);first | done | omega | grind | (simp only [*]; done) | (simp [*]; done)))
  rintro i ⟨hi, hj⟩
  conv => whnf
  have htk := fun h => replayM_take (l := l) (i := i) h
  repeat' first|(refine Cnd.mk (fun h=>?_) (fun h=>?_)<;>(try simp [etas,elDef,-List.getD_eq_getElem?_getD] at h)<;>conv=>whnf)|(refine Obl.mk (by first|omega|rfl|exact inK_byte _|(simp only [inK,Int.toNat_natCast,etas,elDef]<;>first|omega|grind)|grind [inK]) ?_<;>conv=>whnf)|(refine OblG.mk (by ((conv=>whnf);(repeat (first|(refine Bx.mk ?_)|(intro h;(try simp [etas,elDef,-List.getD_eq_getElem?_getD] at h);conv=>whnf)));(first|omega|rfl|exact inK_byte _|(simp only [inK,Int.toNat_natCast,etas,elDef]<;>first|omega|grind)|grind [inK]))) ?_<;>conv=>whnf)|(refine Gd.mk (fun h=>?_)<;>(try simp [etas,elDef,-List.getD_eq_getElem?_getD] at h)<;>conv=>whnf)|(refine And.intro ?_ ?_<;>conv=>whnf)|exact True.intro|(intro;conv=>whnf)
  · have e1 : replayM (l.take (i + 1)) = none := by
      rw [htk (by assumption)]
      cases hr : replayM (l.take i) with
      | none => rfl
      | some t => simp only [stepM, h]; rfl
    have e := replayM_none e1
    exact leafV hK (by rw [e]; (try simp only [etas, elDef, Int.toNat_natCast]); (first | done | rfl | simp [optS, stC]))
  · have e1 : replayM (l.take (i + 1)) = none := by
      rw [htk (by assumption)]
      cases hr : replayM (l.take i) with
      | none => rfl
      | some t => rw [hr] at h; simp only [stepM]; split <;> first | exact h | rfl
    have e := replayM_none e1
    exact leafV hK (by rw [e]; (try simp only [etas, elDef, Int.toNat_natCast]); (first | done | rfl | simp [optS, stC]))
  · have e1 : replayM (l.take (i + 1)) = applyM ((replayM (l.take i)).getD ⟨[], 0⟩) (l.getD i default) := by
      rw [htk (by assumption)]
      cases hr : replayM (l.take i) with
      | none => rw [hr] at hj; cases hj
      | some t => simp only [stepM, Option.getD_some]; grind
    exact ⟨i + 1, [], [], ⟨by omega, by rw [e1]; exact h⟩, by omega, by iterate 2 ((all_goals (conv=>whnf));(repeat' (first|exact trivial|rfl|(refine nilEq ?_;first|rfl|(simp only [*];done)|(simp [*];done)|grind)|apply And.intro|((first|refine intEq ?_|refine boolEq ?_|refine strEq ?_|refine psEq ?_|refine nilEq ?_|refine arrEq ?_);(try simp only [Int.toNat_natCast,etas,elDef]);rw [e1]))));(all_goals ((try simp only [Int.toNat_natCast,etas,elDef]);rw [e1])), (by exact sgOk_of (by rfl))⟩
  · rw [List.take_of_length_le (by omega)] at hj
    exact leafV hK (by rw [List.take_of_length_le (by omega)]; simp only [optS, hj]; (try simp only [etas, elDef, Int.toNat_natCast]); (first | done | rfl | simp [optS, stC]))
theorem s74 : (CtrOK Try.prog 74 (.gen .ps C74) ∧ Callable Try.prog 74) := by
  refine gen_ok (E := E74) (mkE_cons s58 (mkE_cons s89 (mkE_nil tab_ok))) mix (O := O74) (C := C74) (own := .ps) Try.func74 rfl (by rfl) (by kernel_rfl) (fun args K h hbd => ?_)
  unfold C74 at h; split at h
  case h_2 => exact h.elim
  exact ⟨Nat.le_of_ble_eq_true rfl, a74 _ (by exact hbd) _ h⟩
noncomputable def c45 (l : List Chg) (K : AV → List AV → Prop) : Prop :=
    K (.bool (logM l).isSome) []
noncomputable def C45 : List AV → (AV → List AV → Prop) → Prop
  | [.ps .chg l], K => c45 l K
  | _, _ => False
noncomputable def E45 : Ctx := mkE tab [(74, .gen .ps C74)]
noncomputable def O45 : Nat → List DI := ordL []
theorem a45 (l : List Chg) (hb : BdAs [.ps .chg l]) (K : AV → List AV → Prop) (h : c45 l K) : abody E45 O45 .ps Try.f45 (Try.f45.body.getD .skip) [.ps .chg l] K := by
  simp only [BdAs, BdA, BdL, BdC, MX, ndC, shC, itC, stC, opC, chC, nwC, flC, rqC, rsC, enc, List.cons_append, List.nil_append, and_true, true_and] at hb
  unfold c45 at h
  have hK := h
  conv => whnf
  repeat' first|(refine Cnd.mk (fun h=>?_) (fun h=>?_)<;>(try simp [etas,elDef,-List.getD_eq_getElem?_getD] at h)<;>conv=>whnf)|(refine Obl.mk (by first|omega|rfl|exact inK_byte _|(simp only [inK,Int.toNat_natCast,etas,elDef]<;>first|omega|grind)|grind [inK]) ?_<;>conv=>whnf)|(refine OblG.mk (by ((conv=>whnf);(repeat (first|(refine Bx.mk ?_)|(intro h;(try simp [etas,elDef,-List.getD_eq_getElem?_getD] at h);conv=>whnf)));(first|omega|rfl|exact inK_byte _|(simp only [inK,Int.toNat_natCast,etas,elDef]<;>first|omega|grind)|grind [inK]))) ?_<;>conv=>whnf)|(refine Gd.mk (fun h=>?_)<;>(try simp [etas,elDef,-List.getD_eq_getElem?_getD] at h)<;>conv=>whnf)|(refine And.intro ?_ ?_<;>conv=>whnf)|exact True.intro|(intro;conv=>whnf)
  · exact leafB hK (by grind [logM])
  · exact leafB hK (by grind [logM])
theorem s45 : (CtrOK Try.prog 45 (.gen .ps C45) ∧ Callable Try.prog 45) := by
  refine gen_ok (E := E45) (mkE_cons s74 (mkE_nil tab_ok)) mix (O := O45) (C := C45) (own := .ps) Try.func45 rfl (by rfl) (by kernel_rfl) (fun args K h hbd => ?_)
  unfold C45 at h; split at h
  case h_2 => exact h.elim
  exact ⟨Nat.le_of_ble_eq_true rfl, a45 _ (by exact hbd) _ h⟩
end Go.Rs

