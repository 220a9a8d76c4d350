import Derived.Test.YtoailaifflbomaaCP
import Derived.Test.YtoailaifflbomaaMC
set_option linter.all false
set_option linter.unusedSimpArgs false
set_option linter.unusedVariables false
namespace Go.Rs
open Go.Proofs
set_option maxRecDepth 100000
structure Gx (P Q : Prop) : Prop where
  o : P
  k : Q
noncomputable def c90o (n : Nd) (K : AV → List AV → Prop) : Prop :=
    Obl (smN n) (K (.st [.int .i64 n.kind, .int .i64 n.num, .str n.text, .own .str n.names, .own .node n.kids]) [])
noncomputable def C90o : List AV → (AV → List AV → Prop) → Prop
  | [.st [.int .i64 n_0, .int .i64 n_1, .str n_2, .ps .str n_3, .ps .node n_4]], K => c90o ⟨n_0, n_1, n_2, n_3, n_4⟩ K
  | _, _ => False
noncomputable def E90o : Ctx := mkE tab [(90, .gen .ps C90)]
noncomputable def O90o : Nat → List DI := ordL [(6, [.q 0, .q 1, .q 2, .q 3, .q 4, .q 5, .q 7, .q 8, .q 10, .l 6 [1, 3, 5, 8], .l 9 [1, 3, 5], .q 11, .l 12 []])]
theorem a90o (n : Nd) (hb : BdAs [.st (ndC n)]) (K : AV → List AV → Prop) (h : c90o n K) : abody E90o O90o .ow Try.f90 (Try.f90.body.getD .skip) [.st (ndC n)] K := by
  simp only [BdAs, BdA, BdL, BdC, MX, ndC, shC, itC, stC, opC, chC, nwC, flC, rqC, rsC, enc, List.cons_append, List.nil_append, and_true, true_and] at hb
  unfold c90o at h
  obtain ⟨hs, hK⟩ := h
  have hkid : ∀ j, j < n.kids.length → smN (n.kids.getD j default) := fun j hj => hs.kid hj
  have h3 := hs.kids
  have h2 := hs.names
  conv => whnf
  refine aloop_intro Nat (fun k => k ≤ n.kids.length ∧ True) (fun k => n.kids.length - k) (fun k => [(4, .int .i64 k), (3, .ls 900)]) (fun k => [(900, .arr .node (n.kids.take k))]) [1, 2] 0 [(900, 5)] [] ?_ ?_ (by exact sgOk_of (by rfl)) ?_
  · first | (simp; done) | (simp; assumption)
  · iterate 2 ((all_goals (conv=>whnf));(repeat' (first|exact trivial|rfl|(refine nilEq ?_;first|rfl|(simp only [*];done)|(simp [*];done)|grind)|apply And.intro|((first|apply intEq|apply boolEq|apply strEq|apply psEq|apply nilEq|apply arrEq);(try simp only [Int.toNat_natCast,etas,elDef]);first | done | omega | grind | (simp only [*]; done) | (simp [*]; done)))));(all_goals ((try simp only [Int.toNat_natCast,etas,elDef]);first | done | omega | grind | (simp only [*]; done) | (simp [*]; done)))
  rintro i ⟨hi, hj⟩
  conv => whnf
  have htk := fun h => take_snoc (l := n.kids) (i := i) default h
  have hki := hkid i
  repeat' first|((first|refine Cnd.mk (fun h=>?_) (fun h=>?_)|refine Gd.mk (fun h=>?_))<;>(try simp [etas,elDef,-List.getD_eq_getElem?_getD] at h)<;>conv=>whnf)|((first|refine Obl.mk (by first|omega|rfl|exact inK_byte _|(simp only [inK,Int.toNat_natCast,etas,elDef,m90]<;>first|omega|grind)|grind [inK,m90]) ?_|refine OblG.mk (by ((conv=>whnf);(repeat (first|refine Bx.mk ?_|(intro h;(try simp [etas,elDef,-List.getD_eq_getElem?_getD] at h);conv=>whnf)));(first|omega|rfl|exact inK_byte _|(simp only [inK,Int.toNat_natCast,etas,elDef,m90]<;>first|omega|grind)|grind [inK,m90]))) ?_|refine And.intro ?_ ?_)<;>conv=>whnf)|exact True.intro|(intro;conv=>whnf)
  · exact ⟨i + 1, [(900, 21)], [], ⟨by omega, by grind⟩, by omega, by iterate 2 ((all_goals (conv=>whnf));(repeat' (first|exact trivial|rfl|(refine nilEq ?_;first|rfl|(simp only [*];done)|(simp [*];done)|grind)|apply And.intro|((first|apply intEq|apply boolEq|apply strEq|apply psEq|apply nilEq|apply arrEq);(try simp only [Int.toNat_natCast,etas,elDef]);first | done | omega | grind | (simp only [*]; done) | (simp [*]; done)))));(all_goals ((try simp only [Int.toNat_natCast,etas,elDef]);first | done | omega | grind | (simp only [*]; done) | (simp [*]; done))), (by exact sgOk_of (by rfl))⟩
  · exact leafV hK (by simp [List.take_of_length_le ‹n.kids.length ≤ i›])
theorem s90o : (CtrOK Try.prog 90 (.gen .ow C90o) ∧ Callable Try.prog 90) := by
  refine gen_ok (E := E90o) (mkE_cons s90 (mkE_nil tab_ok)) mix (O := O90o) (C := C90o) (own := .ow) Try.func90 rfl (by rfl) (by kernel_rfl) (fun args K h hbd => ?_)
  unfold C90o at h; split at h
  case h_2 => exact h.elim
  exact ⟨Nat.le_of_ble_eq_true rfl, a90o ⟨_, _, _, _, _⟩ (by exact hbd) _ h⟩
noncomputable def c115k (n : Nd) (i : Int) (x : Nd) (K : AV → List AV → Prop) : Prop :=
    Obl ((smN n ∧ smN x) ∧ 0 ≤ i ∧ i < n.kids.length) (K (.st (ndC (withKidM n i.toNat x))) [])
noncomputable def C115k : List AV → (AV → List AV → Prop) → Prop
  | [.st [.int .i64 n_0, .int .i64 n_1, .str n_2, .ps .str n_3, .ps .node n_4], .int .i64 i, .st [.int .i64 x_0, .int .i64 x_1, .str x_2, .ps .str x_3, .ps .node x_4]], K => c115k ⟨n_0, n_1, n_2, n_3, n_4⟩ i ⟨x_0, x_1, x_2, x_3, x_4⟩ K
  | _, _ => False
noncomputable def E115k : Ctx := mkE tab [(90, .gen .ow C90o)]
noncomputable def O115k : Nat → List DI := ordL [(2, [.q 0, .q 1, .q 2, .q 3, .l 4 [1], .q 5, .l 6 []])]
theorem a115k (n : Nd) (i : Int) (x : Nd) (hb : BdAs [.st (ndC n), .int .i64 i, .st (ndC x)]) (K : AV → List AV → Prop) (h : c115k n i x K) : abody E115k O115k .ps Try.f115 (Try.f115.body.getD .skip) [.st (ndC n), .int .i64 i, .st (ndC x)] K := by
  simp only [BdAs, BdA, BdL, BdC, MX, ndC, shC, itC, stC, opC, chC, nwC, flC, rqC, rsC, enc, List.cons_append, List.nil_append, and_true, true_and] at hb
  unfold c115k at h
  obtain ⟨⟨⟨hn, hx⟩, hi⟩, hK⟩ := h
  conv => whnf
  repeat' first|((first|refine Cnd.mk (fun h=>?_) (fun h=>?_)|refine Gd.mk (fun h=>?_))<;>(try simp [etas,elDef,-List.getD_eq_getElem?_getD] at h)<;>conv=>whnf)|((first|refine Obl.mk (by first|omega|rfl|exact inK_byte _|(simp only [inK,Int.toNat_natCast,etas,elDef]<;>first|omega|grind)|grind [inK]) ?_|refine OblG.mk (by ((conv=>whnf);(repeat (first|refine Bx.mk ?_|(intro h;(try simp [etas,elDef,-List.getD_eq_getElem?_getD] at h);conv=>whnf)));(first|omega|rfl|exact inK_byte _|(simp only [inK,Int.toNat_natCast,etas,elDef]<;>first|omega|grind)|grind [inK]))) ?_|refine And.intro ?_ ?_)<;>conv=>whnf)|exact True.intro|(intro;conv=>whnf)
  exact leafV hK (by (try simp only [etas, elDef, Int.toNat_natCast]); (first | done | rfl | simp [optS, stC]))
theorem s115k : (CtrOK Try.prog 115 (.gen .ps C115k) ∧ Callable Try.prog 115) := by
  refine gen_ok (E := E115k) (mkE_cons s90o (mkE_nil tab_ok)) mix (O := O115k) (C := C115k) (own := .ps) Try.func115 rfl (by rfl) (by kernel_rfl) (fun args K h hbd => ?_)
  unfold C115k at h; split at h
  case h_2 => exact h.elim
  exact ⟨Nat.le_of_ble_eq_true rfl, a115k ⟨_, _, _, _, _⟩ _ ⟨_, _, _, _, _⟩ (by exact hbd) _ h⟩
noncomputable def c93k (n : Nd) (b : Bs) (x : Nd) (K : AV → List AV → Prop) : Prop :=
    Obl ((smN n ∧ smN x) ∧ n.kids.length ≤ 1000000 ∧ n.names.length ≤ 1000000 ∧ evenN n) (K (optN (addHereM n b x)) [])
noncomputable def C93k : List AV → (AV → List AV → Prop) → Prop
  | [.st [.int .i64 n_0, .int .i64 n_1, .str n_2, .ps .str n_3, .ps .node n_4], .str b, .st [.int .i64 x_0, .int .i64 x_1, .str x_2, .ps .str x_3, .ps .node x_4]], K => c93k ⟨n_0, n_1, n_2, n_3, n_4⟩ b ⟨x_0, x_1, x_2, x_3, x_4⟩ K
  | _, _ => False
noncomputable def E93k : Ctx := mkE tab [(90, .gen .ps C90), (114, .pure F114), (115, .gen .ps C115k)]
noncomputable def O93k : Nat → List DI := ordL [(7, [.q 1, .q 2, .q 3, .q 4, .q 6, .l 0 [2, 4, 6], .l 5 [6], .l 7 [], .l 8 [], .l 9 [], .q 10])]
theorem a93k (n : Nd) (b : Bs) (x : Nd) (hb : BdAs [.st (ndC n), .str b, .st (ndC x)]) (K : AV → List AV → Prop) (h : c93k n b x K) : abody E93k O93k .ps Try.f93 (Try.f93.body.getD .skip) [.st (ndC n), .str b, .st (ndC x)] K := by
  simp only [BdAs, BdA, BdL, BdC, MX, ndC, shC, itC, stC, opC, chC, nwC, flC, rqC, rsC, enc, List.cons_append, List.nil_append, and_true, true_and] at hb
  unfold c93k at h
  obtain ⟨⟨⟨hn, hx⟩, hl⟩, hK⟩ := h
  have hge := slotM_ge n b
  have hev : n.kind = 4 → n.names.length = n.kids.length := hl.2.2
  conv => whnf
  repeat' first|((first|refine Cnd.mk (fun h=>?_) (fun h=>?_)|refine Gd.mk (fun h=>?_))<;>(try simp [etas,elDef,-List.getD_eq_getElem?_getD] at h)<;>conv=>whnf)|((first|refine Obl.mk (by first|omega|rfl|exact inK_byte _|(simp only [inK,Int.toNat_natCast,etas,elDef,m90,o114]<;>first|omega|grind)|grind [inK,m90,o114]) ?_|refine OblG.mk (by ((conv=>whnf);(repeat (first|refine Bx.mk ?_|(intro h;(try simp [etas,elDef,-List.getD_eq_getElem?_getD] at h);conv=>whnf)));(first|omega|rfl|exact inK_byte _|(simp only [inK,Int.toNat_natCast,etas,elDef,m90,o114]<;>first|omega|grind)|grind [inK,m90,o114]))) ?_|refine And.intro ?_ ?_)<;>conv=>whnf)|exact True.intro|(intro;conv=>whnf)
  · have e : addHereM n b x = none := by unfold addHereM; rw [if_pos h]
    exact leafV hK (by rw [e]; (try simp only [etas, elDef, Int.toNat_natCast]); (first | done | rfl | simp [optS, stC]))
  · have e : addHereM n b x = some (withKidM n (slotM n b).1.toNat x) := by unfold addHereM; rw [if_neg (by omega), if_pos h]
    exact leafV hK (by rw [e]; simp only [optN, Option.getD_some, Option.isSome_some]; (try simp only [etas, elDef, Int.toNat_natCast]); (first | done | rfl | simp [optS, stC]))
  · have e : addHereM n b x = some ⟨n.kind, 0, [], [], insM n.kids (slotM n b).1.toNat x⟩ := by unfold addHereM; rw [if_neg (by omega), if_neg (by grind), if_pos h]
    exact leafV hK (by rw [e]; simp [optN, ndC, enc, insM, nd_eta])
  · have e : addHereM n b x = some ⟨n.kind, 0, [], insM n.names (slotM n b).1.toNat b, insM n.kids (slotM n b).1.toNat x⟩ := by unfold addHereM; rw [if_neg (by omega), if_neg (by grind), if_neg h]
    exact leafV hK (by rw [e]; simp [optN, ndC, enc, insM, nd_eta])
theorem s93k : (CtrOK Try.prog 93 (.gen .ps C93k) ∧ Callable Try.prog 93) := by
  refine gen_ok (E := E93k) (mkE_cons s90 (mkE_cons s114 (mkE_cons s115k (mkE_nil tab_ok)))) mix (O := O93k) (C := C93k) (own := .ps) Try.func93 rfl (by rfl) (by kernel_rfl) (fun args K h hbd => ?_)
  unfold C93k at h; split at h
  case h_2 => exact h.elim
  exact ⟨Nat.le_of_ble_eq_true rfl, a93k ⟨_, _, _, _, _⟩ _ ⟨_, _, _, _, _⟩ (by exact hbd) _ h⟩
noncomputable def c64 (n : Nd) (b : Bool) (K : AV → List AV → Prop) : Prop :=
    K (optN (if b && validM n then some n else none)) []
noncomputable def C64 : List AV → (AV → List AV → Prop) → Prop
  | [.st [.int .i64 n_0, .int .i64 n_1, .str n_2, .ps .str n_3, .ps .node n_4], .bool b], K => c64 ⟨n_0, n_1, n_2, n_3, n_4⟩ b K
  | _, _ => False
noncomputable def E64 : Ctx := mkE tab [(63, .pure F63)]
noncomputable def O64 : Nat → List DI := ordL []
theorem a64 (n : Nd) (b : Bool) (hb : BdAs [.st (ndC n), .bool b]) (K : AV → List AV → Prop) (h : c64 n b K) : abody E64 O64 .ps Try.f64 (Try.f64.body.getD .skip) [.st (ndC n), .bool b] K := by
  simp only [BdAs, BdA, BdL, BdC, MX, ndC, shC, itC, stC, opC, chC, nwC, flC, rqC, rsC, enc, List.cons_append, List.nil_append, and_true, true_and] at hb
  unfold c64 at h
  have hK9 := h
  conv => whnf
  repeat' first|((first|refine Cnd.mk (fun h=>?_) (fun h=>?_)|refine Gd.mk (fun h=>?_))<;>(try simp [etas,elDef,-List.getD_eq_getElem?_getD] at h)<;>conv=>whnf)|((first|refine Obl.mk (by first|omega|rfl|exact inK_byte _|(simp only [inK,Int.toNat_natCast,etas,elDef]<;>first|omega|grind)|grind [inK]) ?_|refine OblG.mk (by ((conv=>whnf);(repeat (first|refine Bx.mk ?_|(intro h;(try simp [etas,elDef,-List.getD_eq_getElem?_getD] at h);conv=>whnf)));(first|omega|rfl|exact inK_byte _|(simp only [inK,Int.toNat_natCast,etas,elDef]<;>first|omega|grind)|grind [inK]))) ?_|refine And.intro ?_ ?_)<;>conv=>whnf)|exact True.intro|(intro;conv=>whnf)
  · exact leafV hK9 (by rw [if_neg (by grind)]; rfl)
  · exact leafV hK9 (by rw [if_pos (by grind)]; rfl)
theorem s64 : (CtrOK Try.prog 64 (.gen .ps C64) ∧ Callable Try.prog 64) := by
  refine gen_ok (E := E64) (mkE_cons s63 (mkE_nil tab_ok)) mix (O := O64) (C := C64) (own := .ps) Try.func64 rfl (by rfl) (by kernel_rfl) (fun args K h hbd => ?_)
  unfold C64 at h; split at h
  case h_2 => exact h.elim
  exact ⟨Nat.le_of_ble_eq_true rfl, a64 ⟨_, _, _, _, _⟩ _ (by exact hbd) _ h⟩
end Go.Rs

