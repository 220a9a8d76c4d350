import Derived.Test.YtoailaifflbomaaCC
import Derived.Test.YtoailaifflbomaaMA
set_option linter.all false
set_option linter.unusedSimpArgs false
set_option linter.unusedVariables false
namespace Go.Rs
open Go.Proofs
set_option maxRecDepth 100000
noncomputable def c90 (n : Nd) (K : AV → List AV → Prop) : Prop :=
    Obl (smN n) (K (.st (ndC n)) [])
noncomputable def m90 (n : Nd) : Nat := SizeOf.sizeOf n
noncomputable def C90 : List AV → (AV → List AV → Prop) → Prop
  | [.st [.int .i64 n_0, .int .i64 n_1, .str n_2, .ps .str n_3, .ps .node n_4]], K => c90 ⟨n_0, n_1, n_2, n_3, n_4⟩ K
  | _, _ => False
noncomputable def Ck90 (k : Nat) : List AV → (AV → List AV → Prop) → Prop
  | [.st [.int .i64 n_0, .int .i64 n_1, .str n_2, .ps .str n_3, .ps .node n_4]], K => Obl (m90 ⟨n_0, n_1, n_2, n_3, n_4⟩ < k) (c90 ⟨n_0, n_1, n_2, n_3, n_4⟩ K)
  | _, _ => False
noncomputable def E90 (k : Nat) : Ctx := mkE tab [(90, .gen .ps (Ck90 k))]
noncomputable def O90 : Nat → List DI := ordL [(6, [.q 0, .q 1, .q 2, .q 3, .q 4, .q 5, .q 7, .q 8, .q 10, .l 6 [1, 3, 5, 8], .l 9 [1, 3, 5], .q 11, .l 12 []])]
theorem a90 (k : Nat) (n : Nd) (hm : m90 n < k + 1) (hb : BdAs [.st (ndC n)]) (K : AV → List AV → Prop) (h : c90 n K) : abody (E90 k) O90 .ps Try.f90 (Try.f90.body.getD .skip) [.st (ndC n)] K := by
  simp only [BdAs, BdA, BdL, BdC, MX, ndC, shC, itC, stC, opC, chC, nwC, flC, rqC, rsC, enc, List.cons_append, List.nil_append, and_true, true_and] at hb
  unfold c90 at h
  unfold m90 at hm
  obtain ⟨hs, hK⟩ := h
  have hkid : ∀ j, j < n.kids.length → SizeOf.sizeOf (n.kids.getD j default) < k ∧ smN (n.kids.getD j default) := fun j hj => ⟨by have := kid_size hj; omega, hs.kid hj⟩
  have h3 := hs.kids
  have h2 := hs.names
  conv => whnf
  refine aloop_intro Nat (fun k => k ≤ n.kids.length ∧ True) (fun k => n.kids.length - k) (fun k => [(4, .int .i64 k), (3, .ls 900)]) (fun k => [(900, .arr .node (n.kids.take k))]) [1, 2] 0 [(900, 5)] [] ?_ ?_ (by exact sgOk_of (by rfl)) ?_
  · first | (simp; done) | (simp; assumption)
  · iterate 2 ((all_goals (conv=>whnf));(repeat' (first|exact trivial|rfl|(refine nilEq ?_;first|rfl|(simp only [*];done)|(simp [*];done)|grind)|apply And.intro|((first|apply intEq|apply boolEq|apply strEq|apply psEq|apply nilEq|apply arrEq);(try simp only [Int.toNat_natCast,etas,elDef]);first | done | omega | grind | (simp only [*]; done) | (simp [*]; done)))));(all_goals ((try simp only [Int.toNat_natCast,etas,elDef]);first | done | omega | grind | (simp only [*]; done) | (simp [*]; done)))
  rintro i ⟨hi, hj⟩
  conv => whnf
  have htk := fun h => take_snoc (l := n.kids) (i := i) default h
  repeat' first|((first|refine Cnd.mk (fun h=>?_) (fun h=>?_)|refine Gd.mk (fun h=>?_))<;>(try simp [etas,elDef,-List.getD_eq_getElem?_getD] at h)<;>conv=>whnf)|((first|refine Obl.mk (by first|omega|rfl|exact inK_byte _|(simp only [inK,Int.toNat_natCast,etas,elDef,m90,m90]<;>first|omega|grind)|grind [inK,m90,m90]) ?_|refine OblG.mk (by ((conv=>whnf);(repeat (first|refine Bx.mk ?_|(intro h;(try simp [etas,elDef,-List.getD_eq_getElem?_getD] at h);conv=>whnf)));(first|omega|rfl|exact inK_byte _|(simp only [inK,Int.toNat_natCast,etas,elDef,m90,m90]<;>first|omega|grind)|grind [inK,m90,m90]))) ?_|refine And.intro ?_ ?_)<;>conv=>whnf)|exact True.intro|(intro;conv=>whnf)
  · exact ⟨i + 1, [(900, 21)], [], ⟨by omega, by grind⟩, by omega, by iterate 2 ((all_goals (conv=>whnf));(repeat' (first|exact trivial|rfl|(refine nilEq ?_;first|rfl|(simp only [*];done)|(simp [*];done)|grind)|apply And.intro|((first|apply intEq|apply boolEq|apply strEq|apply psEq|apply nilEq|apply arrEq);(try simp only [Int.toNat_natCast,etas,elDef]);first | done | omega | grind | (simp only [*]; done) | (simp [*]; done)))));(all_goals ((try simp only [Int.toNat_natCast,etas,elDef]);first | done | omega | grind | (simp only [*]; done) | (simp [*]; done))), (by exact sgOk_of (by rfl))⟩
  · exact leafV hK (by simp [ndC, List.take_of_length_le ‹n.kids.length ≤ i›])
theorem r90 : ∀ k, (CtrOK Try.prog 90 (.gen .ps (Ck90 k)) ∧ Callable Try.prog 90) := by
  intro k
  induction k with
  | zero =>
    exact ⟨fun args K h => by
        unfold Ck90 at h; split at h
        · exact absurd h.o (Nat.not_lt_zero _)
        · exact h.elim, callable Try.func90 rfl (by rfl)⟩
  | succ k ih =>
    refine gen_ok (E := E90 k) (mkE_cons ih (mkE_nil tab_ok)) mix (O := O90) (C := (Ck90 (k + 1))) (own := .ps) Try.func90 rfl (by rfl) (by kernel_rfl) (fun args K h hbd => ?_)
    unfold Ck90 at h; split at h
    case h_2 => exact h.elim
    exact ⟨Nat.le_of_ble_eq_true rfl, a90 k ⟨_, _, _, _, _⟩ h.o (by exact hbd) _ h.k⟩
theorem s90 : (CtrOK Try.prog 90 (.gen .ps C90) ∧ Callable Try.prog 90) := by
  refine ⟨fun args K h => ?_, (r90 0).2⟩
  unfold C90 at h; split at h
  · exact (r90 (m90 ⟨_, _, _, _, _⟩ + 1)).1 _ K ⟨Nat.lt_succ_self _, h⟩
  · exact h.elim
noncomputable def v102 (s : Sto) (b : Bs) : AV := .int .i64 (findI s.items b)
noncomputable def o102 (s : Sto) (b : Bs) : Prop := True
noncomputable def F102 : List AV → QR
  | [.st [.ps .item s_0, .int .i64 s_1], .str b] => some (none, v102 ⟨s_0, s_1⟩ b)
  | _ => none
noncomputable def E102 : Ctx := mkE tab []
noncomputable def O102 : Nat → List DI := ordL []
theorem a102 (s : Sto) (b : Bs) (hb : BdAs [.st (stC s), .str b]) (ho : o102 s b) (K : AV → List AV → Prop) (hK : K (v102 s b) []) : abody E102 O102 .ps Try.f102 (Try.f102.body.getD .skip) [.st (stC s), .str b] K := by
  simp only [BdAs, BdA, BdL, BdC, MX, ndC, shC, itC, stC, opC, chC, nwC, flC, rqC, rsC, enc, List.cons_append, List.nil_append, and_true, true_and] at hb
  unfold v102 at hK
  conv => whnf
  refine aloop_intro Nat (fun k => k ≤ s.items.length ∧ ∀ j, j < k → (s.items.getD j default).name ≠ b) (fun k => s.items.length - k) (fun k => [(5, .int .i64 k)]) (fun k => []) [2] 0 [] [] ?_ ?_ (by exact sgOk_of (by rfl)) ?_
  · first | (simp; done) | (simp; assumption)
  · iterate 2 ((all_goals (conv=>whnf));(repeat' (first|exact trivial|rfl|(refine nilEq ?_;first|rfl|(simp only [*];done)|(simp [*];done)|grind)|apply And.intro|((first|apply intEq|apply boolEq|apply strEq|apply psEq|apply nilEq|apply arrEq);(try simp only [Int.toNat_natCast,etas,elDef]);first | done | omega | grind | (simp only [*]; done) | (simp [*]; done)))));(all_goals ((try simp only [Int.toNat_natCast,etas,elDef]);first | done | omega | grind | (simp only [*]; done) | (simp [*]; done)))
  rintro i ⟨hi, hj⟩
  conv => whnf
  repeat' first|((first|refine Cnd.mk (fun h=>?_) (fun h=>?_)|refine Gd.mk (fun h=>?_))<;>(try simp [etas,elDef,-List.getD_eq_getElem?_getD] at h)<;>conv=>whnf)|((first|refine Obl.mk (by first|omega|rfl|exact inK_byte _|(simp only [inK,Int.toNat_natCast,etas,elDef]<;>first|omega|grind)|grind [inK]) ?_|refine OblG.mk (by ((conv=>whnf);(repeat (first|refine Bx.mk ?_|(intro h;(try simp [etas,elDef,-List.getD_eq_getElem?_getD] at h);conv=>whnf)));(first|omega|rfl|exact inK_byte _|(simp only [inK,Int.toNat_natCast,etas,elDef]<;>first|omega|grind)|grind [inK]))) ?_|refine And.intro ?_ ?_)<;>conv=>whnf)|exact True.intro|(intro;conv=>whnf)
  · exact leafI hK (findI_at (by omega) (by grind) (by grind))
  · exact ⟨i + 1, [], [], ⟨by omega, by grind⟩, by omega, by iterate 2 ((all_goals (conv=>whnf));(repeat' (first|exact trivial|rfl|(refine nilEq ?_;first|rfl|(simp only [*];done)|(simp [*];done)|grind)|apply And.intro|((first|apply intEq|apply boolEq|apply strEq|apply psEq|apply nilEq|apply arrEq);(try simp only [Int.toNat_natCast,etas,elDef]);first | done | omega | grind | (simp only [*]; done) | (simp [*]; done)))));(all_goals ((try simp only [Int.toNat_natCast,etas,elDef]);first | done | omega | grind | (simp only [*]; done) | (simp [*]; done))), (by exact sgOk_of (by rfl))⟩
  · exact leafI hK (findI_none (by grind))
theorem s102 : (CtrOK Try.prog 102 (.pure F102) ∧ Callable Try.prog 102) := by
  refine pure_ok (E := E102) (mkE_nil tab_ok) mix (O := O102) (F := F102) Try.func102 rfl (by rfl) (by kernel_rfl) (fun args o v h => ?_) (fun args o v h => ?_) (fun args o v h hbd hp K hK => ?_)
  · unfold F102 at h; split at h <;> cases h; first | trivial | (simp [v102, Scalar, Scalar2, Scalar1, stC, ndC, itC, chC, nwC])
  · unfold F102 at h; split at h <;> cases h; exact Nat.le_of_ble_eq_true rfl
  · unfold F102 at h; split at h
    case h_2 => cases h
    cases h
    exact a102 ⟨_, _⟩ _ (by exact hbd) trivial K hK
noncomputable def c125 (s : Sto) (K : AV → List AV → Prop) : Prop :=
    Obl (smS s) (K (.st (stC s)) [])
noncomputable def c125b (l : List It) (c : Int) (K : AV → List AV → Prop) : Prop :=
    Obl (smS ⟨l, c⟩) (K (.st (stC ⟨l, c⟩)) [.own .item l])
noncomputable def C125 : List AV → (AV → List AV → Prop) → Prop
  | [.st [.ps .item s_0, .int .i64 s_1]], K => c125 ⟨s_0, s_1⟩ K
  | [.tup [.st [.own .item l, .int .i64 c]]], K => c125b l c K
  | _, _ => False
noncomputable def E125 : Ctx := mkE tab [(90, .gen .ps C90)]
noncomputable def O125 : Nat → List DI := ordL [(5, [.q 0, .q 1, .q 2, .q 3, .q 4, .q 5, .q 6, .q 7, .q 8, .q 9, .q 10, .q 11, .q 12, .q 13, .q 14, .q 15, .q 16, .q 17, .q 18, .l 19 [2, 4, 6, 8, 10, 12], .q 20, .l 21 [], .l 22 [], .q 23])]
theorem a125 (s : Sto) (hb : BdAs [.st (stC s)]) (K : AV → List AV → Prop) (h : c125 s K) : abody E125 O125 .ps Try.f125 (Try.f125.body.getD .skip) [.st (stC s)] K := by
  simp only [BdAs, BdA, BdL, BdC, MX, ndC, shC, itC, stC, opC, chC, nwC, flC, rqC, rsC, enc, List.cons_append, List.nil_append, and_true, true_and] at hb
  unfold c125 at h
  obtain ⟨hs, hK⟩ := h
  have hit : ∀ j, j < s.items.length → smN (s.items.getD j default).node := fun j hj => hs.item hj
  have h3 := hs.1
  conv => whnf
  refine aloop_intro Nat (fun k => k ≤ s.items.length ∧ True) (fun k => s.items.length - k) (fun k => [(4, .int .i64 k), (3, .ls 900)]) (fun k => [(900, .arr .item (s.items.take k))]) [1, 2] 0 [(900, 5)] [] ?_ ?_ (by exact sgOk_of (by rfl)) ?_
  · first | (simp; done) | (simp; assumption)
  · iterate 2 ((all_goals (conv=>whnf));(repeat' (first|exact trivial|rfl|(refine nilEq ?_;first|rfl|(simp only [*];done)|(simp [*];done)|grind)|apply And.intro|((first|apply intEq|apply boolEq|apply strEq|apply psEq|apply nilEq|apply arrEq);(try simp only [Int.toNat_natCast,etas,elDef]);first | done | omega | grind | (simp only [*]; done) | (simp [*]; done)))));(all_goals ((try simp only [Int.toNat_natCast,etas,elDef]);first | done | omega | grind | (simp only [*]; done) | (simp [*]; done)))
  rintro i ⟨hi, hj⟩
  conv => whnf
  have htk := fun h => take_snoc (l := s.items) (i := i) default h
  repeat' first|((first|refine Cnd.mk (fun h=>?_) (fun h=>?_)|refine Gd.mk (fun h=>?_))<;>(try simp [etas,elDef,-List.getD_eq_getElem?_getD] at h)<;>conv=>whnf)|((first|refine Obl.mk (by first|omega|rfl|exact inK_byte _|(simp only [inK,Int.toNat_natCast,etas,elDef,m90]<;>first|omega|grind)|grind [inK,m90]) ?_|refine OblG.mk (by ((conv=>whnf);(repeat (first|refine Bx.mk ?_|(intro h;(try simp [etas,elDef,-List.getD_eq_getElem?_getD] at h);conv=>whnf)));(first|omega|rfl|exact inK_byte _|(simp only [inK,Int.toNat_natCast,etas,elDef,m90]<;>first|omega|grind)|grind [inK,m90]))) ?_|refine And.intro ?_ ?_)<;>conv=>whnf)|exact True.intro|(intro;conv=>whnf)
  · exact ⟨i + 1, [(900, 35)], [], ⟨by omega, by grind⟩, by omega, by iterate 2 ((all_goals (conv=>whnf));(repeat' (first|exact trivial|rfl|(refine nilEq ?_;first|rfl|(simp only [*];done)|(simp [*];done)|grind)|apply And.intro|((first|apply intEq|apply boolEq|apply strEq|apply psEq|apply nilEq|apply arrEq);(try simp only [Int.toNat_natCast,etas,elDef]);first | done | omega | grind | (simp only [*]; done) | (simp [*]; done)))));(all_goals ((try simp only [Int.toNat_natCast,etas,elDef]);first | done | omega | grind | (simp only [*]; done) | (simp [*]; done))), (by exact sgOk_of (by rfl))⟩
  · exact leafV hK (by simp [stC, List.take_of_length_le ‹s.items.length ≤ i›])
theorem a125b (l : List It) (c : Int) (hb : BdAs [.tup [.st [.own .item l, .int .i64 c]]]) (K : AV → List AV → Prop) (h : c125b l c K) : abody E125 O125 .ps Try.f125 (Try.f125.body.getD .skip) [.tup [.st [.own .item l, .int .i64 c]]] K := by
  simp only [BdAs, BdA, BdL, BdC, MX, ndC, shC, itC, stC, opC, chC, nwC, flC, rqC, rsC, enc, List.cons_append, List.nil_append, and_true, true_and] at hb
  unfold c125b at h
  obtain ⟨hs, hK⟩ := h
  have hit : ∀ j, j < l.length → smN (l.getD j default).node := fun j hj => hs.item hj
  have h3 := hs.1
  simp only at h3
  conv => whnf
  refine aloop_intro Nat (fun k => k ≤ l.length ∧ True) (fun k => l.length - k) (fun k => [(4, .int .i64 k), (3, .ls 900)]) (fun k => [(900, .arr .item (l.take k))]) [1, 2, 1000000] 0 [(900, 5)] [] ?_ ?_ (by exact sgOk_of (by rfl)) ?_
  · first | (simp; done) | (simp; assumption)
  · iterate 2 ((all_goals (conv=>whnf));(repeat' (first|exact trivial|rfl|(refine nilEq ?_;first|rfl|(simp only [*];done)|(simp [*];done)|grind)|apply And.intro|((first|apply intEq|apply boolEq|apply strEq|apply psEq|apply nilEq|apply arrEq);(try simp only [Int.toNat_natCast,etas,elDef]);first | done | omega | grind | (simp only [*]; done) | (simp [*]; done)))));(all_goals ((try simp only [Int.toNat_natCast,etas,elDef]);first | done | omega | grind | (simp only [*]; done) | (simp [*]; done)))
  rintro i ⟨hi, hj⟩
  conv => whnf
  have htk := fun h => take_snoc (l := l) (i := i) default h
  repeat' first|((first|refine Cnd.mk (fun h=>?_) (fun h=>?_)|refine Gd.mk (fun h=>?_))<;>(try simp [etas,elDef,-List.getD_eq_getElem?_getD] at h)<;>conv=>whnf)|((first|refine Obl.mk (by first|omega|rfl|exact inK_byte _|(simp only [inK,Int.toNat_natCast,etas,elDef,m90]<;>first|omega|grind)|grind [inK,m90]) ?_|refine OblG.mk (by ((conv=>whnf);(repeat (first|refine Bx.mk ?_|(intro h;(try simp [etas,elDef,-List.getD_eq_getElem?_getD] at h);conv=>whnf)));(first|omega|rfl|exact inK_byte _|(simp only [inK,Int.toNat_natCast,etas,elDef,m90]<;>first|omega|grind)|grind [inK,m90]))) ?_|refine And.intro ?_ ?_)<;>conv=>whnf)|exact True.intro|(intro;conv=>whnf)
  · exact ⟨i + 1, [(900, 35)], [], ⟨by omega, by grind⟩, by omega, by iterate 2 ((all_goals (conv=>whnf));(repeat' (first|exact trivial|rfl|(refine nilEq ?_;first|rfl|(simp only [*];done)|(simp [*];done)|grind)|apply And.intro|((first|apply intEq|apply boolEq|apply strEq|apply psEq|apply nilEq|apply arrEq);(try simp only [Int.toNat_natCast,etas,elDef]);first | done | omega | grind | (simp only [*]; done) | (simp [*]; done)))));(all_goals ((try simp only [Int.toNat_natCast,etas,elDef]);first | done | omega | grind | (simp only [*]; done) | (simp [*]; done))), (by exact sgOk_of (by rfl))⟩
  · exact leafV hK (by simp [stC, List.take_of_length_le ‹l.length ≤ i›])
theorem s125 : (CtrOK Try.prog 125 (.gen .ln C125) ∧ Callable Try.prog 125) := by
  refine gen_ok (E := E125) (mkE_cons s90 (mkE_nil tab_ok)) mix (O := O125) (C := C125) (own := .ps) Try.func125 rfl (by rfl) (by kernel_rfl) (fun args K h hbd => ?_)
  unfold C125 at h; split at h
  case h_3 => exact h.elim
  case h_2 => exact ⟨Nat.le_of_ble_eq_true rfl, a125b _ _ (by exact hbd) _ h⟩
  exact ⟨Nat.le_of_ble_eq_true rfl, a125 ⟨_, _⟩ (by exact hbd) _ h⟩
noncomputable def c103 (s : Sto) (b : Bs) (K : AV → List AV → Prop) : Prop :=
    Obl (smS s ∧ 0 ≤ s.clock ∧ s.clock ≤ 10000) (K (.st [.own .item (dropL s.items b), .int .i64 (s.clock + 1)]) [])
noncomputable def c103b (l : List It) (c : Int) (b : Bs) (K : AV → List AV → Prop) : Prop :=
    Obl (smS ⟨l, c⟩ ∧ 0 ≤ c ∧ c ≤ 10000) (K (.st [.own .item (dropL l b), .int .i64 (c + 1)]) [.own .item l])
noncomputable def C103 : List AV → (AV → List AV → Prop) → Prop
  | [.st [.ps .item s_0, .int .i64 s_1], .str b], K => c103 ⟨s_0, s_1⟩ b K
  | [.tup [.st [.own .item l, .int .i64 c]], .str b], K => c103b l c b K
  | _, _ => False
noncomputable def E103 : Ctx := mkE tab [(125, .gen .ln C125)]
noncomputable def O103 : Nat → List DI := ordL []
theorem a103 (s : Sto) (b : Bs) (hb : BdAs [.st (stC s), .str b]) (K : AV → List AV → Prop) (h : c103 s b K) : abody E103 O103 .ow Try.f103 (Try.f103.body.getD .skip) [.st (stC s), .str b] K := by
  simp only [BdAs, BdA, BdL, BdC, MX, ndC, shC, itC, stC, opC, chC, nwC, flC, rqC, rsC, enc, List.cons_append, List.nil_append, and_true, true_and] at hb
  unfold c103 at h
  obtain ⟨⟨hs, hc⟩, hK⟩ := h
  have h3 := hs.1
  conv => whnf
  repeat' first|((first|refine Cnd.mk (fun h=>?_) (fun h=>?_)|refine Gd.mk (fun h=>?_))<;>(try simp [etas,elDef,-List.getD_eq_getElem?_getD] at h)<;>conv=>whnf)|((first|refine Obl.mk (by first|omega|rfl|exact inK_byte _|(simp only [inK,Int.toNat_natCast,etas,elDef]<;>first|omega|grind)|grind [inK]) ?_|refine OblG.mk (by ((conv=>whnf);(repeat (first|refine Bx.mk ?_|(intro h;(try simp [etas,elDef,-List.getD_eq_getElem?_getD] at h);conv=>whnf)));(first|omega|rfl|exact inK_byte _|(simp only [inK,Int.toNat_natCast,etas,elDef]<;>first|omega|grind)|grind [inK]))) ?_|refine And.intro ?_ ?_)<;>conv=>whnf)|exact True.intro|(intro;conv=>whnf)
  refine aloop_intro Nat (fun k => k ≤ s.items.length ∧ True) (fun k => s.items.length - k) (fun k => [(7, .int .i64 k), (5, .ls 900)]) (fun k => [(900, .arr .item (dropL (s.items.take k) b))]) [2, 4] 0 [(900, 8)] [] ?_ ?_ (by exact sgOk_of (by rfl)) ?_
  · first | (simp; done) | (simp; assumption)
  · iterate 2 ((all_goals (conv=>whnf));(repeat' (first|exact trivial|rfl|(refine nilEq ?_;first|rfl|(simp only [*];done)|(simp [*];done)|grind)|apply And.intro|((first|apply intEq|apply boolEq|apply strEq|apply psEq|apply nilEq|apply arrEq);(try simp only [Int.toNat_natCast,etas,elDef]);first | done | omega | grind | (simp only [*]; done) | (simp [*]; done)))));(all_goals ((try simp only [Int.toNat_natCast,etas,elDef]);first | done | omega | grind | (simp only [*]; done) | (simp [*]; done)))
  rintro i ⟨hi, hj⟩
  conv => whnf
  have hle : (dropL (s.items.take i) b).length ≤ s.items.length := Nat.le_trans (dropL_len _ _) (List.length_take_le' _ _)
  have htk := fun h => dropL_take (l := s.items) (b := b) (i := i) h
  repeat' first|((first|refine Cnd.mk (fun h=>?_) (fun h=>?_)|refine Gd.mk (fun h=>?_))<;>(try simp [etas,elDef,-List.getD_eq_getElem?_getD] at h)<;>conv=>whnf)|((first|refine Obl.mk (by first|omega|rfl|exact inK_byte _|(simp only [inK,Int.toNat_natCast,etas,elDef]<;>first|omega|grind)|grind [inK]) ?_|refine OblG.mk (by ((conv=>whnf);(repeat (first|refine Bx.mk ?_|(intro h;(try simp [etas,elDef,-List.getD_eq_getElem?_getD] at h);conv=>whnf)));(first|omega|rfl|exact inK_byte _|(simp only [inK,Int.toNat_natCast,etas,elDef]<;>first|omega|grind)|grind [inK]))) ?_|refine And.intro ?_ ?_)<;>conv=>whnf)|exact True.intro|(intro;conv=>whnf)
  · exact ⟨i + 1, [(900, 31)], [], ⟨by omega, by grind⟩, by omega, by iterate 2 ((all_goals (conv=>whnf));(repeat' (first|exact trivial|rfl|(refine nilEq ?_;first|rfl|(simp only [*];done)|(simp [*];done)|grind)|apply And.intro|((first|apply intEq|apply boolEq|apply strEq|apply psEq|apply nilEq|apply arrEq);(try simp only [Int.toNat_natCast,etas,elDef]);first | done | omega | grind | (simp only [*]; done) | (simp [*]; done)))));(all_goals ((try simp only [Int.toNat_natCast,etas,elDef]);first | done | omega | grind | (simp only [*]; done) | (simp [*]; done))), (by exact sgOk_of (by rfl))⟩
  · exact ⟨i + 1, [], [], ⟨by omega, by grind⟩, by omega, by iterate 2 ((all_goals (conv=>whnf));(repeat' (first|exact trivial|rfl|(refine nilEq ?_;first|rfl|(simp only [*];done)|(simp [*];done)|grind)|apply And.intro|((first|apply intEq|apply boolEq|apply strEq|apply psEq|apply nilEq|apply arrEq);(try simp only [Int.toNat_natCast,etas,elDef]);first | done | omega | grind | (simp only [*]; done) | (simp [*]; done)))));(all_goals ((try simp only [Int.toNat_natCast,etas,elDef]);first | done | omega | grind | (simp only [*]; done) | (simp [*]; done))), (by exact sgOk_of (by rfl))⟩
  · exact leafV hK (by simp [List.take_of_length_le ‹s.items.length ≤ i›])
theorem a103b (l : List It) (c : Int) (b : Bs) (hb : BdAs [.tup [.st [.own .item l, .int .i64 c]], .str b]) (K : AV → List AV → Prop) (h : c103b l c b K) : abody E103 O103 .ow Try.f103 (Try.f103.body.getD .skip) [.tup [.st [.own .item l, .int .i64 c]], .str b] K := by
  simp only [BdAs, BdA, BdL, BdC, MX, ndC, shC, itC, stC, opC, chC, nwC, flC, rqC, rsC, enc, List.cons_append, List.nil_append, and_true, true_and] at hb
  unfold c103b at h
  obtain ⟨⟨hs, hc⟩, hK⟩ := h
  have h3 := hs.1
  simp only at h3
  conv => whnf
  repeat' first|((first|refine Cnd.mk (fun h=>?_) (fun h=>?_)|refine Gd.mk (fun h=>?_))<;>(try simp [etas,elDef,-List.getD_eq_getElem?_getD] at h)<;>conv=>whnf)|((first|refine Obl.mk (by first|omega|rfl|exact inK_byte _|(simp only [inK,Int.toNat_natCast,etas,elDef]<;>first|omega|grind)|grind [inK]) ?_|refine OblG.mk (by ((conv=>whnf);(repeat (first|refine Bx.mk ?_|(intro h;(try simp [etas,elDef,-List.getD_eq_getElem?_getD] at h);conv=>whnf)));(first|omega|rfl|exact inK_byte _|(simp only [inK,Int.toNat_natCast,etas,elDef]<;>first|omega|grind)|grind [inK]))) ?_|refine And.intro ?_ ?_)<;>conv=>whnf)|exact True.intro|(intro;conv=>whnf)
  refine aloop_intro Nat (fun k => k ≤ l.length ∧ True) (fun k => l.length - k) (fun k => [(7, .int .i64 k), (5, .ls 900)]) (fun k => [(900, .arr .item (dropL (l.take k) b))]) [2, 4, 1000000] 0 [(900, 8)] [] ?_ ?_ (by exact sgOk_of (by rfl)) ?_
  · first | (simp; done) | (simp; assumption)
  · iterate 2 ((all_goals (conv=>whnf));(repeat' (first|exact trivial|rfl|(refine nilEq ?_;first|rfl|(simp only [*];done)|(simp [*];done)|grind)|apply And.intro|((first|apply intEq|apply boolEq|apply strEq|apply psEq|apply nilEq|apply arrEq);(try simp only [Int.toNat_natCast,etas,elDef]);first | done | omega | grind | (simp only [*]; done) | (simp [*]; done)))));(all_goals ((try simp only [Int.toNat_natCast,etas,elDef]);first | done | omega | grind | (simp only [*]; done) | (simp [*]; done)))
  rintro i ⟨hi, hj⟩
  conv => whnf
  have hle : (dropL (l.take i) b).length ≤ l.length := Nat.le_trans (dropL_len _ _) (List.length_take_le' _ _)
  have htk := fun h => dropL_take (l := l) (b := b) (i := i) h
  repeat' first|((first|refine Cnd.mk (fun h=>?_) (fun h=>?_)|refine Gd.mk (fun h=>?_))<;>(try simp [etas,elDef,-List.getD_eq_getElem?_getD] at h)<;>conv=>whnf)|((first|refine Obl.mk (by first|omega|rfl|exact inK_byte _|(simp only [inK,Int.toNat_natCast,etas,elDef]<;>first|omega|grind)|grind [inK]) ?_|refine OblG.mk (by ((conv=>whnf);(repeat (first|refine Bx.mk ?_|(intro h;(try simp [etas,elDef,-List.getD_eq_getElem?_getD] at h);conv=>whnf)));(first|omega|rfl|exact inK_byte _|(simp only [inK,Int.toNat_natCast,etas,elDef]<;>first|omega|grind)|grind [inK]))) ?_|refine And.intro ?_ ?_)<;>conv=>whnf)|exact True.intro|(intro;conv=>whnf)
  · exact ⟨i + 1, [(900, 31)], [], ⟨by omega, by grind⟩, by omega, by iterate 2 ((all_goals (conv=>whnf));(repeat' (first|exact trivial|rfl|(refine nilEq ?_;first|rfl|(simp only [*];done)|(simp [*];done)|grind)|apply And.intro|((first|apply intEq|apply boolEq|apply strEq|apply psEq|apply nilEq|apply arrEq);(try simp only [Int.toNat_natCast,etas,elDef]);first | done | omega | grind | (simp only [*]; done) | (simp [*]; done)))));(all_goals ((try simp only [Int.toNat_natCast,etas,elDef]);first | done | omega | grind | (simp only [*]; done) | (simp [*]; done))), (by exact sgOk_of (by rfl))⟩
  · exact ⟨i + 1, [], [], ⟨by omega, by grind⟩, by omega, by iterate 2 ((all_goals (conv=>whnf));(repeat' (first|exact trivial|rfl|(refine nilEq ?_;first|rfl|(simp only [*];done)|(simp [*];done)|grind)|apply And.intro|((first|apply intEq|apply boolEq|apply strEq|apply psEq|apply nilEq|apply arrEq);(try simp only [Int.toNat_natCast,etas,elDef]);first | done | omega | grind | (simp only [*]; done) | (simp [*]; done)))));(all_goals ((try simp only [Int.toNat_natCast,etas,elDef]);first | done | omega | grind | (simp only [*]; done) | (simp [*]; done))), (by exact sgOk_of (by rfl))⟩
  · exact leafV hK (by simp [List.take_of_length_le ‹l.length ≤ i›])
theorem s103 : (CtrOK Try.prog 103 (.gen .ln C103) ∧ Callable Try.prog 103) := by
  refine gen_ok (E := E103) (mkE_cons s125 (mkE_nil tab_ok)) mix (O := O103) (C := C103) (own := .ow) Try.func103 rfl (by rfl) (by kernel_rfl) (fun args K h hbd => ?_)
  unfold C103 at h; split at h
  case h_3 => exact h.elim
  case h_2 => exact ⟨Nat.le_of_ble_eq_true rfl, a103b _ _ _ (by exact hbd) _ h⟩
  exact ⟨Nat.le_of_ble_eq_true rfl, a103 ⟨_, _⟩ _ (by exact hbd) _ h⟩
end Go.Rs

