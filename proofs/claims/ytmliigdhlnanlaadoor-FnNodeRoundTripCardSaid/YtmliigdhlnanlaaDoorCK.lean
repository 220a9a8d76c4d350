import Derived.Test.YtmliigdhlnanlaaDoorCJ
import Derived.Test.YtmliigdhlnanlaaDoorCD
import Derived.Test.YtmliigdhlnanlaaDoorMB
set_option linter.all false
set_option linter.unusedSimpArgs false
set_option linter.unusedVariables false
namespace Go.Rs
open Go.Proofs
set_option maxRecDepth 100000
noncomputable def v58 (n : Int) : AV := .str (decM n.toNat)
noncomputable def o58 (n : Int) : Prop := 0 ≤ n ∧ n ≤ 1000000000000
noncomputable def m58 (n : Int) : Nat := n.toNat
noncomputable def F58 : List AV → QR
  | [.int .i64 n] => some (some (o58 n), v58 n)
  | _ => none
noncomputable def Fk58 (k : Nat) : List AV → QR
  | [.int .i64 n] => some (some (m58 n < k ∧ o58 n), v58 n)
  | _ => none
noncomputable def E58 (k : Nat) : Ctx := mkE tab [(58, .pure (Fk58 k))]
noncomputable def O58 : Nat → List DI := ordL [(7, [.q 0, .q 1, .q 2, .q 3, .q 4, .q 5, .q 6, .l 7 [2], .q 8, .q 9, .q 10])]
theorem a58 (k : Nat) (n : Int) (hm : m58 n < k + 1) (hb : BdAs [.int .i64 n]) (ho : o58 n) (K : AV → List AV → Prop) (hK : K (v58 n) []) : abody (E58 k) O58 .ps Tryd.f58 (Tryd.f58.body.getD .skip) [.int .i64 n] K := by
  simp only [BdAs, BdA, BdL, BdC, MX, ndC, shC, itC, stC, opC, chC, nwC, flC, rqC, rsC, enc, List.cons_append, List.nil_append, and_true, true_and] at hb
  unfold o58 at ho
  unfold v58 at hK
  unfold m58 at hm
  have h1 := fun h => decM_lt (n := n.toNat) h
  have h2 := fun h => decM_ge (n := n.toNat) h
  have h3 := decM_len (n / 10).toNat
  conv => whnf
  repeat' first|((first|refine Cnd.mk (fun h=>?_) (fun h=>?_)|refine Gd.mk (fun h=>?_))<;>(try simp [etas,elDef,-List.getD_eq_getElem?_getD] at h)<;>conv=>whnf)|((first|refine Obl.mk (by first|omega|rfl|exact inK_byte _|(simp only [inK,Int.toNat_natCast,etas,elDef,m58,o58,m58]<;>first|omega|grind)|grind [inK,m58,o58,m58]) ?_|refine OblG.mk (by ((conv=>whnf);(repeat (first|refine Bx.mk ?_|(intro h;(try simp [etas,elDef,-List.getD_eq_getElem?_getD] at h);conv=>whnf)));(first|omega|rfl|exact inK_byte _|(simp only [inK,Int.toNat_natCast,etas,elDef,m58,o58,m58]<;>first|omega|grind)|grind [inK,m58,o58,m58]))) ?_|refine And.intro ?_ ?_)<;>conv=>whnf)|exact True.intro|(intro;conv=>whnf)
  · exfalso; omega
  · exfalso; omega
  · exact leafS hK (by rw [h1 (by omega)]; simp only [List.map_cons, List.map_nil]; rw [show (48 + n).toNat = 48 + n.toNat by omega])
  · exact leafS hK (by rw [h2 (by omega)]; simp only [List.map_cons, List.map_nil]; rw [show (48 + n % 10).toNat = 48 + n.toNat % 10 by omega, show (n / 10).toNat = n.toNat / 10 by omega])
theorem r58 : ∀ k, (CtrOK Tryd.prog 58 (.pure (Fk58 k)) ∧ Callable Tryd.prog 58) := by
  intro k
  induction k with
  | zero =>
    exact ⟨⟨fun args o v h => by unfold Fk58 at h; split at h <;> cases h; first | trivial | (simp [v58, Scalar, Scalar2, Scalar1, stC, ndC, itC, chC, nwC]), fun args K h => by
        unfold pureC Fk58 at h; split at h
        · rename_i h1; split at h1 <;> cases h1; exact absurd (h.1 _ rfl).1 (Nat.not_lt_zero _)
        · exact h.elim⟩, callable Tryd.func58 rfl (by rfl)⟩
  | succ k ih =>
    refine pure_ok (E := E58 k) (mkE_cons ih (mkE_nil tab_ok)) mix (O := O58) (F := (Fk58 (k + 1))) Tryd.func58 rfl (by rfl) (by kernel_rfl) (fun args o v h => ?_) (fun args o v h => ?_) (fun args o v h hbd hp K hK => ?_)
    · unfold Fk58 at h; split at h <;> cases h; first | trivial | (simp [v58, Scalar, Scalar2, Scalar1, stC, ndC, itC, chC, nwC])
    · unfold Fk58 at h; split at h <;> cases h; exact Nat.le_of_ble_eq_true rfl
    · unfold Fk58 at h; split at h
      case h_2 => cases h
      cases h
      exact a58 k _ (hp _ rfl).1 (by exact hbd) (hp _ rfl).2 K hK
theorem s58 : (CtrOK Tryd.prog 58 (.pure F58) ∧ Callable Tryd.prog 58) := by
  refine ⟨⟨fun args o v h => ?_, fun args K h => ?_⟩, (r58 0).2⟩
  · unfold F58 at h; split at h <;> cases h; first | trivial | (simp [v58, Scalar, Scalar2, Scalar1, stC, ndC, itC, chC, nwC])
  · unfold pureC F58 at h; split at h
    · rename_i h1; split at h1 <;> cases h1
      exact (r58 (m58 _ + 1)).1.2 _ K ⟨fun p hp => by cases hp; exact ⟨Nat.lt_succ_self _, (h.1 _ rfl)⟩, h.2⟩
    · exact h.elim
noncomputable def v90 (n : Nd) (b : Bs) : AV := .int .i64 (placeM n b)
noncomputable def o90 (n : Nd) (b : Bs) : Prop := n.kids.length ≤ 1000000000 ∧ (n.kind = 4 → n.names.length = n.kids.length)
noncomputable def F90 : List AV → QR
  | [.st [.int .i64 n_0, .int .i64 n_1, .str n_2, .ps .str n_3, .ps .node n_4], .str b] => some (some (o90 ⟨n_0, n_1, n_2, n_3, n_4⟩ b), v90 ⟨n_0, n_1, n_2, n_3, n_4⟩ b)
  | _ => none
noncomputable def E90 : Ctx := mkE tab [(58, .pure F58)]
noncomputable def O90 : Nat → List DI := ordL []
theorem a90 (n : Nd) (b : Bs) (hb : BdAs [.st (ndC n), .str b]) (ho : o90 n b) (K : AV → List AV → Prop) (hK : K (v90 n b) []) : abody E90 O90 .ps Tryd.f90 (Tryd.f90.body.getD .skip) [.st (ndC n), .str b] K := by
  simp only [BdAs, BdA, BdL, BdC, MX, ndC, shC, itC, stC, opC, chC, nwC, flC, rqC, rsC, enc, List.cons_append, List.nil_append, and_true, true_and] at hb
  unfold o90 at ho
  unfold v90 at hK
  obtain ⟨ho1, ho2⟩ := ho
  conv => whnf
  refine aloop_intro Nat (fun k => k ≤ n.kids.length ∧ ∀ j, j < k → hitM n b j = false) (fun k => n.kids.length - k) (fun k => [(5, .int .i64 k)]) (fun k => []) [2] 0 [] [] ?_ ?_ (by exact sgOk_of (by rfl)) ?_
  · first | (simp; done) | (simp; assumption)
  · iterate 2 ((all_goals (conv=>whnf));(repeat' (first|exact trivial|rfl|(refine nilEq ?_;first|rfl|(simp only [*];done)|(simp [*];done)|grind)|apply And.intro|((first|apply intEq|apply boolEq|apply strEq|apply psEq|apply nilEq|apply arrEq);(try simp only [Int.toNat_natCast,etas,elDef]);first | done | omega | grind | (simp only [*]; done) | (simp [*]; done)))));(all_goals ((try simp only [Int.toNat_natCast,etas,elDef]);first | done | omega | grind | (simp only [*]; done) | (simp [*]; done)))
  rintro i ⟨hi, hj⟩
  conv => whnf
  repeat' first|((first|refine Cnd.mk (fun h=>?_) (fun h=>?_)|refine Gd.mk (fun h=>?_))<;>(try simp [etas,elDef,-List.getD_eq_getElem?_getD] at h)<;>conv=>whnf)|((first|refine Obl.mk (by first|omega|rfl|exact inK_byte _|(simp only [inK,Int.toNat_natCast,etas,elDef,o58,m58]<;>first|omega|grind)|grind [inK,o58,m58]) ?_|refine OblG.mk (by ((conv=>whnf);(repeat (first|refine Bx.mk ?_|(intro h;(try simp [etas,elDef,-List.getD_eq_getElem?_getD] at h);conv=>whnf)));(first|omega|rfl|exact inK_byte _|(simp only [inK,Int.toNat_natCast,etas,elDef,o58,m58]<;>first|omega|grind)|grind [inK,o58,m58]))) ?_|refine And.intro ?_ ?_)<;>conv=>whnf)|exact True.intro|(intro;conv=>whnf)
  · exact leafI hK (placeM_at (by omega) (hitM_iff.2 (h.imp (fun h => ⟨h.1, of_decide_eq_true h.2⟩) id)) hj)
  · have hi : hitM n b i = false := hitM_no ⟨fun e => of_decide_eq_false (h.1 e), h.2⟩
    have hj' : ∀ j, j < i + 1 → hitM n b j = false := fun j h => (Nat.lt_or_eq_of_le (Nat.le_of_lt_succ h)).elim (hj j) (fun e => e ▸ hi)
    exact ⟨i + 1, [], [], ⟨by omega, by grind⟩, by omega, by iterate 2 ((all_goals (conv=>whnf));(repeat' (first|exact trivial|rfl|(refine nilEq ?_;first|rfl|(simp only [*];done)|(simp [*];done)|grind)|apply And.intro|((first|apply intEq|apply boolEq|apply strEq|apply psEq|apply nilEq|apply arrEq);(try simp only [Int.toNat_natCast,etas,elDef]);exact hj'))));(all_goals ((try simp only [Int.toNat_natCast,etas,elDef]);exact hj')), (by exact sgOk_of (by rfl))⟩
  · exact leafI hK (placeM_none (by grind))
theorem s90 : (CtrOK Tryd.prog 90 (.pure F90) ∧ Callable Tryd.prog 90) := by
  refine pure_ok (E := E90) (mkE_cons s58 (mkE_nil tab_ok)) mix (O := O90) (F := F90) Tryd.func90 rfl (by rfl) (by kernel_rfl) (fun args o v h => ?_) (fun args o v h => ?_) (fun args o v h hbd hp K hK => ?_)
  · unfold F90 at h; split at h <;> cases h; first | trivial | (simp [v90, Scalar, Scalar2, Scalar1, stC, ndC, itC, chC, nwC])
  · unfold F90 at h; split at h <;> cases h; exact Nat.le_of_ble_eq_true rfl
  · unfold F90 at h; split at h
    case h_2 => cases h
    cases h
    exact a90 ⟨_, _, _, _, _⟩ _ (by exact hbd) (hp _ rfl) K hK
noncomputable def v98 (n : Nd) (b : Bs) : AV := .tup [.int .i64 (slotM n b).1, .bool (slotM n b).2]
noncomputable def o98 (n : Nd) (b : Bs) : Prop := n.kids.length ≤ 1000000000 ∧ (n.kind = 4 → n.names.length = n.kids.length)
noncomputable def F98 : List AV → QR
  | [.st [.int .i64 n_0, .int .i64 n_1, .str n_2, .ps .str n_3, .ps .node n_4], .str b] => some (some (o98 ⟨n_0, n_1, n_2, n_3, n_4⟩ b), v98 ⟨n_0, n_1, n_2, n_3, n_4⟩ b)
  | _ => none
noncomputable def E98 : Ctx := mkE tab [(58, .pure F58), (90, .pure F90)]
noncomputable def O98 : Nat → List DI := ordL [(3, [.q 0, .q 1, .q 2, .q 3, .q 4, .q 5])]
theorem a98 (n : Nd) (b : Bs) (hb : BdAs [.st (ndC n), .str b]) (ho : o98 n b) (K : AV → List AV → Prop) (hK : K (v98 n b) []) : abody E98 O98 .ps Tryd.f98 (Tryd.f98.body.getD .skip) [.st (ndC n), .str b] K := by
  simp only [BdAs, BdA, BdL, BdC, MX, ndC, shC, itC, stC, opC, chC, nwC, flC, rqC, rsC, enc, List.cons_append, List.nil_append, and_true, true_and] at hb
  unfold o98 at ho
  unfold v98 at hK
  obtain ⟨ho1, ho2⟩ := ho
  conv => whnf
  repeat' first|((first|refine Cnd.mk (fun h=>?_) (fun h=>?_)|refine Gd.mk (fun h=>?_))<;>(try simp [etas,elDef,-List.getD_eq_getElem?_getD] at h)<;>conv=>whnf)|((first|refine Obl.mk (by first|omega|rfl|exact inK_byte _|(simp only [inK,Int.toNat_natCast,etas,elDef,o58,m58,o90]<;>first|omega|grind)|grind [inK,o58,m58,o90]) ?_|refine OblG.mk (by ((conv=>whnf);(repeat (first|refine Bx.mk ?_|(intro h;(try simp [etas,elDef,-List.getD_eq_getElem?_getD] at h);conv=>whnf)));(first|omega|rfl|exact inK_byte _|(simp only [inK,Int.toNat_natCast,etas,elDef,o58,m58,o90]<;>first|omega|grind)|grind [inK,o58,m58,o90]))) ?_|refine And.intro ?_ ?_)<;>conv=>whnf)|exact True.intro|(intro;conv=>whnf)
  · have e : slotM n b = (placeM n b, decide (n.kind = 4)) := by unfold slotM; rw [if_pos h]
    rw [e] at hK
    exact hK
  · have e : slotM n b = ((n.kids.length : Int), false) := by unfold slotM; rw [if_neg (by omega), if_pos h]
    rw [e] at hK
    exact hK
  · refine aloop_intro Nat (fun k => k ≤ n.kids.length + 1 ∧ (∀ j, j < k → ltS b (n.names.getD j []) = false) ∧ (n.kind = 4 → k ≤ n.kids.length)) (fun k => n.kids.length + 1 - k) (fun k => [(7, .int .i64 k)]) (fun k => []) [2] 0 [] [] ?_ ?_ (by exact sgOk_of (by rfl)) ?_
    · first | (simp; done) | (simp; assumption)
    · iterate 2 ((all_goals (conv=>whnf));(repeat' (first|exact trivial|rfl|(refine nilEq ?_;first|rfl|(simp only [*];done)|(simp [*];done)|grind)|apply And.intro|((first|apply intEq|apply boolEq|apply strEq|apply psEq|apply nilEq|apply arrEq);(try simp only [Int.toNat_natCast,etas,elDef]);first | done | omega | grind | (simp only [*]; done) | (simp [*]; done)))));(all_goals ((try simp only [Int.toNat_natCast,etas,elDef]);first | done | omega | grind | (simp only [*]; done) | (simp [*]; done)))
    rintro i ⟨hi, hj⟩
    conv => whnf
    repeat' first|((first|refine Cnd.mk (fun h=>?_) (fun h=>?_)|refine Gd.mk (fun h=>?_))<;>(try simp [etas,elDef,-List.getD_eq_getElem?_getD] at h)<;>conv=>whnf)|((first|refine Obl.mk (by first|omega|rfl|exact inK_byte _|(simp only [inK,Int.toNat_natCast,etas,elDef,o58,m58,o90]<;>first|omega|grind)|grind [inK,o58,m58,o90]) ?_|refine OblG.mk (by ((conv=>whnf);(repeat (first|refine Bx.mk ?_|(intro h;(try simp [etas,elDef,-List.getD_eq_getElem?_getD] at h);conv=>whnf)));(first|omega|rfl|exact inK_byte _|(simp only [inK,Int.toNat_natCast,etas,elDef,o58,m58,o90]<;>first|omega|grind)|grind [inK,o58,m58,o90]))) ?_|refine And.intro ?_ ?_)<;>conv=>whnf)|exact True.intro|(intro;conv=>whnf)
    · have e1 := slotI_at (n := n) (b := b) (i := i) (by omega) (fun hl => by rcases h with h | h <;> first | omega | exact h) hj.1
      have e : slotM n b = ((i : Int), false) := by unfold slotM; rw [if_neg (by omega), if_neg (by grind), if_pos (by omega), e1]
      rw [e] at hK
      exact hK
    · have hj' : ∀ j, j < i + 1 → ltS b (n.names.getD j []) = false := fun j hl => (Nat.lt_or_eq_of_le (Nat.le_of_lt_succ hl)).elim (hj.1 j) (fun e => e ▸ h.2)
      exact ⟨i + 1, [], [], ⟨by omega, by grind⟩, by omega, by iterate 2 ((all_goals (conv=>whnf));(repeat' (first|exact trivial|rfl|(refine nilEq ?_;first|rfl|(simp only [*];done)|(simp [*];done)|grind)|apply And.intro|((first|apply intEq|apply boolEq|apply strEq|apply psEq|apply nilEq|apply arrEq);(try simp only [Int.toNat_natCast,etas,elDef]);exact ⟨hj', by omega⟩))));(all_goals ((try simp only [Int.toNat_natCast,etas,elDef]);exact ⟨hj', by omega⟩)), (by exact sgOk_of (by rfl))⟩
    · have e4 : ¬ n.kind = 4 := by omega
      have e : slotM n b = (-1, false) := by unfold slotM; rw [if_neg (by omega), if_neg (by grind), if_neg e4]
      rw [e] at hK
      exact hK
theorem s98 : (CtrOK Tryd.prog 98 (.pure F98) ∧ Callable Tryd.prog 98) := by
  refine pure_ok (E := E98) (mkE_cons s58 (mkE_cons s90 (mkE_nil tab_ok))) mix (O := O98) (F := F98) Tryd.func98 rfl (by rfl) (by kernel_rfl) (fun args o v h => ?_) (fun args o v h => ?_) (fun args o v h hbd hp K hK => ?_)
  · unfold F98 at h; split at h <;> cases h; first | trivial | (simp [v98, Scalar, Scalar2, Scalar1, stC, ndC, itC, chC, nwC])
  · unfold F98 at h; split at h <;> cases h; exact Nat.le_of_ble_eq_true rfl
  · unfold F98 at h; split at h
    case h_2 => cases h
    cases h
    exact a98 ⟨_, _, _, _, _⟩ _ (by exact hbd) (hp _ rfl) K hK
noncomputable def c99 (n : Nd) (i : Int) (x : Nd) (K : AV → List AV → Prop) : Prop :=
    False
noncomputable def C99 : List AV → (AV → List AV → Prop) → Prop
  | [.st [.int .i64 n_0, .int .i64 n_1, .str n_2, .ps .str n_3, .ps .node n_4], .int .i64 i, .st [.int .i64 x_0, .int .i64 x_1, .str x_2, .ps .str x_3, .ps .node x_4]], K => c99 ⟨n_0, n_1, n_2, n_3, n_4⟩ i ⟨x_0, x_1, x_2, x_3, x_4⟩ K
  | _, _ => False
noncomputable def E99 : Ctx := mkE tab [(51, .gen .ps C51)]
noncomputable def O99 : Nat → List DI := ordL [(2, [.q 0, .q 1, .q 2, .q 3, .l 4 [1], .q 5, .l 6 []])]
theorem a99 (n : Nd) (i : Int) (x : Nd) (hb : BdAs [.st (ndC n), .int .i64 i, .st (ndC x)]) (K : AV → List AV → Prop) (h : c99 n i x K) : abody E99 O99 .ps Tryd.f99 (Tryd.f99.body.getD .skip) [.st (ndC n), .int .i64 i, .st (ndC x)] K := by
  simp only [BdAs, BdA, BdL, BdC, MX, ndC, shC, itC, stC, opC, chC, nwC, flC, rqC, rsC, enc, List.cons_append, List.nil_append, and_true, true_and] at hb
  unfold c99 at h
  exact h.elim
theorem s99 : (CtrOK Tryd.prog 99 (.gen .ps C99) ∧ Callable Tryd.prog 99) := by
  refine gen_ok (E := E99) (mkE_cons s51 (mkE_nil tab_ok)) mix (O := O99) (C := C99) (own := .ps) Tryd.func99 rfl (by rfl) (by kernel_rfl) (fun args K h hbd => ?_)
  unfold C99 at h; split at h
  case h_2 => exact h.elim
  exact ⟨Nat.le_of_ble_eq_true rfl, a99 ⟨_, _, _, _, _⟩ _ ⟨_, _, _, _, _⟩ (by exact hbd) _ h⟩
noncomputable def c91 (n1 : Int) (n2 : Int) (n3 : Bs) (n4 : List Bs) (n5 : List Nd) (b : Bs) (x1 : Int) (x2 : Int) (x3 : Bs) (x4 : List Bs) (x5 : List Nd) (K : AV → List AV → Prop) : Prop :=
    Obl ((smN ⟨n1, n2, n3, n4, n5⟩ ∧ smN ⟨x1, x2, x3, x4, x5⟩) ∧ n5.length ≤ 1000000 ∧ n4.length ≤ 1000000 ∧ evenN ⟨n1, n2, n3, n4, n5⟩ ∧ placeM ⟨n1, n2, n3, n4, n5⟩ b < 0) (K (optNO (addHereM ⟨n1, n2, n3, n4, n5⟩ b ⟨x1, x2, x3, x4, x5⟩)) [])
noncomputable def C91 : List AV → (AV → List AV → Prop) → Prop
  | [.st [.int .i64 n1, .int .i64 n2, .str n3, .own .str n4, .own .node n5], .str b, .st [.int .i64 x1, .int .i64 x2, .str x3, .own .str x4, .own .node x5]], K => c91 n1 n2 n3 n4 n5 b x1 x2 x3 x4 x5 K
  | _, _ => False
noncomputable def E91 : Ctx := mkE tab [(51, .gen .ps C51), (98, .pure F98), (99, .gen .ps C99)]
noncomputable def O91 : Nat → List DI := ordL [(7, [.q 1, .q 2, .q 3, .q 4, .q 6, .l 0 [2, 4, 6], .l 5 [6], .l 7 [], .l 8 [], .l 9 [], .q 10])]
theorem a91 (n1 : Int) (n2 : Int) (n3 : Bs) (n4 : List Bs) (n5 : List Nd) (b : Bs) (x1 : Int) (x2 : Int) (x3 : Bs) (x4 : List Bs) (x5 : List Nd) (hb : BdAs [.st [.int .i64 n1, .int .i64 n2, .str n3, .own .str n4, .own .node n5], .str b, .st [.int .i64 x1, .int .i64 x2, .str x3, .own .str x4, .own .node x5]]) (K : AV → List AV → Prop) (h : c91 n1 n2 n3 n4 n5 b x1 x2 x3 x4 x5 K) : abody E91 O91 .ow Tryd.f91 (Tryd.f91.body.getD .skip) [.st [.int .i64 n1, .int .i64 n2, .str n3, .own .str n4, .own .node n5], .str b, .st [.int .i64 x1, .int .i64 x2, .str x3, .own .str x4, .own .node x5]] K := by
  simp only [BdAs, BdA, BdL, BdC, MX, ndC, shC, itC, stC, opC, chC, nwC, flC, rqC, rsC, enc, List.cons_append, List.nil_append, and_true, true_and] at hb
  unfold c91 at h
  obtain ⟨⟨⟨hn, hx⟩, hl⟩, hK⟩ := h
  have hge := slotM_ge ⟨n1, n2, n3, n4, n5⟩ b
  simp only at hge
  have hev : n1 = 4 → n4.length = n5.length := hl.2.2.1
  have hth : (slotM ⟨n1, n2, n3, n4, n5⟩ b).2 = false := slotM_not hl.2.2.2
  conv => whnf
  repeat' first|((first|refine Cnd.mk (fun h=>?_) (fun h=>?_)|refine Gd.mk (fun h=>?_))<;>(try simp [etas,elDef,-List.getD_eq_getElem?_getD] at h)<;>conv=>whnf)|((first|refine Obl.mk (by first|omega|rfl|exact inK_byte _|(simp only [inK,Int.toNat_natCast,etas,elDef,m51,o98]<;>first|omega|grind)|grind [inK,m51,o98]) ?_|refine OblG.mk (by ((conv=>whnf);(repeat (first|refine Bx.mk ?_|(intro h;(try simp [etas,elDef,-List.getD_eq_getElem?_getD] at h);conv=>whnf)));(first|omega|rfl|exact inK_byte _|(simp only [inK,Int.toNat_natCast,etas,elDef,m51,o98]<;>first|omega|grind)|grind [inK,m51,o98]))) ?_|refine And.intro ?_ ?_)<;>conv=>whnf)|exact True.intro|(intro;conv=>whnf)
  · have e : addHereM ⟨n1, n2, n3, n4, n5⟩ b ⟨x1, x2, x3, x4, x5⟩ = none := by unfold addHereM; rw [if_pos h]
    exact leafV hK (by rw [e]; simp [optNO]; exact ⟨rfl, rfl, rfl, rfl, rfl⟩)
  · rw [hth] at h; cases h
  · have e : addHereM ⟨n1, n2, n3, n4, n5⟩ b ⟨x1, x2, x3, x4, x5⟩ = some ⟨n1, 0, [], [], insM n5 (slotM ⟨n1, n2, n3, n4, n5⟩ b).1.toNat ⟨x1, x2, x3, x4, x5⟩⟩ := by unfold addHereM; rw [if_neg (by omega), if_neg (by grind)]; simp only [h, if_true]
    exact leafV hK (by rw [e]; simp [optNO, insM])
  · have e : addHereM ⟨n1, n2, n3, n4, n5⟩ b ⟨x1, x2, x3, x4, x5⟩ = some ⟨n1, 0, [], insM n4 (slotM ⟨n1, n2, n3, n4, n5⟩ b).1.toNat b, insM n5 (slotM ⟨n1, n2, n3, n4, n5⟩ b).1.toNat ⟨x1, x2, x3, x4, x5⟩⟩ := by unfold addHereM; rw [if_neg (by omega), if_neg (by grind)]; simp only [h, if_false]
    exact leafV hK (by rw [e]; simp [optNO, insM])
theorem s91 : (CtrOK Tryd.prog 91 (.gen .ow C91) ∧ Callable Tryd.prog 91) := by
  refine gen_ok (E := E91) (mkE_cons s51 (mkE_cons s98 (mkE_cons s99 (mkE_nil tab_ok)))) mix (O := O91) (C := C91) (own := .ow) Tryd.func91 rfl (by rfl) (by kernel_rfl) (fun args K h hbd => ?_)
  unfold C91 at h; split at h
  case h_2 => exact h.elim
  exact ⟨Nat.le_of_ble_eq_true rfl, a91 _ _ _ _ _ _ _ _ _ _ _ (by exact hbd) _ h⟩
end Go.Rs

