import Derived.Test.YtdgdekfdfcaheaaDoorCJ
import Derived.Test.YtdgdekfdfcaheaaDoorCD
import Derived.Test.YtdgdekfdfcaheaaDoorMB
set_option linter.all false
set_option linter.unusedSimpArgs false
set_option linter.unusedVariables false
namespace Go.Rs
open Go.Proofs
set_option maxRecDepth 100000
noncomputable def v32 (n : Int) : AV := .str (decM n.toNat)
noncomputable def o32 (n : Int) : Prop := 0 ≤ n ∧ n ≤ 1000000000000
noncomputable def m32 (n : Int) : Nat := n.toNat
noncomputable def F32 : List AV → QR
  | [.int .i64 n] => some (some (o32 n), v32 n)
  | _ => none
noncomputable def Fk32 (k : Nat) : List AV → QR
  | [.int .i64 n] => some (some (m32 n < k ∧ o32 n), v32 n)
  | _ => none
noncomputable def E32 (k : Nat) : Ctx := mkE tab [(32, .pure (Fk32 k))]
noncomputable def O32 : Nat → List DI := ordL [(7, [.q 0, .q 1, .q 2, .q 3, .q 4, .q 5, .q 6, .l 7 [2], .q 8, .q 9, .q 10])]
theorem a32 (k : Nat) (n : Int) (hm : m32 n < k + 1) (hb : BdAs [.int .i64 n]) (ho : o32 n) (K : AV → List AV → Prop) (hK : K (v32 n) []) : abody (E32 k) O32 .ps Tryd.f32 (Tryd.f32.body.getD .skip) [.int .i64 n] K := by
  simp only [BdAs, BdA, BdL, BdC, MX, ndC, shC, itC, stC, opC, chC, nwC, flC, rqC, rsC, enc, List.cons_append, List.nil_append, and_true, true_and] at hb
  unfold o32 at ho
  unfold v32 at hK
  unfold m32 at hm
  have h1 := fun h => decM_lt (n := n.toNat) h
  have h2 := fun h => decM_ge (n := n.toNat) h
  have h3 := decM_len (n / 10).toNat
  conv => whnf
  repeat' first|((first|refine Cnd.mk (fun h=>?_) (fun h=>?_)|refine Gd.mk (fun h=>?_))<;>(try simp [etas,elDef,-List.getD_eq_getElem?_getD] at h)<;>conv=>whnf)|((first|refine Obl.mk (by first|omega|rfl|exact inK_byte _|(simp only [inK,Int.toNat_natCast,etas,elDef,m32,o32,m32]<;>first|omega|grind)|grind [inK,m32,o32,m32]) ?_|refine OblG.mk (by ((conv=>whnf);(repeat (first|refine Bx.mk ?_|(intro h;(try simp [etas,elDef,-List.getD_eq_getElem?_getD] at h);conv=>whnf)));(first|omega|rfl|exact inK_byte _|(simp only [inK,Int.toNat_natCast,etas,elDef,m32,o32,m32]<;>first|omega|grind)|grind [inK,m32,o32,m32]))) ?_|refine And.intro ?_ ?_)<;>conv=>whnf)|exact True.intro|(intro;conv=>whnf)
  · exfalso; omega
  · exfalso; omega
  · exact leafS hK (by rw [h1 (by omega)]; simp only [List.map_cons, List.map_nil]; rw [show (48 + n).toNat = 48 + n.toNat by omega])
  · exact leafS hK (by rw [h2 (by omega)]; simp only [List.map_cons, List.map_nil]; rw [show (48 + n % 10).toNat = 48 + n.toNat % 10 by omega, show (n / 10).toNat = n.toNat / 10 by omega])
theorem r32 : ∀ k, (CtrOK Tryd.prog 32 (.pure (Fk32 k)) ∧ Callable Tryd.prog 32) := by
  intro k
  induction k with
  | zero =>
    exact ⟨⟨fun args o v h => by unfold Fk32 at h; split at h <;> cases h; first | trivial | (simp [v32, Scalar, Scalar2, Scalar1, stC, ndC, itC, chC, nwC]), fun args K h => by
        unfold pureC Fk32 at h; split at h
        · rename_i h1; split at h1 <;> cases h1; exact absurd (h.1 _ rfl).1 (Nat.not_lt_zero _)
        · exact h.elim⟩, callable Tryd.func32 rfl (by rfl)⟩
  | succ k ih =>
    refine pure_ok (E := E32 k) (mkE_cons ih (mkE_nil tab_ok)) mix (O := O32) (F := (Fk32 (k + 1))) Tryd.func32 rfl (by rfl) (by kernel_rfl) (fun args o v h => ?_) (fun args o v h => ?_) (fun args o v h hbd hp K hK => ?_)
    · unfold Fk32 at h; split at h <;> cases h; first | trivial | (simp [v32, Scalar, Scalar2, Scalar1, stC, ndC, itC, chC, nwC])
    · unfold Fk32 at h; split at h <;> cases h; exact Nat.le_of_ble_eq_true rfl
    · unfold Fk32 at h; split at h
      case h_2 => cases h
      cases h
      exact a32 k _ (hp _ rfl).1 (by exact hbd) (hp _ rfl).2 K hK
theorem s32 : (CtrOK Tryd.prog 32 (.pure F32) ∧ Callable Tryd.prog 32) := by
  refine ⟨⟨fun args o v h => ?_, fun args K h => ?_⟩, (r32 0).2⟩
  · unfold F32 at h; split at h <;> cases h; first | trivial | (simp [v32, Scalar, Scalar2, Scalar1, stC, ndC, itC, chC, nwC])
  · unfold pureC F32 at h; split at h
    · rename_i h1; split at h1 <;> cases h1
      exact (r32 (m32 _ + 1)).1.2 _ K ⟨fun p hp => by cases hp; exact ⟨Nat.lt_succ_self _, (h.1 _ rfl)⟩, h.2⟩
    · exact h.elim
noncomputable def v59 (n : Nd) (b : Bs) : AV := .int .i64 (placeM n b)
noncomputable def o59 (n : Nd) (b : Bs) : Prop := n.kids.length ≤ 1000000000 ∧ (n.kind = 4 → n.names.length = n.kids.length)
noncomputable def F59 : List AV → QR
  | [.st [.int .i64 n_0, .int .i64 n_1, .str n_2, .ps .str n_3, .ps .node n_4], .str b] => some (some (o59 ⟨n_0, n_1, n_2, n_3, n_4⟩ b), v59 ⟨n_0, n_1, n_2, n_3, n_4⟩ b)
  | _ => none
noncomputable def E59 : Ctx := mkE tab [(32, .pure F32)]
noncomputable def O59 : Nat → List DI := ordL []
theorem a59 (n : Nd) (b : Bs) (hb : BdAs [.st (ndC n), .str b]) (ho : o59 n b) (K : AV → List AV → Prop) (hK : K (v59 n b) []) : abody E59 O59 .ps Tryd.f59 (Tryd.f59.body.getD .skip) [.st (ndC n), .str b] K := by
  simp only [BdAs, BdA, BdL, BdC, MX, ndC, shC, itC, stC, opC, chC, nwC, flC, rqC, rsC, enc, List.cons_append, List.nil_append, and_true, true_and] at hb
  unfold o59 at ho
  unfold v59 at hK
  obtain ⟨ho1, ho2⟩ := ho
  conv => whnf
  refine aloop_intro Nat (fun k => k ≤ n.kids.length ∧ ∀ j, j < k → hitM n b j = false) (fun k => n.kids.length - k) (fun k => [(5, .int .i64 k)]) (fun k => []) [2] 0 [] [] ?_ ?_ (by exact sgOk_of (by rfl)) ?_
  · first | (simp; done) | (simp; assumption)
  · iterate 2 ((all_goals (conv=>whnf));(repeat' (first|exact trivial|rfl|(refine nilEq ?_;first|rfl|(simp only [*];done)|(simp [*];done)|grind)|apply And.intro|((first|apply intEq|apply boolEq|apply strEq|apply psEq|apply nilEq|apply arrEq);(try simp only [Int.toNat_natCast,etas,elDef]);first | done | omega | grind | (simp only [*]; done) | (simp [*]; done)))));(all_goals ((try simp only [Int.toNat_natCast,etas,elDef]);first | done | omega | grind | (simp only [*]; done) | (simp [*]; done)))
  rintro i ⟨hi, hj⟩
  conv => whnf
  repeat' first|((first|refine Cnd.mk (fun h=>?_) (fun h=>?_)|refine Gd.mk (fun h=>?_))<;>(try simp [etas,elDef,-List.getD_eq_getElem?_getD] at h)<;>conv=>whnf)|((first|refine Obl.mk (by first|omega|rfl|exact inK_byte _|(simp only [inK,Int.toNat_natCast,etas,elDef,o32,m32]<;>first|omega|grind)|grind [inK,o32,m32]) ?_|refine OblG.mk (by ((conv=>whnf);(repeat (first|refine Bx.mk ?_|(intro h;(try simp [etas,elDef,-List.getD_eq_getElem?_getD] at h);conv=>whnf)));(first|omega|rfl|exact inK_byte _|(simp only [inK,Int.toNat_natCast,etas,elDef,o32,m32]<;>first|omega|grind)|grind [inK,o32,m32]))) ?_|refine And.intro ?_ ?_)<;>conv=>whnf)|exact True.intro|(intro;conv=>whnf)
  · exact leafI hK (placeM_at (by omega) (hitM_iff.2 (h.imp (fun h => ⟨h.1, of_decide_eq_true h.2⟩) id)) hj)
  · have hi : hitM n b i = false := hitM_no ⟨fun e => of_decide_eq_false (h.1 e), h.2⟩
    have hj' : ∀ j, j < i + 1 → hitM n b j = false := fun j h => (Nat.lt_or_eq_of_le (Nat.le_of_lt_succ h)).elim (hj j) (fun e => e ▸ hi)
    exact ⟨i + 1, [], [], ⟨by omega, by grind⟩, by omega, by iterate 2 ((all_goals (conv=>whnf));(repeat' (first|exact trivial|rfl|(refine nilEq ?_;first|rfl|(simp only [*];done)|(simp [*];done)|grind)|apply And.intro|((first|apply intEq|apply boolEq|apply strEq|apply psEq|apply nilEq|apply arrEq);(try simp only [Int.toNat_natCast,etas,elDef]);exact hj'))));(all_goals ((try simp only [Int.toNat_natCast,etas,elDef]);exact hj')), (by exact sgOk_of (by rfl))⟩
  · exact leafI hK (placeM_none (by grind))
theorem s59 : (CtrOK Tryd.prog 59 (.pure F59) ∧ Callable Tryd.prog 59) := by
  refine pure_ok (E := E59) (mkE_cons s32 (mkE_nil tab_ok)) mix (O := O59) (F := F59) Tryd.func59 rfl (by rfl) (by kernel_rfl) (fun args o v h => ?_) (fun args o v h => ?_) (fun args o v h hbd hp K hK => ?_)
  · unfold F59 at h; split at h <;> cases h; first | trivial | (simp [v59, Scalar, Scalar2, Scalar1, stC, ndC, itC, chC, nwC])
  · unfold F59 at h; split at h <;> cases h; exact Nat.le_of_ble_eq_true rfl
  · unfold F59 at h; split at h
    case h_2 => cases h
    cases h
    exact a59 ⟨_, _, _, _, _⟩ _ (by exact hbd) (hp _ rfl) K hK
noncomputable def v70 (n : Nd) (b : Bs) : AV := .tup [.int .i64 (slotM n b).1, .bool (slotM n b).2]
noncomputable def o70 (n : Nd) (b : Bs) : Prop := n.kids.length ≤ 1000000000 ∧ (n.kind = 4 → n.names.length = n.kids.length)
noncomputable def F70 : List AV → QR
  | [.st [.int .i64 n_0, .int .i64 n_1, .str n_2, .ps .str n_3, .ps .node n_4], .str b] => some (some (o70 ⟨n_0, n_1, n_2, n_3, n_4⟩ b), v70 ⟨n_0, n_1, n_2, n_3, n_4⟩ b)
  | _ => none
noncomputable def E70 : Ctx := mkE tab [(32, .pure F32), (59, .pure F59)]
noncomputable def O70 : Nat → List DI := ordL [(3, [.q 0, .q 1, .q 2, .q 3, .q 4, .q 5])]
theorem a70 (n : Nd) (b : Bs) (hb : BdAs [.st (ndC n), .str b]) (ho : o70 n b) (K : AV → List AV → Prop) (hK : K (v70 n b) []) : abody E70 O70 .ps Tryd.f70 (Tryd.f70.body.getD .skip) [.st (ndC n), .str b] K := by
  simp only [BdAs, BdA, BdL, BdC, MX, ndC, shC, itC, stC, opC, chC, nwC, flC, rqC, rsC, enc, List.cons_append, List.nil_append, and_true, true_and] at hb
  unfold o70 at ho
  unfold v70 at hK
  obtain ⟨ho1, ho2⟩ := ho
  conv => whnf
  repeat' first|((first|refine Cnd.mk (fun h=>?_) (fun h=>?_)|refine Gd.mk (fun h=>?_))<;>(try simp [etas,elDef,-List.getD_eq_getElem?_getD] at h)<;>conv=>whnf)|((first|refine Obl.mk (by first|omega|rfl|exact inK_byte _|(simp only [inK,Int.toNat_natCast,etas,elDef,o32,m32,o59]<;>first|omega|grind)|grind [inK,o32,m32,o59]) ?_|refine OblG.mk (by ((conv=>whnf);(repeat (first|refine Bx.mk ?_|(intro h;(try simp [etas,elDef,-List.getD_eq_getElem?_getD] at h);conv=>whnf)));(first|omega|rfl|exact inK_byte _|(simp only [inK,Int.toNat_natCast,etas,elDef,o32,m32,o59]<;>first|omega|grind)|grind [inK,o32,m32,o59]))) ?_|refine And.intro ?_ ?_)<;>conv=>whnf)|exact True.intro|(intro;conv=>whnf)
  · have e : slotM n b = (placeM n b, decide (n.kind = 4)) := by unfold slotM; rw [if_pos h]
    rw [e] at hK
    exact hK
  · have e : slotM n b = ((n.kids.length : Int), false) := by unfold slotM; rw [if_neg (by omega), if_pos h]
    rw [e] at hK
    exact hK
  · refine aloop_intro Nat (fun k => k ≤ n.kids.length + 1 ∧ (∀ j, j < k → ltS b (n.names.getD j []) = false) ∧ (n.kind = 4 → k ≤ n.kids.length)) (fun k => n.kids.length + 1 - k) (fun k => [(7, .int .i64 k)]) (fun k => []) [2] 0 [] [] ?_ ?_ (by exact sgOk_of (by rfl)) ?_
    · first | (simp; done) | (simp; assumption)
    · iterate 2 ((all_goals (conv=>whnf));(repeat' (first|exact trivial|rfl|(refine nilEq ?_;first|rfl|(simp only [*];done)|(simp [*];done)|grind)|apply And.intro|((first|apply intEq|apply boolEq|apply strEq|apply psEq|apply nilEq|apply arrEq);(try simp only [Int.toNat_natCast,etas,elDef]);first | done | omega | grind | (simp only [*]; done) | (simp [*]; done)))));(all_goals ((try simp only [Int.toNat_natCast,etas,elDef]);first | done | omega | grind | (simp only [*]; done) | (simp [*]; done)))
    rintro i ⟨hi, hj⟩
    conv => whnf
    repeat' first|((first|refine Cnd.mk (fun h=>?_) (fun h=>?_)|refine Gd.mk (fun h=>?_))<;>(try simp [etas,elDef,-List.getD_eq_getElem?_getD] at h)<;>conv=>whnf)|((first|refine Obl.mk (by first|omega|rfl|exact inK_byte _|(simp only [inK,Int.toNat_natCast,etas,elDef,o32,m32,o59]<;>first|omega|grind)|grind [inK,o32,m32,o59]) ?_|refine OblG.mk (by ((conv=>whnf);(repeat (first|refine Bx.mk ?_|(intro h;(try simp [etas,elDef,-List.getD_eq_getElem?_getD] at h);conv=>whnf)));(first|omega|rfl|exact inK_byte _|(simp only [inK,Int.toNat_natCast,etas,elDef,o32,m32,o59]<;>first|omega|grind)|grind [inK,o32,m32,o59]))) ?_|refine And.intro ?_ ?_)<;>conv=>whnf)|exact True.intro|(intro;conv=>whnf)
    · have e1 := slotI_at (n := n) (b := b) (i := i) (by omega) (fun hl => by rcases h with h | h <;> first | omega | exact h) hj.1
      have e : slotM n b = ((i : Int), false) := by unfold slotM; rw [if_neg (by omega), if_neg (by grind), if_pos (by omega), e1]
      rw [e] at hK
      exact hK
    · have hj' : ∀ j, j < i + 1 → ltS b (n.names.getD j []) = false := fun j hl => (Nat.lt_or_eq_of_le (Nat.le_of_lt_succ hl)).elim (hj.1 j) (fun e => e ▸ h.2)
      exact ⟨i + 1, [], [], ⟨by omega, by grind⟩, by omega, by iterate 2 ((all_goals (conv=>whnf));(repeat' (first|exact trivial|rfl|(refine nilEq ?_;first|rfl|(simp only [*];done)|(simp [*];done)|grind)|apply And.intro|((first|apply intEq|apply boolEq|apply strEq|apply psEq|apply nilEq|apply arrEq);(try simp only [Int.toNat_natCast,etas,elDef]);exact ⟨hj', by omega⟩))));(all_goals ((try simp only [Int.toNat_natCast,etas,elDef]);exact ⟨hj', by omega⟩)), (by exact sgOk_of (by rfl))⟩
    · have e4 : ¬ n.kind = 4 := by omega
      have e : slotM n b = (-1, false) := by unfold slotM; rw [if_neg (by omega), if_neg (by grind), if_neg e4]
      rw [e] at hK
      exact hK
theorem s70 : (CtrOK Tryd.prog 70 (.pure F70) ∧ Callable Tryd.prog 70) := by
  refine pure_ok (E := E70) (mkE_cons s32 (mkE_cons s59 (mkE_nil tab_ok))) mix (O := O70) (F := F70) Tryd.func70 rfl (by rfl) (by kernel_rfl) (fun args o v h => ?_) (fun args o v h => ?_) (fun args o v h hbd hp K hK => ?_)
  · unfold F70 at h; split at h <;> cases h; first | trivial | (simp [v70, Scalar, Scalar2, Scalar1, stC, ndC, itC, chC, nwC])
  · unfold F70 at h; split at h <;> cases h; exact Nat.le_of_ble_eq_true rfl
  · unfold F70 at h; split at h
    case h_2 => cases h
    cases h
    exact a70 ⟨_, _, _, _, _⟩ _ (by exact hbd) (hp _ rfl) K hK
noncomputable def c71 (n : Nd) (i : Int) (x : Nd) (K : AV → List AV → Prop) : Prop :=
    False
noncomputable def C71 : List AV → (AV → List AV → Prop) → Prop
  | [.st [.int .i64 n_0, .int .i64 n_1, .str n_2, .ps .str n_3, .ps .node n_4], .int .i64 i, .st [.int .i64 x_0, .int .i64 x_1, .str x_2, .ps .str x_3, .ps .node x_4]], K => c71 ⟨n_0, n_1, n_2, n_3, n_4⟩ i ⟨x_0, x_1, x_2, x_3, x_4⟩ K
  | _, _ => False
noncomputable def E71 : Ctx := mkE tab [(28, .gen .ps C28)]
noncomputable def O71 : Nat → List DI := ordL [(2, [.q 0, .q 1, .q 2, .q 3, .l 4 [1], .q 5, .l 6 []])]
theorem a71 (n : Nd) (i : Int) (x : Nd) (hb : BdAs [.st (ndC n), .int .i64 i, .st (ndC x)]) (K : AV → List AV → Prop) (h : c71 n i x K) : abody E71 O71 .ps Tryd.f71 (Tryd.f71.body.getD .skip) [.st (ndC n), .int .i64 i, .st (ndC x)] K := by
  simp only [BdAs, BdA, BdL, BdC, MX, ndC, shC, itC, stC, opC, chC, nwC, flC, rqC, rsC, enc, List.cons_append, List.nil_append, and_true, true_and] at hb
  unfold c71 at h
  exact h.elim
theorem s71 : (CtrOK Tryd.prog 71 (.gen .ps C71) ∧ Callable Tryd.prog 71) := by
  refine gen_ok (E := E71) (mkE_cons s28 (mkE_nil tab_ok)) mix (O := O71) (C := C71) (own := .ps) Tryd.func71 rfl (by rfl) (by kernel_rfl) (fun args K h hbd => ?_)
  unfold C71 at h; split at h
  case h_2 => exact h.elim
  exact ⟨Nat.le_of_ble_eq_true rfl, a71 ⟨_, _, _, _, _⟩ _ ⟨_, _, _, _, _⟩ (by exact hbd) _ h⟩
noncomputable def c60 (n1 : Int) (n2 : Int) (n3 : Bs) (n4 : List Bs) (n5 : List Nd) (b : Bs) (x1 : Int) (x2 : Int) (x3 : Bs) (x4 : List Bs) (x5 : List Nd) (K : AV → List AV → Prop) : Prop :=
    Obl ((smN ⟨n1, n2, n3, n4, n5⟩ ∧ smN ⟨x1, x2, x3, x4, x5⟩) ∧ n5.length ≤ 1000000 ∧ n4.length ≤ 1000000 ∧ evenN ⟨n1, n2, n3, n4, n5⟩ ∧ placeM ⟨n1, n2, n3, n4, n5⟩ b < 0) (K (optNO (addHereM ⟨n1, n2, n3, n4, n5⟩ b ⟨x1, x2, x3, x4, x5⟩)) [])
noncomputable def C60 : List AV → (AV → List AV → Prop) → Prop
  | [.st [.int .i64 n1, .int .i64 n2, .str n3, .own .str n4, .own .node n5], .str b, .st [.int .i64 x1, .int .i64 x2, .str x3, .own .str x4, .own .node x5]], K => c60 n1 n2 n3 n4 n5 b x1 x2 x3 x4 x5 K
  | _, _ => False
noncomputable def E60 : Ctx := mkE tab [(28, .gen .ps C28), (70, .pure F70), (71, .gen .ps C71)]
noncomputable def O60 : Nat → List DI := ordL [(7, [.q 1, .q 2, .q 3, .q 4, .q 6, .l 0 [2, 4, 6], .l 5 [6], .l 7 [], .l 8 [], .l 9 [], .q 10])]
theorem a60 (n1 : Int) (n2 : Int) (n3 : Bs) (n4 : List Bs) (n5 : List Nd) (b : Bs) (x1 : Int) (x2 : Int) (x3 : Bs) (x4 : List Bs) (x5 : List Nd) (hb : BdAs [.st [.int .i64 n1, .int .i64 n2, .str n3, .own .str n4, .own .node n5], .str b, .st [.int .i64 x1, .int .i64 x2, .str x3, .own .str x4, .own .node x5]]) (K : AV → List AV → Prop) (h : c60 n1 n2 n3 n4 n5 b x1 x2 x3 x4 x5 K) : abody E60 O60 .ow Tryd.f60 (Tryd.f60.body.getD .skip) [.st [.int .i64 n1, .int .i64 n2, .str n3, .own .str n4, .own .node n5], .str b, .st [.int .i64 x1, .int .i64 x2, .str x3, .own .str x4, .own .node x5]] K := by
  simp only [BdAs, BdA, BdL, BdC, MX, ndC, shC, itC, stC, opC, chC, nwC, flC, rqC, rsC, enc, List.cons_append, List.nil_append, and_true, true_and] at hb
  unfold c60 at h
  obtain ⟨⟨⟨hn, hx⟩, hl⟩, hK⟩ := h
  have hge := slotM_ge ⟨n1, n2, n3, n4, n5⟩ b
  simp only at hge
  have hev : n1 = 4 → n4.length = n5.length := hl.2.2.1
  have hth : (slotM ⟨n1, n2, n3, n4, n5⟩ b).2 = false := slotM_not hl.2.2.2
  conv => whnf
  repeat' first|((first|refine Cnd.mk (fun h=>?_) (fun h=>?_)|refine Gd.mk (fun h=>?_))<;>(try simp [etas,elDef,-List.getD_eq_getElem?_getD] at h)<;>conv=>whnf)|((first|refine Obl.mk (by first|omega|rfl|exact inK_byte _|(simp only [inK,Int.toNat_natCast,etas,elDef,m28,o70]<;>first|omega|grind)|grind [inK,m28,o70]) ?_|refine OblG.mk (by ((conv=>whnf);(repeat (first|refine Bx.mk ?_|(intro h;(try simp [etas,elDef,-List.getD_eq_getElem?_getD] at h);conv=>whnf)));(first|omega|rfl|exact inK_byte _|(simp only [inK,Int.toNat_natCast,etas,elDef,m28,o70]<;>first|omega|grind)|grind [inK,m28,o70]))) ?_|refine And.intro ?_ ?_)<;>conv=>whnf)|exact True.intro|(intro;conv=>whnf)
  · have e : addHereM ⟨n1, n2, n3, n4, n5⟩ b ⟨x1, x2, x3, x4, x5⟩ = none := by unfold addHereM; rw [if_pos h]
    exact leafV hK (by rw [e]; simp [optNO]; exact ⟨rfl, rfl, rfl, rfl, rfl⟩)
  · rw [hth] at h; cases h
  · have e : addHereM ⟨n1, n2, n3, n4, n5⟩ b ⟨x1, x2, x3, x4, x5⟩ = some ⟨n1, 0, [], [], insM n5 (slotM ⟨n1, n2, n3, n4, n5⟩ b).1.toNat ⟨x1, x2, x3, x4, x5⟩⟩ := by unfold addHereM; rw [if_neg (by omega), if_neg (by grind)]; simp only [h, if_true]
    exact leafV hK (by rw [e]; simp [optNO, insM])
  · have e : addHereM ⟨n1, n2, n3, n4, n5⟩ b ⟨x1, x2, x3, x4, x5⟩ = some ⟨n1, 0, [], insM n4 (slotM ⟨n1, n2, n3, n4, n5⟩ b).1.toNat b, insM n5 (slotM ⟨n1, n2, n3, n4, n5⟩ b).1.toNat ⟨x1, x2, x3, x4, x5⟩⟩ := by unfold addHereM; rw [if_neg (by omega), if_neg (by grind)]; simp only [h, if_false]
    exact leafV hK (by rw [e]; simp [optNO, insM])
theorem s60 : (CtrOK Tryd.prog 60 (.gen .ow C60) ∧ Callable Tryd.prog 60) := by
  refine gen_ok (E := E60) (mkE_cons s28 (mkE_cons s70 (mkE_cons s71 (mkE_nil tab_ok)))) mix (O := O60) (C := C60) (own := .ow) Tryd.func60 rfl (by rfl) (by kernel_rfl) (fun args K h hbd => ?_)
  unfold C60 at h; split at h
  case h_2 => exact h.elim
  exact ⟨Nat.le_of_ble_eq_true rfl, a60 _ _ _ _ _ _ _ _ _ _ _ (by exact hbd) _ h⟩
end Go.Rs

