import Derived.Test.YtmgheiagnleeiaaRC
import Derived.Test.YtmgheiagnleeiaaRA
import Derived.Test.YtmgheiagnleeiaaEH
import Derived.Test.YtmgheiagnleeiaaQD
import Derived.Test.YtmgheiagnleeiaaEX
import Derived.Test.YtmgheiagnleeiaaEP
import Derived.Test.YtmgheiagnleeiaaMJ
set_option linter.all false
set_option linter.unusedSimpArgs false
set_option linter.unusedVariables false
namespace Go.Rs
open Go.Proofs Go.RowKit
set_option maxRecDepth 100000
set_option maxHeartbeats 4000000
noncomputable def v17 (l : List Req) : AV := .bool (reqsM l)
noncomputable def o17 (l : List Req) : Prop := True
noncomputable def F17 : List AV → QR
  | [.ps .req l] => some (none, v17 l)
  | _ => none
noncomputable def E17 : Ctx := mkE tab [(32, .pure F32)]
noncomputable def O17 : Nat → List DI := ordL []
theorem a17 (l : List Req) (hb : BdAs [.ps .req l]) (ho : o17 l) (K : AV → List AV → Prop) (hK : K (v17 l) []) : abody E17 O17 .ps Try.f17 (Try.f17.body.getD .skip) [.ps .req l] K := by
  simp only [BdAs, BdA, BdL, BdC, MX, ndC, shC, itC, stC, opC, chC, nwC, flC, rqC, rsC, enc, List.cons_append, List.nil_append, and_true, true_and] at hb
  unfold v17 at hK
  conv => whnf
  repeat' first|((first|refine Cnd.mk (fun h=>?_) (fun h=>?_)|refine Gd.mk (fun h=>?_))<;>(try simp [etas,elDef,-List.getD_eq_getElem?_getD] at h)<;>conv=>whnf)|((first|refine Obl.mk (by first|omega|rfl|exact inK_byte _|(simp only [inK,Int.toNat_natCast,etas,elDef]<;>first|omega|grind)|grind [inK]) ?_|refine OblG.mk (by ((conv=>whnf);(repeat (first|refine Bx.mk ?_|(intro h;(try simp [etas,elDef,-List.getD_eq_getElem?_getD] at h);conv=>whnf)));(first|omega|rfl|exact inK_byte _|(simp only [inK,Int.toNat_natCast,etas,elDef]<;>first|omega|grind)|grind [inK]))) ?_|refine And.intro ?_ ?_)<;>conv=>whnf)|exact True.intro|(intro;conv=>whnf)
  · exact leafB hK (by unfold reqsM; grind)
  refine aloop_intro Nat (fun k => k ≤ l.length ∧ ∀ j, j < k → reqM (l.getD j default) = true) (fun k => l.length - k) (fun k => [(10, .int .i64 k)]) (fun k => []) [] 0 [] [] ?_ ?_ (by exact sgOk_of (by rfl)) ?_
  · first | (simp; done) | (simp; assumption)
  · iterate 2 ((all_goals (conv=>whnf));(repeat' (first|exact trivial|rfl|(refine nilEq ?_;first|rfl|(simp only [*];done)|(simp [*];done)|grind)|apply And.intro|((first|apply intEq|apply boolEq|apply strEq|apply psEq|apply nilEq|apply arrEq);(try simp only [Int.toNat_natCast,etas,elDef]);first | done | omega | grind | (simp only [*]; done) | (simp [*]; done)))));(all_goals ((try simp only [Int.toNat_natCast,etas,elDef]);first | done | omega | grind | (simp only [*]; done) | (simp [*]; done)))
  rintro i ⟨hi, hj⟩
  conv => whnf
  repeat' first|((first|refine Cnd.mk (fun h=>?_) (fun h=>?_)|refine Gd.mk (fun h=>?_))<;>(try simp [etas,elDef,-List.getD_eq_getElem?_getD] at h)<;>conv=>whnf)|((first|refine Obl.mk (by first|omega|rfl|exact inK_byte _|(simp only [inK,Int.toNat_natCast,etas,elDef]<;>first|omega|grind)|grind [inK]) ?_|refine OblG.mk (by ((conv=>whnf);(repeat (first|refine Bx.mk ?_|(intro h;(try simp [etas,elDef,-List.getD_eq_getElem?_getD] at h);conv=>whnf)));(first|omega|rfl|exact inK_byte _|(simp only [inK,Int.toNat_natCast,etas,elDef]<;>first|omega|grind)|grind [inK]))) ?_|refine And.intro ?_ ?_)<;>conv=>whnf)|exact True.intro|(intro;conv=>whnf)
  · exact leafB hK (by grind [reqsM, all_noD])
  · exact ⟨i + 1, [], [], ⟨by omega, by grind⟩, by omega, by iterate 2 ((all_goals (conv=>whnf));(repeat' (first|exact trivial|rfl|(refine nilEq ?_;first|rfl|(simp only [*];done)|(simp [*];done)|grind)|apply And.intro|((first|apply intEq|apply boolEq|apply strEq|apply psEq|apply nilEq|apply arrEq);(try simp only [Int.toNat_natCast,etas,elDef]);first | done | omega | grind | (simp only [*]; done) | (simp [*]; done)))));(all_goals ((try simp only [Int.toNat_natCast,etas,elDef]);first | done | omega | grind | (simp only [*]; done) | (simp [*]; done))), (by exact sgOk_of (by rfl))⟩
  · have : l.all reqM = true := (all_listD l default _).2 (by grind)
    exact leafB hK (by grind [reqsM])
theorem s17 : (CtrOK Try.prog 17 (.pure F17) ∧ Callable Try.prog 17) := by
  refine pure_ok (E := E17) (mkE_cons s32 (mkE_nil tab_ok)) mix (O := O17) (F := F17) Try.func17 rfl (by rfl) (by kernel_rfl) (fun args o v h => ?_) (fun args o v h => ?_) (fun args o v h hbd hp K hK => ?_)
  · unfold F17 at h; split at h <;> cases h; first | trivial | (simp [v17, Scalar, Scalar2, Scalar1, stC, ndC, itC, chC, nwC])
  · unfold F17 at h; split at h <;> cases h; exact Nat.le_of_ble_eq_true rfl
  · unfold F17 at h; split at h
    case h_2 => cases h
    cases h
    exact a17 _ (by exact hbd) trivial K hK
noncomputable def v14 (l : List Req) : AV := .bool (reqsM l)
noncomputable def o14 (l : List Req) : Prop := True
noncomputable def F14 : List AV → QR
  | [.ps .req l] => some (none, v14 l)
  | _ => none
noncomputable def E14 : Ctx := mkE tab [(28, .pure F28)]
noncomputable def O14 : Nat → List DI := ordL []
theorem a14 (l : List Req) (hb : BdAs [.ps .req l]) (ho : o14 l) (K : AV → List AV → Prop) (hK : K (v14 l) []) : abody E14 O14 .ps Try.f14 (Try.f14.body.getD .skip) [.ps .req l] K := by
  simp only [BdAs, BdA, BdL, BdC, MX, ndC, shC, itC, stC, opC, chC, nwC, flC, rqC, rsC, enc, List.cons_append, List.nil_append, and_true, true_and] at hb
  unfold v14 at hK
  conv => whnf
  refine aloop_intro Nat (fun k => k ≤ l.length ∧ ∀ j, j < k → reqM (l.getD j default) = true) (fun k => l.length - k) (fun k => [(3, .int .i64 k)]) (fun k => []) [] 0 [] [] ?_ ?_ (by exact sgOk_of (by rfl)) ?_
  · first | (simp; done) | (simp; assumption)
  · iterate 2 ((all_goals (conv=>whnf));(repeat' (first|exact trivial|rfl|(refine nilEq ?_;first|rfl|(simp only [*];done)|(simp [*];done)|grind)|apply And.intro|((first|apply intEq|apply boolEq|apply strEq|apply psEq|apply nilEq|apply arrEq);(try simp only [Int.toNat_natCast,etas,elDef]);first | done | omega | grind | (simp only [*]; done) | (simp [*]; done)))));(all_goals ((try simp only [Int.toNat_natCast,etas,elDef]);first | done | omega | grind | (simp only [*]; done) | (simp [*]; done)))
  rintro i ⟨hi, hj⟩
  conv => whnf
  repeat' first|((first|refine Cnd.mk (fun h=>?_) (fun h=>?_)|refine Gd.mk (fun h=>?_))<;>(try simp [etas,elDef,-List.getD_eq_getElem?_getD] at h)<;>conv=>whnf)|((first|refine Obl.mk (by first|omega|rfl|exact inK_byte _|(simp only [inK,Int.toNat_natCast,etas,elDef]<;>first|omega|grind)|grind [inK]) ?_|refine OblG.mk (by ((conv=>whnf);(repeat (first|refine Bx.mk ?_|(intro h;(try simp [etas,elDef,-List.getD_eq_getElem?_getD] at h);conv=>whnf)));(first|omega|rfl|exact inK_byte _|(simp only [inK,Int.toNat_natCast,etas,elDef]<;>first|omega|grind)|grind [inK]))) ?_|refine And.intro ?_ ?_)<;>conv=>whnf)|exact True.intro|(intro;conv=>whnf)
  · exact leafB hK (by grind [reqsM, all_noD])
  · exact ⟨i + 1, [], [], ⟨by omega, by grind⟩, by omega, by iterate 2 ((all_goals (conv=>whnf));(repeat' (first|exact trivial|rfl|(refine nilEq ?_;first|rfl|(simp only [*];done)|(simp [*];done)|grind)|apply And.intro|((first|apply intEq|apply boolEq|apply strEq|apply psEq|apply nilEq|apply arrEq);(try simp only [Int.toNat_natCast,etas,elDef]);first | done | omega | grind | (simp only [*]; done) | (simp [*]; done)))));(all_goals ((try simp only [Int.toNat_natCast,etas,elDef]);first | done | omega | grind | (simp only [*]; done) | (simp [*]; done))), (by exact sgOk_of (by rfl))⟩
  · have : l.all reqM = true := (all_listD l default _).2 (by grind)
    exact leafB hK (by grind [reqsM])
theorem s14 : (CtrOK Try.prog 14 (.pure F14) ∧ Callable Try.prog 14) := by
  refine pure_ok (E := E14) (mkE_cons s28 (mkE_nil tab_ok)) mix (O := O14) (F := F14) Try.func14 rfl (by rfl) (by kernel_rfl) (fun args o v h => ?_) (fun args o v h => ?_) (fun args o v h hbd hp K hK => ?_)
  · unfold F14 at h; split at h <;> cases h; first | trivial | (simp [v14, Scalar, Scalar2, Scalar1, stC, ndC, itC, chC, nwC])
  · unfold F14 at h; split at h <;> cases h; exact Nat.le_of_ble_eq_true rfl
  · unfold F14 at h; split at h
    case h_2 => cases h
    cases h
    exact a14 _ (by exact hbd) trivial K hK
noncomputable def v18 (x : Req) : AV := .bool (reqM x && decide (x.method = 1))
noncomputable def o18 (x : Req) : Prop := True
noncomputable def F18 : List AV → QR
  | [.st [.int .i64 x_0, .str x_1, .ps .str x_2, .ps .str x_3, .int .i64 x_4_0, .int .i64 x_4_1, .str x_4_2, .ps .str x_4_3, .ps .node x_4_4, .ps .opn x_5]] => some (none, v18 ⟨x_0, x_1, x_2, x_3, ⟨x_4_0, x_4_1, x_4_2, x_4_3, x_4_4⟩, x_5⟩)
  | _ => none
noncomputable def E18 : Ctx := mkE tab [(32, .pure F32)]
noncomputable def O18 : Nat → List DI := ordL []
theorem a18 (x : Req) (hb : BdAs [.st (rqC x)]) (ho : o18 x) (K : AV → List AV → Prop) (hK : K (v18 x) []) : abody E18 O18 .ps Try.f18 (Try.f18.body.getD .skip) [.st (rqC x)] K := by
  simp only [BdAs, BdA, BdL, BdC, MX, ndC, shC, itC, stC, opC, chC, nwC, flC, rqC, rsC, enc, List.cons_append, List.nil_append, and_true, true_and] at hb
  unfold v18 at hK
  conv => whnf
  repeat' first|((first|refine Cnd.mk (fun h=>?_) (fun h=>?_)|refine Gd.mk (fun h=>?_))<;>(try simp [etas,elDef,-List.getD_eq_getElem?_getD] at h)<;>conv=>whnf)|((first|refine Obl.mk (by first|omega|rfl|exact inK_byte _|(simp only [inK,Int.toNat_natCast,etas,elDef]<;>first|omega|grind)|grind [inK]) ?_|refine OblG.mk (by ((conv=>whnf);(repeat (first|refine Bx.mk ?_|(intro h;(try simp [etas,elDef,-List.getD_eq_getElem?_getD] at h);conv=>whnf)));(first|omega|rfl|exact inK_byte _|(simp only [inK,Int.toNat_natCast,etas,elDef]<;>first|omega|grind)|grind [inK]))) ?_|refine And.intro ?_ ?_)<;>conv=>whnf)|exact True.intro|(intro;conv=>whnf)
  exact leafB hK (by simp only [etas])
theorem s18 : (CtrOK Try.prog 18 (.pure F18) ∧ Callable Try.prog 18) := by
  refine pure_ok (E := E18) (mkE_cons s32 (mkE_nil tab_ok)) mix (O := O18) (F := F18) Try.func18 rfl (by rfl) (by kernel_rfl) (fun args o v h => ?_) (fun args o v h => ?_) (fun args o v h hbd hp K hK => ?_)
  · unfold F18 at h; split at h <;> cases h; first | trivial | (simp [v18, Scalar, Scalar2, Scalar1, stC, ndC, itC, chC, nwC])
  · unfold F18 at h; split at h <;> cases h; exact Nat.le_of_ble_eq_true rfl
  · unfold F18 at h; split at h
    case h_2 => cases h
    cases h
    exact a18 ⟨_, _, _, _, ⟨_, _, _, _, _⟩, _⟩ (by exact hbd) trivial K hK
noncomputable def c5 (l : List Req) (K : AV → List AV → Prop) : Prop :=
    K (.ps .str (touchM l)) []
noncomputable def C5 : List AV → (AV → List AV → Prop) → Prop
  | [.ps .req l], K => c5 l K
  | _, _ => False
noncomputable def E5 : Ctx := mkE tab [(14, .pure F14), (15, .gen .ps C15g)]
noncomputable def O5 : Nat → List DI := ordL []
theorem a5 (l : List Req) (hb : BdAs [.ps .req l]) (K : AV → List AV → Prop) (h : c5 l K) : abody E5 O5 .ps Try.f5 (Try.f5.body.getD .skip) [.ps .req l] K := by
  simp only [BdAs, BdA, BdL, BdC, MX, ndC, shC, itC, stC, opC, chC, nwC, flC, rqC, rsC, enc, List.cons_append, List.nil_append, and_true, true_and] at hb
  unfold c5 at h
  have hK := h
  conv => whnf
  repeat' first|((first|refine Cnd.mk (fun h=>?_) (fun h=>?_)|refine Gd.mk (fun h=>?_))<;>(try simp [etas,elDef,-List.getD_eq_getElem?_getD] at h)<;>conv=>whnf)|((first|refine Obl.mk (by first|omega|rfl|exact inK_byte _|(simp only [inK,Int.toNat_natCast,etas,elDef]<;>first|omega|grind)|grind [inK]) ?_|refine OblG.mk (by ((conv=>whnf);(repeat (first|refine Bx.mk ?_|(intro h;(try simp [etas,elDef,-List.getD_eq_getElem?_getD] at h);conv=>whnf)));(first|omega|rfl|exact inK_byte _|(simp only [inK,Int.toNat_natCast,etas,elDef]<;>first|omega|grind)|grind [inK]))) ?_|refine And.intro ?_ ?_)<;>conv=>whnf)|exact True.intro|(intro;conv=>whnf)
  · have e : touchM l = [] := by grind [touchM]
    exact leafV hK (by rw [e])
  have hv : reqsM l = true := by grind
  have e : touchM l = tU l := by grind [touchM]
  have h8 : l.length ≤ 8 := by unfold reqsM at hv; rw [Bool.and_eq_true, decide_eq_true_eq] at hv; exact hv.1
  rw [e] at hK
  refine aloop_intro Nat (fun k => k ≤ l.length) (fun k => l.length - k) (fun k => [(3, .ps .str (tU (l.take k))), (4, .int .i64 k)]) (fun _ => []) [] 0 [] [5] (Nat.zero_le _) ?_ (by exact sgOk_of (by rfl)) ?_
  · iterate 2 ((all_goals (conv=>whnf));(repeat' (first|exact trivial|rfl|(refine nilEq ?_;first|rfl|(simp only [*];done)|(simp [*];done)|grind)|apply And.intro|((first|apply intEq|apply boolEq|apply strEq|apply psEq|apply nilEq|apply arrEq);(try simp only [Int.toNat_natCast,etas,elDef]);first | done | omega | grind | (simp only [*]; done) | (simp [*]; done)))));(all_goals ((try simp only [Int.toNat_natCast,etas,elDef]);first | done | omega | grind | (simp only [*]; done) | (simp [*]; done)))
  rintro i hi
  have htk := fun h => tU_take (l := l) (i := i) h
  have hln := tU_len (l.take i)
  have hl2 : (l.take i).length ≤ 8 := by simp; omega
  conv => whnf
  repeat' first|((first|refine Cnd.mk (fun h=>?_) (fun h=>?_)|refine Gd.mk (fun h=>?_))<;>(try simp [etas,elDef,-List.getD_eq_getElem?_getD] at h)<;>conv=>whnf)|((first|refine Obl.mk (by first|omega|rfl|exact inK_byte _|(simp only [inK,Int.toNat_natCast,etas,elDef]<;>first|omega|grind)|grind [inK]) ?_|refine OblG.mk (by ((conv=>whnf);(repeat (first|refine Bx.mk ?_|(intro h;(try simp [etas,elDef,-List.getD_eq_getElem?_getD] at h);conv=>whnf)));(first|omega|rfl|exact inK_byte _|(simp only [inK,Int.toNat_natCast,etas,elDef]<;>first|omega|grind)|grind [inK]))) ?_|refine And.intro ?_ ?_)<;>conv=>whnf)|exact True.intro|(intro;conv=>whnf)
  · rename_i h5
    have e5 := htk h5
    rw [if_neg (of_decide_eq_false h)] at e5
    exact ⟨i + 1, [], [], by omega, by omega, by iterate 2 ((all_goals (conv=>whnf));(repeat' (first|exact trivial|rfl|(refine nilEq ?_;first|rfl|(simp only [*];done)|(simp [*];done)|grind)|apply And.intro|((first|apply intEq|apply boolEq|apply strEq|apply psEq|apply nilEq|apply arrEq);(try simp only [Int.toNat_natCast,etas,elDef]);first | done | omega | (rw [e5]; done)))));(all_goals ((try simp only [Int.toNat_natCast,etas,elDef]);first | done | omega | (rw [e5]; done))), (by exact sgOk_of (by rfl))⟩
  · rename_i h5
    have e5 := htk h5
    rw [if_pos (of_decide_eq_true h)] at e5
    exact ⟨i + 1, [], [], by omega, by omega, by iterate 2 ((all_goals (conv=>whnf));(repeat' (first|exact trivial|rfl|(refine nilEq ?_;first|rfl|(simp only [*];done)|(simp [*];done)|grind)|apply And.intro|((first|apply intEq|apply boolEq|apply strEq|apply psEq|apply nilEq|apply arrEq);(try simp only [Int.toNat_natCast,etas,elDef]);first | done | omega | (rw [e5]; done)))));(all_goals ((try simp only [Int.toNat_natCast,etas,elDef]);first | done | omega | (rw [e5]; done))), (by exact sgOk_of (by rfl))⟩
  · exact leafV hK (by rw [List.take_of_length_le h])
theorem s5 : (CtrOK Try.prog 5 (.gen .ps C5) ∧ Callable Try.prog 5) := by
  refine gen_ok (E := E5) (mkE_cons s14 (mkE_cons s15g (mkE_nil tab_ok))) mix (O := O5) (C := C5) (own := .ps) Try.func5 rfl (by rfl) (by kernel_rfl) (fun args K h hbd => ?_)
  unfold C5 at h; split at h
  case h_2 => exact h.elim
  exact ⟨Nat.le_of_ble_eq_true rfl, a5 _ (by exact hbd) _ h⟩
noncomputable def c7o (l : List Req) (K : AV → List AV → Prop) : Prop :=
    K (.own .str (touchM l)) []
noncomputable def C7o : List AV → (AV → List AV → Prop) → Prop
  | [.ps .req l], K => c7o l K
  | _, _ => False
noncomputable def E7o : Ctx := mkE tab [(17, .pure F17), (18, .pure F18), (19, .gen .ln C19), (20, .gen .ow C20)]
noncomputable def O7o : Nat → List DI := ordL []
theorem a7o (l : List Req) (hb : BdAs [.ps .req l]) (K : AV → List AV → Prop) (h : c7o l K) : abody E7o O7o .ow Try.f7 (Try.f7.body.getD .skip) [.ps .req l] K := by
  simp only [BdAs, BdA, BdL, BdC, MX, ndC, shC, itC, stC, opC, chC, nwC, flC, rqC, rsC, enc, List.cons_append, List.nil_append, and_true, true_and] at hb
  unfold c7o at h
  have hK := h
  conv => whnf
  repeat' first|((first|refine Cnd.mk (fun h=>?_) (fun h=>?_)|refine Gd.mk (fun h=>?_))<;>(try simp [etas,elDef,-List.getD_eq_getElem?_getD] at h)<;>conv=>whnf)|((first|refine Obl.mk (by first|omega|rfl|exact inK_byte _|(simp only [inK,Int.toNat_natCast,etas,elDef]<;>first|omega|grind)|grind [inK]) ?_|refine OblG.mk (by ((conv=>whnf);(repeat (first|refine Bx.mk ?_|(intro h;(try simp [etas,elDef,-List.getD_eq_getElem?_getD] at h);conv=>whnf)));(first|omega|rfl|exact inK_byte _|(simp only [inK,Int.toNat_natCast,etas,elDef]<;>first|omega|grind)|grind [inK]))) ?_|refine And.intro ?_ ?_)<;>conv=>whnf)|exact True.intro|(intro;conv=>whnf)
  · have e : touchM l = [] := by grind [touchM]
    exact leafV hK (by rw [e])
  have hv : reqsM l = true := by grind
  have e : touchM l = tU l := by grind [touchM]
  have h8 : l.length ≤ 8 := by unfold reqsM at hv; rw [Bool.and_eq_true, decide_eq_true_eq] at hv; exact hv.1
  have hrq : ∀ j, j < l.length → reqM (l.getD j default) = true := by
    unfold reqsM at hv; rw [Bool.and_eq_true] at hv; exact (all_listD l default _).1 hv.2
  rw [e] at hK
  refine aloop_intro (Nat × List Bs) (fun q => q.1 ≤ l.length ∧ q.2 = tN (l.take q.1)) (fun q => l.length - q.1) (fun q => [(11, .int .i64 q.1), (3, nlV .str q.2)]) (fun q => nlL .str q.2) [] (0, []) [] [] ⟨Nat.zero_le _, rfl⟩ ?_ (by exact sgOk_of (by rfl)) ?_
  · iterate 2 ((all_goals (conv=>whnf));(repeat' (first|exact trivial|rfl|(refine nilEq ?_;first|rfl|(simp only [*];done)|(simp [*];done)|grind)|apply And.intro|((first|apply intEq|apply boolEq|apply strEq|apply psEq|apply nilEq|apply arrEq);(try simp only [Int.toNat_natCast,etas,elDef]);first | done | omega | grind | (simp only [*]; done) | (simp [*]; done)))));(all_goals ((try simp only [Int.toNat_natCast,etas,elDef]);first | done | omega | grind | (simp only [*]; done) | (simp [*]; done)))
  rintro ⟨i, _ | ⟨a, r⟩⟩ ⟨hi, hj⟩
  · dsimp only at hi hj
    have htk := fun h => tN_take (l := l) (i := i) h
    conv => whnf
    repeat' first|((first|refine Cnd.mk (fun h=>?_) (fun h=>?_)|refine Gd.mk (fun h=>?_))<;>(try simp [etas,elDef,-List.getD_eq_getElem?_getD] at h)<;>conv=>whnf)|((first|refine Obl.mk (by first|omega|rfl|exact inK_byte _|(simp only [inK,Int.toNat_natCast,etas,elDef]<;>first|omega|grind)|grind [inK]) ?_|refine OblG.mk (by ((conv=>whnf);(repeat (first|refine Bx.mk ?_|(intro h;(try simp [etas,elDef,-List.getD_eq_getElem?_getD] at h);conv=>whnf)));(first|omega|rfl|exact inK_byte _|(simp only [inK,Int.toNat_natCast,etas,elDef]<;>first|omega|grind)|grind [inK]))) ?_|refine And.intro ?_ ?_)<;>conv=>whnf)|exact True.intro|(intro;conv=>whnf)
    · rename_i h5
      have hm : ¬ (l.getD i default).method = 1 := by
        rcases h with h | h
        · rw [hrq i h5] at h; cases h
        · exact of_decide_eq_false h
      exact ⟨(i + 1, [(l.getD i default).name]), [(900, 22)], [], ⟨by simp only; omega, by simp only; rw [htk h5, ← hj, if_neg hm]; rfl⟩, by simp only; omega, by iterate 2 ((all_goals (conv=>whnf));(repeat' (first|exact trivial|rfl|(refine nilEq ?_;first|rfl|(simp only [*];done)|(simp [*];done)|grind)|apply And.intro|((first|apply intEq|apply boolEq|apply strEq|apply psEq|apply nilEq|apply arrEq);(try simp only [Int.toNat_natCast,etas,elDef]);first | done | omega | grind | (simp only [*]; done) | (simp [*]; done)))));(all_goals ((try simp only [Int.toNat_natCast,etas,elDef]);first | done | omega | grind | (simp only [*]; done) | (simp [*]; done))), (by exact sgOk_of (by rfl))⟩
    · rename_i h5
      exact ⟨(i + 1, []), [], [], ⟨by simp only; omega, by simp only; rw [htk h5, ← hj, if_pos (of_decide_eq_true h.2)]; rfl⟩, by simp only; omega, by iterate 2 ((all_goals (conv=>whnf));(repeat' (first|exact trivial|rfl|(refine nilEq ?_;first|rfl|(simp only [*];done)|(simp [*];done)|grind)|apply And.intro|((first|apply intEq|apply boolEq|apply strEq|apply psEq|apply nilEq|apply arrEq);(try simp only [Int.toNat_natCast,etas,elDef]);first | done | omega | grind | (simp only [*]; done) | (simp [*]; done)))));(all_goals ((try simp only [Int.toNat_natCast,etas,elDef]);first | done | omega | grind | (simp only [*]; done) | (simp [*]; done))), (by exact sgOk_of (by rfl))⟩
    · rename_i x hx1 hx2 hx3 r hr1 hr2 hr3
      rw [List.take_of_length_le h] at hj
      have er : r = tU l := tU_eq (x := []) (by rw [← hj]) hr2 hr3
      exact leafV hK (by rw [er])
  · dsimp only at hi hj
    have htk := fun h => tN_take (l := l) (i := i) h
    have hln : (a :: r).length ≤ i := by rw [hj]; have := tN_len (l.take i); simp at this; omega
    have hl2 : (a :: r).length + [(l.getD i default).name].length ≤ 1073741824 := by simp at hln ⊢; omega
    conv => whnf
    repeat' first|((first|refine Cnd.mk (fun h=>?_) (fun h=>?_)|refine Gd.mk (fun h=>?_))<;>(try simp [etas,elDef,-List.getD_eq_getElem?_getD] at h)<;>conv=>whnf)|((first|refine Obl.mk (by first|omega|rfl|exact inK_byte _|(simp only [inK,Int.toNat_natCast,etas,elDef]<;>first|omega|grind)|grind [inK]) ?_|refine OblG.mk (by ((conv=>whnf);(repeat (first|refine Bx.mk ?_|(intro h;(try simp [etas,elDef,-List.getD_eq_getElem?_getD] at h);conv=>whnf)));(first|omega|rfl|exact inK_byte _|(simp only [inK,Int.toNat_natCast,etas,elDef]<;>first|omega|grind)|grind [inK]))) ?_|refine And.intro ?_ ?_)<;>conv=>whnf)|exact True.intro|(intro;conv=>whnf)
    · rename_i h5
      have hm : ¬ (l.getD i default).method = 1 := by
        rcases h with h | h
        · rw [hrq i h5] at h; cases h
        · exact of_decide_eq_false h
      exact ⟨(i + 1, a :: r ++ [(l.getD i default).name]), [(900, 22)], [], ⟨by simp only; omega, by simp only; rw [htk h5, ← hj, if_neg hm]⟩, by simp only; omega, by iterate 2 ((all_goals (conv=>whnf));(repeat' (first|exact trivial|rfl|(refine nilEq ?_;first|rfl|(simp only [*];done)|(simp [*];done)|grind)|apply And.intro|((first|apply intEq|apply boolEq|apply strEq|apply psEq|apply nilEq|apply arrEq);(try simp only [Int.toNat_natCast,etas,elDef]);first | done | omega | grind | (simp only [*]; done) | (simp [*]; done)))));(all_goals ((try simp only [Int.toNat_natCast,etas,elDef]);first | done | omega | grind | (simp only [*]; done) | (simp [*]; done))), (by exact sgOk_of (by rfl))⟩
    · rename_i h5
      exact ⟨(i + 1, a :: r), [], [], ⟨by simp only; omega, by simp only; rw [htk h5, ← hj, if_pos (of_decide_eq_true h.2)]; simp⟩, by simp only; omega, by iterate 2 ((all_goals (conv=>whnf));(repeat' (first|exact trivial|rfl|(refine nilEq ?_;first|rfl|(simp only [*];done)|(simp [*];done)|grind)|apply And.intro|((first|apply intEq|apply boolEq|apply strEq|apply psEq|apply nilEq|apply arrEq);(try simp only [Int.toNat_natCast,etas,elDef]);first | done | omega | grind | (simp only [*]; done) | (simp [*]; done)))));(all_goals ((try simp only [Int.toNat_natCast,etas,elDef]);first | done | omega | grind | (simp only [*]; done) | (simp [*]; done))), (by exact sgOk_of (by rfl))⟩
    · rename_i x hx1 hx2 hx3 r2 hr1 hr2 hr3
      rw [List.take_of_length_le h] at hj
      have er : r2 = tU l := tU_eq (x := x) (by rw [← hj]; exact hx2) hr2 hr3
      exact leafV hK (by rw [er])
theorem s7o : (CtrOK Try.prog 7 (.gen .ow C7o) ∧ Callable Try.prog 7) := by
  refine gen_ok (E := E7o) (mkE_cons s17 (mkE_cons s18 (mkE_cons s19 (mkE_cons s20 (mkE_nil tab_ok))))) mix (O := O7o) (C := C7o) (own := .ow) Try.func7 rfl (by rfl) (by kernel_rfl) (fun args K h hbd => ?_)
  unfold C7o at h; split at h
  case h_2 => exact h.elim
  exact ⟨Nat.le_of_ble_eq_true rfl, a7o _ (by exact hbd) _ h⟩
noncomputable def c7r (l : List Req) (K : AV → List AV → Prop) : Prop :=
    K (.own .str (touchM l)) [.wr .req l]
noncomputable def C7r : List AV → (AV → List AV → Prop) → Prop
  | [.tup [.wr .req l]], K => c7r l K
  | _, _ => False
theorem s7r : CtrOK Try.prog 7 (.gen .ln C7r) ∧ Callable Try.prog 7 := by
  refine ⟨Snd.of (Snd.lend s7o.1) fun vs K h => ?_, s7o.2⟩
  unfold C7r at h
  split at h
  case h_2 => exact h.elim
  unfold c7r at h
  exact ⟨rfl, rfl, rfl, h⟩
noncomputable def c3 (l : List Req) (K : AV → List AV → Prop) : Prop :=
    Obl (∀ x ∈ l, bdR x) (K (.bool true) [])
noncomputable def C3 : List AV → (AV → List AV → Prop) → Prop
  | [.ps .req l], K => c3 l K
  | _, _ => False
noncomputable def E3 : Ctx := mkE tab [(4, .gen .ps C4), (5, .gen .ps C5), (6, .gen .ow C6r), (7, .gen .ln C7r), (8, .pure F8), (9, .pure F9), (10, .gen .ln C10), (11, .gen .ln C11), (12, .pure F12)]
noncomputable def O3 : Nat → List DI := ordL []
theorem a3 (l : List Req) (hb : BdAs [.ps .req l]) (K : AV → List AV → Prop) (h : c3 l K) : abody E3 O3 .ps Try.f3 (Try.f3.body.getD .skip) [.ps .req l] K := by
  simp only [BdAs, BdA, BdL, BdC, MX, ndC, shC, itC, stC, opC, chC, nwC, flC, rqC, rsC, enc, List.cons_append, List.nil_append, and_true, true_and] at hb
  unfold c3 at h
  obtain ⟨h1, hK⟩ := h
  have hn := touch_len l
  have e1 := heS_mk (touchM l) 1
  have e2 := mkS_len (touchM l) 1
  conv => whnf
  repeat' first|((first|refine Cnd.mk (fun h=>?_) (fun h=>?_)|refine Gd.mk (fun h=>?_))<;>(try simp [etas,elDef,-List.getD_eq_getElem?_getD] at h)<;>conv=>whnf)|((first|refine Obl.mk (by first|omega|rfl|exact inK_byte _|(simp only [inK,Int.toNat_natCast,etas,elDef,o12]<;>first|omega|grind)|grind [inK,o12]) ?_|refine OblG.mk (by ((conv=>whnf);(repeat (first|refine Bx.mk ?_|(intro h;(try simp [etas,elDef,-List.getD_eq_getElem?_getD] at h);conv=>whnf)));(first|omega|rfl|exact inK_byte _|(simp only [inK,Int.toNat_natCast,etas,elDef,o12]<;>first|omega|grind)|grind [inK,o12]))) ?_|refine And.intro ?_ ?_)<;>conv=>whnf)|exact True.intro|(intro;conv=>whnf)
  all_goals first
    | exact hK
    | (exfalso; (first | omega | exact absurd rfl (eqD_no.1 h) | exact absurd rfl h | (rcases h with h1 | h1 <;> first | omega | exact absurd rfl (eqD_no.1 h1) | exact absurd rfl h1 | (rcases h1 with h2 | h2 <;> first | omega | exact absurd rfl (eqD_no.1 h2) | exact absurd rfl h2))))
theorem s3 : (CtrOK Try.prog 3 (.gen .ps C3) ∧ Callable Try.prog 3) := by
  refine gen_ok (E := E3) (mkE_cons s4 (mkE_cons s5 (mkE_cons s6r (mkE_cons s7r (mkE_cons s8 (mkE_cons s9 (mkE_cons s10 (mkE_cons s11 (mkE_cons s12 (mkE_nil tab_ok)))))))))) mix (O := O3) (C := C3) (own := .ps) Try.func3 rfl (by rfl) (by kernel_rfl) (fun args K h hbd => ?_)
  unfold C3 at h; split at h
  case h_2 => exact h.elim
  exact ⟨Nat.le_of_ble_eq_true rfl, a3 _ (by exact hbd) _ h⟩
end Go.Rs

