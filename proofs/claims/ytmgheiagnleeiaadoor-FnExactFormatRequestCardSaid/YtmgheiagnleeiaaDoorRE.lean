import Derived.Test.YtmgheiagnleeiaaDoorRA
import Derived.Test.YtmgheiagnleeiaaDoorEE
import Derived.Test.YtmgheiagnleeiaaDoorEA
import Derived.Test.YtmgheiagnleeiaaDoorCK
import Derived.Test.YtmgheiagnleeiaaDoorCG
import Derived.Test.YtmgheiagnleeiaaDoorMB
import Derived.Test.YtmgheiagnleeiaaDoorDelB
import Derived.Test.YtmgheiagnleeiaaDoorCT
import Derived.Test.YtmgheiagnleeiaaDoorCP
import Derived.Test.YtmgheiagnleeiaaDoorMF
import Derived.Test.YtmgheiagnleeiaaDoorMJ
set_option linter.all false
set_option linter.unusedSimpArgs false
set_option linter.unusedVariables false
namespace Go.Rs
open Go.Proofs Go.RowKit
set_option maxRecDepth 100000
set_option maxHeartbeats 4000000
def opsT (l : List Opn) : Nat → Bs
  | 0 => []
  | i + 1 => opsT l i ++ (fmtM (opN (l.getD i default)) ++ [59])
def opsV (l : List Opn) : Bool := l.all fun o => validM (opN o)
def headM (q : Req) : Bs := methodB q.method ++ [32] ++ q.name ++ [32] ++ tagsM q.want ++ [32] ++ tagsM q.avoid ++ [32]
def reqTextM (q : Req) : Bs :=
  if reqM q = true then
    if (q.body.kind ≠ 0 ∧ q.method ≠ 2 ∧ q.method ≠ 5) ∨ (q.method ≠ 4 ∧ 0 < q.ops.length) then []
    else if opsV q.ops = true then headM q ++ (if q.method = 4 then opsT q.ops q.ops.length else textM q.body) else []
  else []
theorem opsT_succ (l : List Opn) (i : Nat) : opsT l (i + 1) = opsT l i ++ fmtM (opN (l.getD i default)) ++ [59] := by rw [List.append_assoc]; rfl
theorem opsT_len {l : List Opn} : ∀ i, i ≤ l.length → (∀ j, j < i → validM (opN (l.getD j default)) = true) → (opsT l i).length ≤ 2001 * i
  | 0, _, _ => by simp [opsT]
  | i + 1, hi, h => by
    have h1 := opsT_len i (by omega) fun j hj => h j (by omega)
    have h2 := valid_fmt (h i (by omega))
    unfold opsT
    simp only [List.length_append, List.length_cons, List.length_nil]
    omega
theorem opsV_yes {l : List Opn} (h : ∀ j, j < l.length → validM (opN (l.getD j default)) = true) : opsV l = true := (all_listD l default _).2 h
theorem opsV_no {l : List Opn} {i : Nat} (hi : i < l.length) (h : validM (opN (l.getD i default)) = false) : opsV l = false := all_noD hi h
theorem opsM_at {l : List Opn} (h : opsM l = true) : l.length ≤ 12 ∧ ∀ j, j < l.length → opOk (l.getD j default) = true := by
  unfold opsM at h
  rw [Bool.and_eq_true, decide_eq_true_eq] at h
  exact ⟨h.1, (all_listD l default _).1 h.2⟩
theorem opNode_some {o : Opn} (h : opOk o = true) : (opNodeM o).isSome = validM (opN o) := by
  unfold opNodeM; rw [h]
  cases validM (opN o) <;> rfl
theorem opNode_get {o : Opn} (d : Nd) (h : (opNodeM o).isSome = true) : (opNodeM o).getD d = opN o ∧ validM (opN o) = true := by
  unfold opNodeM at h ⊢
  split at h
  · rename_i h1
    rw [Bool.and_eq_true] at h1
    rw [if_pos (by rw [h1.1, h1.2]; rfl)]
    exact ⟨rfl, h1.2⟩
  · cases h
theorem name_len {b : Bs} (h : nameM b = true) : b.length ≤ 8 := by
  unfold nameM at h
  simp only [Bool.and_eq_true, decide_eq_true_eq] at h
  exact h.1.2
theorem reqM_facts {q : Req} (h : reqM q = true) : (1 ≤ q.method ∧ q.method ≤ 5) ∧ nameM q.name = true ∧ areTagsM q.want = true ∧ areTagsM q.avoid = true ∧ validM q.body = true ∧ opsM q.ops = true := by
  unfold reqM at h
  simp only [Bool.and_eq_true, decide_eq_true_eq] at h
  exact ⟨h.1.1.1.1.1, h.1.1.1.1.2, h.1.1.1.2, h.1.1.2, h.1.2, h.2⟩
noncomputable def v41 (l : List Bs) : AV := .str (tagsM l)
noncomputable def o41 (l : List Bs) : Prop := True
noncomputable def F41 : List AV → QR
  | [.ps .str l] => some (none, v41 l)
  | _ => none
noncomputable def E41 : Ctx := mkE tab [(32, .pure F32)]
noncomputable def O41 : Nat → List DI := ordL []
theorem a41 (l : List Bs) (hb : BdAs [.ps .str l]) (ho : o41 l) (K : AV → List AV → Prop) (hK : K (v41 l) []) : abody E41 O41 .ps Tryd.f41 (Tryd.f41.body.getD .skip) [.ps .str l] K := by
  simp only [BdAs, BdA, BdL, BdC, MX, ndC, shC, itC, stC, opC, chC, nwC, flC, rqC, rsC, enc, List.cons_append, List.nil_append, and_true, true_and] at hb
  unfold v41 at hK
  conv => whnf
  repeat' first|((first|refine Cnd.mk (fun h=>?_) (fun h=>?_)|refine Gd.mk (fun h=>?_))<;>(try simp [etas,elDef,-List.getD_eq_getElem?_getD] at h)<;>conv=>whnf)|((first|refine Obl.mk (by first|omega|rfl|exact inK_byte _|(simp only [inK,Int.toNat_natCast,etas,elDef]<;>first|omega|grind)|grind [inK]) ?_|refine OblG.mk (by ((conv=>whnf);(repeat (first|refine Bx.mk ?_|(intro h;(try simp [etas,elDef,-List.getD_eq_getElem?_getD] at h);conv=>whnf)));(first|omega|rfl|exact inK_byte _|(simp only [inK,Int.toNat_natCast,etas,elDef]<;>first|omega|grind)|grind [inK]))) ?_|refine And.intro ?_ ?_)<;>conv=>whnf)|exact True.intro|(intro;conv=>whnf)
  · exact leafS hK (by unfold tagsM; rw [if_neg (by simp [h])])
  have hv := h
  have h4 := tags_len hv
  refine aloop_intro Nat (fun k => k ≤ l.length ∧ True) (fun k => l.length - k) (fun k => [(4, .int .i64 k), (3, .str (tagsTo l k))]) (fun k => []) [] 0 [] [] ?_ ?_ (by exact sgOk_of (by rfl)) ?_
  · first | (simp; done) | (simp; assumption)
  · iterate 2 ((all_goals (conv=>whnf));(repeat' (first|exact trivial|rfl|(refine nilEq ?_;first|rfl|(simp only [*];done)|(simp [*];done)|grind)|apply And.intro|((first|apply intEq|apply boolEq|apply strEq|apply psEq|apply nilEq|apply arrEq);(try simp only [Int.toNat_natCast,etas,elDef]);first | done | omega | grind | (simp only [*]; done) | (simp [*]; done)))));(all_goals ((try simp only [Int.toNat_natCast,etas,elDef]);first | done | omega | grind | (simp only [*]; done) | (simp [*]; done)))
  rintro i ⟨hi, hj⟩
  conv => whnf
  have hln := tagsTo_len hv i hi
  have htw := fun h => tagW_len hv (i := i) h
  have hsl := fun h => tag_len hv (i := i) h
  repeat' first|((first|refine Cnd.mk (fun h=>?_) (fun h=>?_)|refine Gd.mk (fun h=>?_))<;>(try simp [etas,elDef,-List.getD_eq_getElem?_getD] at h)<;>conv=>whnf)|((first|refine Obl.mk (by first|omega|rfl|exact inK_byte _|(simp only [inK,Int.toNat_natCast,etas,elDef]<;>first|omega|grind)|grind [inK]) ?_|refine OblG.mk (by ((conv=>whnf);(repeat (first|refine Bx.mk ?_|(intro h;(try simp [etas,elDef,-List.getD_eq_getElem?_getD] at h);conv=>whnf)));(first|omega|rfl|exact inK_byte _|(simp only [inK,Int.toNat_natCast,etas,elDef]<;>first|omega|grind)|grind [inK]))) ?_|refine And.intro ?_ ?_)<;>conv=>whnf)|exact True.intro|(intro;conv=>whnf)
  · rename_i h5 h0
    have e5 : tagsTo l (i + 1) = tagsTo l i ++ [44] ++ [42] := by rw [tagsTo_succ, if_pos h0, tagW, if_pos (of_decide_eq_true h)]; simp
    exact ⟨i + 1, [], [], ⟨by omega, by grind⟩, by omega, by iterate 2 ((all_goals (conv=>whnf));(repeat' (first|exact trivial|rfl|(refine nilEq ?_;first|rfl|(simp only [*];done)|(simp [*];done)|grind)|apply And.intro|((first|apply intEq|apply boolEq|apply strEq|apply psEq|apply nilEq|apply arrEq);(try simp only [Int.toNat_natCast,etas,elDef]);first | done | omega | simp [e5]))));(all_goals ((try simp only [Int.toNat_natCast,etas,elDef]);first | done | omega | simp [e5])), (by exact sgOk_of (by rfl))⟩
  · rename_i h5 h0
    have e5 : tagsTo l (i + 1) = tagsTo l i ++ [44] ++ [34] ++ l.getD i [] ++ [34] := by rw [tagsTo_succ, if_pos h0, tagW, if_neg (of_decide_eq_false h)]; simp
    exact ⟨i + 1, [], [], ⟨by omega, by grind⟩, by omega, by iterate 2 ((all_goals (conv=>whnf));(repeat' (first|exact trivial|rfl|(refine nilEq ?_;first|rfl|(simp only [*];done)|(simp [*];done)|grind)|apply And.intro|((first|apply intEq|apply boolEq|apply strEq|apply psEq|apply nilEq|apply arrEq);(try simp only [Int.toNat_natCast,etas,elDef]);first | done | omega | simp [e5]))));(all_goals ((try simp only [Int.toNat_natCast,etas,elDef]);first | done | omega | simp [e5])), (by exact sgOk_of (by rfl))⟩
  · rename_i h5 h0
    have e5 : tagsTo l (i + 1) = tagsTo l i ++ [42] := by rw [tagsTo_succ, if_neg (by omega), tagW, if_pos (of_decide_eq_true h)]; simp
    exact ⟨i + 1, [], [], ⟨by omega, by grind⟩, by omega, by iterate 2 ((all_goals (conv=>whnf));(repeat' (first|exact trivial|rfl|(refine nilEq ?_;first|rfl|(simp only [*];done)|(simp [*];done)|grind)|apply And.intro|((first|apply intEq|apply boolEq|apply strEq|apply psEq|apply nilEq|apply arrEq);(try simp only [Int.toNat_natCast,etas,elDef]);first | done | omega | simp [e5]))));(all_goals ((try simp only [Int.toNat_natCast,etas,elDef]);first | done | omega | simp [e5])), (by exact sgOk_of (by rfl))⟩
  · rename_i h5 h0
    have e5 : tagsTo l (i + 1) = tagsTo l i ++ [34] ++ l.getD i [] ++ [34] := by rw [tagsTo_succ, if_neg (by omega), tagW, if_neg (of_decide_eq_false h)]; simp
    exact ⟨i + 1, [], [], ⟨by omega, by grind⟩, by omega, by iterate 2 ((all_goals (conv=>whnf));(repeat' (first|exact trivial|rfl|(refine nilEq ?_;first|rfl|(simp only [*];done)|(simp [*];done)|grind)|apply And.intro|((first|apply intEq|apply boolEq|apply strEq|apply psEq|apply nilEq|apply arrEq);(try simp only [Int.toNat_natCast,etas,elDef]);first | done | omega | simp [e5]))));(all_goals ((try simp only [Int.toNat_natCast,etas,elDef]);first | done | omega | simp [e5])), (by exact sgOk_of (by rfl))⟩
  · exact leafS hK (by unfold tagsM; rw [if_pos hv, show i = l.length by omega])
theorem s41 : (CtrOK Tryd.prog 41 (.pure F41) ∧ Callable Tryd.prog 41) := by
  refine pure_ok (E := E41) (mkE_cons s32 (mkE_nil tab_ok)) mix (O := O41) (F := F41) Tryd.func41 rfl (by rfl) (by kernel_rfl) (fun args o v h => ?_) (fun args o v h => ?_) (fun args o v h hbd hp K hK => ?_)
  · unfold F41 at h; split at h <;> cases h; first | trivial | (simp [v41, Scalar, Scalar2, Scalar1, stC, ndC, itC, chC, nwC])
  · unfold F41 at h; split at h <;> cases h; exact Nat.le_of_ble_eq_true rfl
  · unfold F41 at h; split at h
    case h_2 => cases h
    cases h
    exact a41 _ (by exact hbd) trivial K hK
noncomputable def v24 (l : List Bs) : AV := .str (tagsM l)
noncomputable def o24 (l : List Bs) : Prop := True
noncomputable def F24 : List AV → QR
  | [.ps .str l] => some (none, v24 l)
  | _ => none
noncomputable def E24 : Ctx := mkE tab [(46, .pure F46), (50, .gen .ps C50), (52, .gen .ps C52), (54, .gen .ps C54), (55, .gen .ps C55)]
noncomputable def O24 : Nat → List DI := ordL []
theorem a24 (l : List Bs) (hb : BdAs [.ps .str l]) (ho : o24 l) (K : AV → List AV → Prop) (hK : K (v24 l) []) : abody E24 O24 .ps Tryd.f24 (Tryd.f24.body.getD .skip) [.ps .str l] K := by
  simp only [BdAs, BdA, BdL, BdC, MX, ndC, shC, itC, stC, opC, chC, nwC, flC, rqC, rsC, enc, List.cons_append, List.nil_append, and_true, true_and] at hb
  unfold v24 at hK
  conv => whnf
  repeat' first|((first|refine Cnd.mk (fun h=>?_) (fun h=>?_)|refine Gd.mk (fun h=>?_))<;>(try simp [etas,elDef,-List.getD_eq_getElem?_getD] at h)<;>conv=>whnf)|((first|refine Obl.mk (by first|omega|rfl|exact inK_byte _|(simp only [inK,Int.toNat_natCast,etas,elDef]<;>first|omega|grind)|grind [inK]) ?_|refine OblG.mk (by ((conv=>whnf);(repeat (first|refine Bx.mk ?_|(intro h;(try simp [etas,elDef,-List.getD_eq_getElem?_getD] at h);conv=>whnf)));(first|omega|rfl|exact inK_byte _|(simp only [inK,Int.toNat_natCast,etas,elDef]<;>first|omega|grind)|grind [inK]))) ?_|refine And.intro ?_ ?_)<;>conv=>whnf)|exact True.intro|(intro;conv=>whnf)
  · exact leafS hK (by unfold tagsM; rw [if_neg (by simp [h])])
  have hv := h
  have h4 := tags_len hv
  refine aloop_intro Nat (fun k => k ≤ l.length ∧ True) (fun k => l.length - k) (fun k => [(11, .int .i64 k)]) (fun k => [(3, .bld (tagsTo l k))]) [] 0 [] [] ?_ ?_ (by exact sgOk_of (by rfl)) ?_
  · first | (simp; done) | (simp; assumption)
  · iterate 2 ((all_goals (conv=>whnf));(repeat' (first|exact trivial|rfl|(refine nilEq ?_;first|rfl|(simp only [*];done)|(simp [*];done)|grind)|apply And.intro|((first|apply intEq|apply boolEq|apply strEq|apply psEq|apply nilEq|apply arrEq);(try simp only [Int.toNat_natCast,etas,elDef]);first | done | omega | grind | (simp only [*]; done) | (simp [*]; done)))));(all_goals ((try simp only [Int.toNat_natCast,etas,elDef]);first | done | omega | grind | (simp only [*]; done) | (simp [*]; done)))
  rintro i ⟨hi, hj⟩
  conv => whnf
  have hln := tagsTo_len hv i hi
  have htw := fun h => tagW_len hv (i := i) h
  have hsl := fun h => tag_len hv (i := i) h
  repeat' first|((first|refine Cnd.mk (fun h=>?_) (fun h=>?_)|refine Gd.mk (fun h=>?_))<;>(try simp [etas,elDef,-List.getD_eq_getElem?_getD] at h)<;>conv=>whnf)|((first|refine Obl.mk (by first|omega|rfl|exact inK_byte _|(simp only [inK,Int.toNat_natCast,etas,elDef]<;>first|omega|grind)|grind [inK]) ?_|refine OblG.mk (by ((conv=>whnf);(repeat (first|refine Bx.mk ?_|(intro h;(try simp [etas,elDef,-List.getD_eq_getElem?_getD] at h);conv=>whnf)));(first|omega|rfl|exact inK_byte _|(simp only [inK,Int.toNat_natCast,etas,elDef]<;>first|omega|grind)|grind [inK]))) ?_|refine And.intro ?_ ?_)<;>conv=>whnf)|exact True.intro|(intro;conv=>whnf)
  · rename_i h5 h0
    have e5 : tagsTo l (i + 1) = tagsTo l i ++ [44] ++ l.getD i [] := by rw [tagsTo_succ, if_pos h0, tagW, if_pos (of_decide_eq_true h), of_decide_eq_true h]; simp
    exact ⟨i + 1, [], [], ⟨by omega, by grind⟩, by omega, by iterate 2 ((all_goals (conv=>whnf));(repeat' (first|exact trivial|rfl|(refine nilEq ?_;first|rfl|(simp only [*];done)|(simp [*];done)|grind)|apply And.intro|((first|apply intEq|apply boolEq|apply strEq|apply psEq|apply nilEq|apply arrEq);(try simp only [Int.toNat_natCast,etas,elDef]);first | done | omega | simp [e5]))));(all_goals ((try simp only [Int.toNat_natCast,etas,elDef]);first | done | omega | simp [e5])), (by exact sgOk_of (by rfl))⟩
  · rename_i h5 h0
    have e5 : tagsTo l (i + 1) = tagsTo l i ++ [44] ++ quoteM (l.getD i []) := by rw [tagsTo_succ, if_pos h0, tag_quote hv h5 (of_decide_eq_false h)]; simp
    exact ⟨i + 1, [], [], ⟨by omega, by grind⟩, by omega, by iterate 2 ((all_goals (conv=>whnf));(repeat' (first|exact trivial|rfl|(refine nilEq ?_;first|rfl|(simp only [*];done)|(simp [*];done)|grind)|apply And.intro|((first|apply intEq|apply boolEq|apply strEq|apply psEq|apply nilEq|apply arrEq);(try simp only [Int.toNat_natCast,etas,elDef]);first | done | omega | simp [e5]))));(all_goals ((try simp only [Int.toNat_natCast,etas,elDef]);first | done | omega | simp [e5])), (by exact sgOk_of (by rfl))⟩
  · rename_i h5 h0
    have e5 : tagsTo l (i + 1) = tagsTo l i ++ l.getD i [] := by rw [tagsTo_succ, if_neg (by omega), tagW, if_pos (of_decide_eq_true h), of_decide_eq_true h]; simp
    exact ⟨i + 1, [], [], ⟨by omega, by grind⟩, by omega, by iterate 2 ((all_goals (conv=>whnf));(repeat' (first|exact trivial|rfl|(refine nilEq ?_;first|rfl|(simp only [*];done)|(simp [*];done)|grind)|apply And.intro|((first|apply intEq|apply boolEq|apply strEq|apply psEq|apply nilEq|apply arrEq);(try simp only [Int.toNat_natCast,etas,elDef]);first | done | omega | simp [e5]))));(all_goals ((try simp only [Int.toNat_natCast,etas,elDef]);first | done | omega | simp [e5])), (by exact sgOk_of (by rfl))⟩
  · rename_i h5 h0
    have e5 : tagsTo l (i + 1) = tagsTo l i ++ quoteM (l.getD i []) := by rw [tagsTo_succ, if_neg (by omega), tag_quote hv h5 (of_decide_eq_false h)]; simp
    exact ⟨i + 1, [], [], ⟨by omega, by grind⟩, by omega, by iterate 2 ((all_goals (conv=>whnf));(repeat' (first|exact trivial|rfl|(refine nilEq ?_;first|rfl|(simp only [*];done)|(simp [*];done)|grind)|apply And.intro|((first|apply intEq|apply boolEq|apply strEq|apply psEq|apply nilEq|apply arrEq);(try simp only [Int.toNat_natCast,etas,elDef]);first | done | omega | simp [e5]))));(all_goals ((try simp only [Int.toNat_natCast,etas,elDef]);first | done | omega | simp [e5])), (by exact sgOk_of (by rfl))⟩
  · exact leafS hK (by unfold tagsM; rw [if_pos hv, show i = l.length by omega])
theorem s24 : (CtrOK Tryd.prog 24 (.pure F24) ∧ Callable Tryd.prog 24) := by
  refine pure_ok (E := E24) (mkE_cons s46 (mkE_cons s50 (mkE_cons s52 (mkE_cons s54 (mkE_cons s55 (mkE_nil tab_ok)))))) mix (O := O24) (F := F24) Tryd.func24 rfl (by rfl) (by kernel_rfl) (fun args o v h => ?_) (fun args o v h => ?_) (fun args o v h hbd hp K hK => ?_)
  · unfold F24 at h; split at h <;> cases h; first | trivial | (simp [v24, Scalar, Scalar2, Scalar1, stC, ndC, itC, chC, nwC])
  · unfold F24 at h; split at h <;> cases h; exact Nat.le_of_ble_eq_true rfl
  · unfold F24 at h; split at h
    case h_2 => cases h
    cases h
    exact a24 _ (by exact hbd) trivial K hK
noncomputable def v23 (k : Int) : AV := .str (methodB k)
noncomputable def o23 (k : Int) : Prop := True
noncomputable def F23 : List AV → QR
  | [.int .i64 k] => some (none, v23 k)
  | _ => none
noncomputable def E23 : Ctx := mkE tab []
noncomputable def O23 : Nat → List DI := ordL []
theorem a23 (k : Int) (hb : BdAs [.int .i64 k]) (ho : o23 k) (K : AV → List AV → Prop) (hK : K (v23 k) []) : abody E23 O23 .ps Tryd.f23 (Tryd.f23.body.getD .skip) [.int .i64 k] K := by
  simp only [BdAs, BdA, BdL, BdC, MX, ndC, shC, itC, stC, opC, chC, nwC, flC, rqC, rsC, enc, List.cons_append, List.nil_append, and_true, true_and] at hb
  unfold v23 at hK
  conv => whnf
  repeat' first|((first|refine Cnd.mk (fun h=>?_) (fun h=>?_)|refine Gd.mk (fun h=>?_))<;>(try simp [etas,elDef,-List.getD_eq_getElem?_getD] at h)<;>conv=>whnf)|((first|refine Obl.mk (by first|omega|rfl|exact inK_byte _|(simp only [inK,Int.toNat_natCast,etas,elDef]<;>first|omega|grind)|grind [inK]) ?_|refine OblG.mk (by ((conv=>whnf);(repeat (first|refine Bx.mk ?_|(intro h;(try simp [etas,elDef,-List.getD_eq_getElem?_getD] at h);conv=>whnf)));(first|omega|rfl|exact inK_byte _|(simp only [inK,Int.toNat_natCast,etas,elDef]<;>first|omega|grind)|grind [inK]))) ?_|refine And.intro ?_ ?_)<;>conv=>whnf)|exact True.intro|(intro;conv=>whnf)
  all_goals exact leafS hK (by simp [methodB, *])
theorem s23 : (CtrOK Tryd.prog 23 (.pure F23) ∧ Callable Tryd.prog 23) := by
  refine pure_ok (E := E23) (mkE_nil tab_ok) mix (O := O23) (F := F23) Tryd.func23 rfl (by rfl) (by kernel_rfl) (fun args o v h => ?_) (fun args o v h => ?_) (fun args o v h hbd hp K hK => ?_)
  · unfold F23 at h; split at h <;> cases h; first | trivial | (simp [v23, Scalar, Scalar2, Scalar1, stC, ndC, itC, chC, nwC])
  · unfold F23 at h; split at h <;> cases h; exact Nat.le_of_ble_eq_true rfl
  · unfold F23 at h; split at h
    case h_2 => cases h
    cases h
    exact a23 _ (by exact hbd) trivial K hK
noncomputable def v40  : AV := .ps .str [[], [103, 101, 116], [112, 117, 116], [100, 101, 108, 101, 116, 101], [112, 97, 116, 99, 104], [109, 101, 114, 103, 101]]
noncomputable def o40  : Prop := True
noncomputable def F40 : List AV → QR
  | [] => some (none, v40 )
  | _ => none
noncomputable def E40 : Ctx := mkE tab []
noncomputable def O40 : Nat → List DI := ordL []
theorem a40  (hb : BdAs []) (ho : o40 ) (K : AV → List AV → Prop) (hK : K (v40 ) []) : abody E40 O40 .ps Tryd.f40 (Tryd.f40.body.getD .skip) [] K := by
  simp only [BdAs, BdA, BdL, BdC, MX, ndC, shC, itC, stC, opC, chC, nwC, flC, rqC, rsC, enc, List.cons_append, List.nil_append, and_true, true_and] at hb
  unfold v40 at hK
  conv => whnf
  repeat' first|((first|refine Cnd.mk (fun h=>?_) (fun h=>?_)|refine Gd.mk (fun h=>?_))<;>(try simp [etas,elDef,-List.getD_eq_getElem?_getD] at h)<;>conv=>whnf)|((first|refine Obl.mk (by first|omega|rfl|exact inK_byte _|(simp only [inK,Int.toNat_natCast,etas,elDef]<;>first|omega|grind)|grind [inK]) ?_|refine OblG.mk (by ((conv=>whnf);(repeat (first|refine Bx.mk ?_|(intro h;(try simp [etas,elDef,-List.getD_eq_getElem?_getD] at h);conv=>whnf)));(first|omega|rfl|exact inK_byte _|(simp only [inK,Int.toNat_natCast,etas,elDef]<;>first|omega|grind)|grind [inK]))) ?_|refine And.intro ?_ ?_)<;>conv=>whnf)|exact True.intro|(intro;conv=>whnf)
  exact hK
theorem s40 : (CtrOK Tryd.prog 40 (.pure F40) ∧ Callable Tryd.prog 40) := by
  refine pure_ok (E := E40) (mkE_nil tab_ok) mix (O := O40) (F := F40) Tryd.func40 rfl (by rfl) (by kernel_rfl) (fun args o v h => ?_) (fun args o v h => ?_) (fun args o v h hbd hp K hK => ?_)
  · unfold F40 at h; split at h <;> cases h; first | trivial | (simp [v40, Scalar, Scalar2, Scalar1, stC, ndC, itC, chC, nwC])
  · unfold F40 at h; split at h <;> cases h; exact Nat.le_of_ble_eq_true rfl
  · unfold F40 at h; split at h
    case h_2 => cases h
    cases h
    exact a40  (by exact hbd) trivial K hK
noncomputable def v21 (l : List Opn) : AV := .tup [.str (if opsV l then opsT l l.length else []), .bool (opsV l)]
noncomputable def o21 (l : List Opn) : Prop := opsM l = true
noncomputable def F21 : List AV → QR
  | [.ps .opn l] => some (some (o21 l), v21 l)
  | _ => none
noncomputable def E21 : Ctx := mkE tab [(49, .gen .ps C49), (50, .gen .ps C50), (51, .gen .ps C51), (52, .gen .ps C52)]
noncomputable def O21 : Nat → List DI := ordL []
theorem a21 (l : List Opn) (hb : BdAs [.ps .opn l]) (ho : o21 l) (K : AV → List AV → Prop) (hK : K (v21 l) []) : abody E21 O21 .ps Tryd.f21 (Tryd.f21.body.getD .skip) [.ps .opn l] K := by
  simp only [BdAs, BdA, BdL, BdC, MX, ndC, shC, itC, stC, opC, chC, nwC, flC, rqC, rsC, enc, List.cons_append, List.nil_append, and_true, true_and] at hb
  unfold o21 at ho
  unfold v21 at hK
  obtain ⟨h12, hok⟩ := opsM_at ho
  conv => whnf
  repeat' first|((first|refine Cnd.mk (fun h=>?_) (fun h=>?_)|refine Gd.mk (fun h=>?_))<;>(try simp [etas,elDef,-List.getD_eq_getElem?_getD] at h)<;>conv=>whnf)|((first|refine Obl.mk (by first|omega|rfl|exact inK_byte _|(simp only [inK,Int.toNat_natCast,etas,elDef,m49]<;>first|omega|grind)|grind [inK,m49]) ?_|refine OblG.mk (by ((conv=>whnf);(repeat (first|refine Bx.mk ?_|(intro h;(try simp [etas,elDef,-List.getD_eq_getElem?_getD] at h);conv=>whnf)));(first|omega|rfl|exact inK_byte _|(simp only [inK,Int.toNat_natCast,etas,elDef,m49]<;>first|omega|grind)|grind [inK,m49]))) ?_|refine And.intro ?_ ?_)<;>conv=>whnf)|exact True.intro|(intro;conv=>whnf)
  refine aloop_intro Nat (fun k => k ≤ l.length ∧ ∀ j, j < k → validM (opN (l.getD j default)) = true) (fun k => l.length - k) (fun k => [(11, .int .i64 k)]) (fun k => [(4, .bld (opsT l k))]) [] 0 [] [] ?_ ?_ (by exact sgOk_of (by rfl)) ?_
  · first | (simp; done) | (simp; assumption)
  · iterate 2 ((all_goals (conv=>whnf));(repeat' (first|exact trivial|rfl|(refine nilEq ?_;first|rfl|(simp only [*];done)|(simp [*];done)|grind)|apply And.intro|((first|apply intEq|apply boolEq|apply strEq|apply psEq|apply nilEq|apply arrEq);(try simp only [Int.toNat_natCast,etas,elDef]);first | done | omega | grind | (simp only [*]; done) | (simp [*]; done)))));(all_goals ((try simp only [Int.toNat_natCast,etas,elDef]);first | done | omega | grind | (simp only [*]; done) | (simp [*]; done)))
  rintro i ⟨hi, hj⟩
  conv => whnf
  have hln := opsT_len i hi hj
  have hok1 := fun h => hok i h
  have q1 := fun (h : i < l.length) => opNode_some (hok i h)
  have q2 := fun (d : Nd) h => opNode_get (o := l.getD i default) d h
  have q3 := fun (h : validM (opN (l.getD i default)) = true) => validM_ok h
  have q4 := fun (h : validM (opN (l.getD i default)) = true) => (validM_iff.1 h).2
  have q5 := fun (h : validM (opN (l.getD i default)) = true) => valid_fmt h
  repeat' first|((first|refine Cnd.mk (fun h=>?_) (fun h=>?_)|refine Gd.mk (fun h=>?_))<;>(try simp [etas,elDef,-List.getD_eq_getElem?_getD] at h)<;>conv=>whnf)|((first|refine Obl.mk (by first|omega|rfl|exact inK_byte _|(simp only [inK,Int.toNat_natCast,etas,elDef,m49]<;>first|omega|grind)|grind [inK,m49]) ?_|refine OblG.mk (by ((conv=>whnf);(repeat (first|refine Bx.mk ?_|(intro h;(try simp [etas,elDef,-List.getD_eq_getElem?_getD] at h);conv=>whnf)));(first|omega|rfl|exact inK_byte _|(simp only [inK,Int.toNat_natCast,etas,elDef,m49]<;>first|omega|grind)|grind [inK,m49]))) ?_|refine And.intro ?_ ?_)<;>conv=>whnf)|exact True.intro|(intro;conv=>whnf)
  · rename_i h5
    have hv : validM (opN (l.getD i default)) = false := by have := q1 h5; rw [h] at this; exact this.symm
    exact leafV hK (by rw [opsV_no h5 hv]; rfl)
  · obtain ⟨e1, e2⟩ := q2 default h
    have e5 : opsT l (i + 1) = opsT l i ++ fmtM (opN (l.getD i default)) ++ [59] := opsT_succ l i
    exact ⟨i + 1, [], [], ⟨by omega, fun j hj2 => by rcases Nat.lt_succ_iff_lt_or_eq.1 hj2 with h | h; exact hj j h; rw [h]; exact e2⟩, by omega, by iterate 2 ((all_goals (conv=>whnf));(repeat' (first|exact trivial|rfl|(refine nilEq ?_;first|rfl|(simp only [*];done)|(simp [*];done)|grind)|apply And.intro|((first|apply intEq|apply boolEq|apply strEq|apply psEq|apply nilEq|apply arrEq);(try simp only [Int.toNat_natCast,etas,elDef]);first | done | omega | (simp only [nd_eta, e1, e5]; done) | (simp [nd_eta, e1, e5, -List.getD_eq_getElem?_getD]; done)))));(all_goals ((try simp only [Int.toNat_natCast,etas,elDef]);first | done | omega | (simp only [nd_eta, e1, e5]; done) | (simp [nd_eta, e1, e5, -List.getD_eq_getElem?_getD]; done))), (by exact sgOk_of (by rfl))⟩
  · have e : i = l.length := by omega
    subst e
    exact leafV hK (by rw [opsV_yes hj]; rfl)
theorem s21 : (CtrOK Tryd.prog 21 (.pure F21) ∧ Callable Tryd.prog 21) := by
  refine pure_ok (E := E21) (mkE_cons s49 (mkE_cons s50 (mkE_cons s51 (mkE_cons s52 (mkE_nil tab_ok))))) mix (O := O21) (F := F21) Tryd.func21 rfl (by rfl) (by kernel_rfl) (fun args o v h => ?_) (fun args o v h => ?_) (fun args o v h hbd hp K hK => ?_)
  · unfold F21 at h; split at h <;> cases h; first | trivial | (simp [v21, Scalar, Scalar2, Scalar1, stC, ndC, itC, chC, nwC])
  · unfold F21 at h; split at h <;> cases h; exact Nat.le_of_ble_eq_true rfl
  · unfold F21 at h; split at h
    case h_2 => cases h
    cases h
    exact a21 _ (by exact hbd) (hp _ rfl) K hK
noncomputable def v15 (q : Req) : AV := .str (headM q ++ (if q.method = 4 then opsT q.ops q.ops.length else fmtM q.body))
noncomputable def o15 (q : Req) : Prop := reqM q = true ∧ opsV q.ops = true
noncomputable def F15 : List AV → QR
  | [.st [.int .i64 q_0, .str q_1, .ps .str q_2, .ps .str q_3, .int .i64 q_4_0, .int .i64 q_4_1, .str q_4_2, .ps .str q_4_3, .ps .node q_4_4, .ps .opn q_5]] => some (some (o15 ⟨q_0, q_1, q_2, q_3, ⟨q_4_0, q_4_1, q_4_2, q_4_3, q_4_4⟩, q_5⟩), v15 ⟨q_0, q_1, q_2, q_3, ⟨q_4_0, q_4_1, q_4_2, q_4_3, q_4_4⟩, q_5⟩)
  | _ => none
noncomputable def E15 : Ctx := mkE tab [(14, .gen .ps C14), (40, .pure F40), (41, .pure F41), (42, .pure F42)]
noncomputable def O15 : Nat → List DI := ordL [(1, [.q 0, .q 1, .q 2, .q 3, .q 4, .q 5, .q 6, .q 7, .q 8, .q 9, .q 10, .q 11, .q 12, .q 13, .q 14, .q 15, .q 16, .q 17, .q 18, .q 19, .q 20])]
theorem a15 (q : Req) (hb : BdAs [.st (rqC q)]) (ho : o15 q) (K : AV → List AV → Prop) (hK : K (v15 q) []) : abody E15 O15 .ps Tryd.f15 (Tryd.f15.body.getD .skip) [.st (rqC q)] K := by
  simp only [BdAs, BdA, BdL, BdC, MX, ndC, shC, itC, stC, opC, chC, nwC, flC, rqC, rsC, enc, List.cons_append, List.nil_append, and_true, true_and] at hb
  unfold o15 at ho
  unfold v15 at hK
  obtain ⟨h1, h2, h3, h4, h5, h6⟩ := reqM_facts ho.1
  obtain ⟨h12, hok⟩ := opsM_at h6
  have hv := (all_listD q.ops default _).1 ho.2
  have m1 := methodB_len q.method
  have m2 := tagsM_len q.want
  have m3 := tagsM_len q.avoid
  have m4 := valid_fmt h5
  have m5 : ([[], [103, 101, 116], [112, 117, 116], [100, 101, 108, 101, 116, 101], [112, 97, 116, 99, 104], [109, 101, 114, 103, 101]] : List Bs).getD q.method.toNat [] = methodB q.method := verbs_at h1.1 h1.2
  have m6 : (([[], [103, 101, 116], [112, 117, 116], [100, 101, 108, 101, 116, 101], [112, 97, 116, 99, 104], [109, 101, 114, 103, 101]] : List Bs).getD q.method.toNat (elDef .str)).length ≤ 6 := by have := m1; rw [← m5] at this; exact this
  have m7 := name_len h2
  have q8 := validM_ok h5
  have q9 := (validM_iff.1 h5).2
  have m8 : (headM q).length ≤ 80 := by unfold headM; simp only [List.length_append, List.length_cons, List.length_nil]; omega
  conv => whnf
  repeat' first|((first|refine Cnd.mk (fun h=>?_) (fun h=>?_)|refine Gd.mk (fun h=>?_))<;>(try simp [etas,elDef,-List.getD_eq_getElem?_getD] at h)<;>conv=>whnf)|((first|refine Obl.mk (by first|omega|rfl|exact inK_byte _|(simp only [inK,Int.toNat_natCast,etas,elDef,o42,m42]<;>first|omega|grind)|grind [inK,o42,m42]) ?_|refine OblG.mk (by ((conv=>whnf);(repeat (first|refine Bx.mk ?_|(intro h;(try simp [etas,elDef,-List.getD_eq_getElem?_getD] at h);conv=>whnf)));(first|omega|rfl|exact inK_byte _|(simp only [inK,Int.toNat_natCast,etas,elDef,o42,m42]<;>first|omega|grind)|grind [inK,o42,m42]))) ?_|refine And.intro ?_ ?_)<;>conv=>whnf)|exact True.intro|(intro;conv=>whnf)
  · have hmk := h
    refine aloop_intro Nat (fun k => k ≤ q.ops.length) (fun k => q.ops.length - k) (fun k => [(4, .int .i64 k), (3, .str (headM q ++ opsT q.ops k))]) (fun _ => []) [1] 0 [] [] (Nat.zero_le _) ?_ (by exact sgOk_of (by rfl)) ?_
    · iterate 2 ((all_goals (conv=>whnf));(repeat' (first|exact trivial|rfl|(refine nilEq ?_;first|rfl|(simp only [*];done)|(simp [*];done)|grind)|apply And.intro|((first|apply intEq|apply boolEq|apply strEq|apply psEq|apply nilEq|apply arrEq);(try simp only [Int.toNat_natCast,etas,elDef]);first | done | omega | (unfold headM opsT; rw [← m5]; simp; done)))));(all_goals ((try simp only [Int.toNat_natCast,etas,elDef]);first | done | omega | (unfold headM opsT; rw [← m5]; simp; done)))
    rintro i hi
    have hln := opsT_len i hi fun j hj => hv j (by omega)
    have q4 := fun h => hv i h
    have q5 := fun h => valid_fmt (hv i h)
    have q6 := fun h => validM_ok (hv i h)
    have q7 := fun h => hok i h
    have e5 : opsT q.ops (i + 1) = opsT q.ops i ++ fmtM (opN (q.ops.getD i default)) ++ [59] := opsT_succ q.ops i
    conv => whnf
    repeat' first|((first|refine Cnd.mk (fun h=>?_) (fun h=>?_)|refine Gd.mk (fun h=>?_))<;>(try simp [etas,elDef,-List.getD_eq_getElem?_getD] at h)<;>conv=>whnf)|((first|refine Obl.mk (by first|omega|rfl|exact inK_byte _|(simp only [inK,Int.toNat_natCast,etas,elDef,o42,m42]<;>first|omega|grind)|grind [inK,o42,m42]) ?_|refine OblG.mk (by ((conv=>whnf);(repeat (first|refine Bx.mk ?_|(intro h;(try simp [etas,elDef,-List.getD_eq_getElem?_getD] at h);conv=>whnf)));(first|omega|rfl|exact inK_byte _|(simp only [inK,Int.toNat_natCast,etas,elDef,o42,m42]<;>first|omega|grind)|grind [inK,o42,m42]))) ?_|refine And.intro ?_ ?_)<;>conv=>whnf)|exact True.intro|(intro;conv=>whnf)
    · exact ⟨i + 1, [], [], by omega, by omega, by iterate 2 ((all_goals (conv=>whnf));(repeat' (first|exact trivial|rfl|(refine nilEq ?_;first|rfl|(simp only [*];done)|(simp [*];done)|grind)|apply And.intro|((first|apply intEq|apply boolEq|apply strEq|apply psEq|apply nilEq|apply arrEq);(try simp only [Int.toNat_natCast,etas,elDef]);first | done | omega | (simp only [e5]; done) | (simp [e5, -List.getD_eq_getElem?_getD]; done)))));(all_goals ((try simp only [Int.toNat_natCast,etas,elDef]);first | done | omega | (simp only [e5]; done) | (simp [e5, -List.getD_eq_getElem?_getD]; done))), (by exact sgOk_of (by rfl))⟩
    · exact leafS hK (by rw [if_pos hmk, show i = q.ops.length by omega])
  · exact leafS hK (by rw [if_neg h]; simp only [nd_eta]; unfold headM; rw [← m5]; rfl)
theorem s15 : (CtrOK Tryd.prog 15 (.pure F15) ∧ Callable Tryd.prog 15) := by
  refine pure_ok (E := E15) (mkE_cons s14 (mkE_cons s40 (mkE_cons s41 (mkE_cons s42 (mkE_nil tab_ok))))) mix (O := O15) (F := F15) Tryd.func15 rfl (by rfl) (by kernel_rfl) (fun args o v h => ?_) (fun args o v h => ?_) (fun args o v h hbd hp K hK => ?_)
  · unfold F15 at h; split at h <;> cases h; first | trivial | (simp [v15, Scalar, Scalar2, Scalar1, stC, ndC, itC, chC, nwC])
  · unfold F15 at h; split at h <;> cases h; exact Nat.le_of_ble_eq_true rfl
  · unfold F15 at h; split at h
    case h_2 => cases h
    cases h
    exact a15 ⟨_, _, _, _, ⟨_, _, _, _, _⟩, _⟩ (by exact hbd) (hp _ rfl) K hK
noncomputable def v5 (q : Req) : AV := .str (reqTextM q)
noncomputable def o5 (q : Req) : Prop := True
noncomputable def F5 : List AV → QR
  | [.st [.int .i64 q_0, .str q_1, .ps .str q_2, .ps .str q_3, .int .i64 q_4_0, .int .i64 q_4_1, .str q_4_2, .ps .str q_4_3, .ps .node q_4_4, .ps .opn q_5]] => some (none, v5 ⟨q_0, q_1, q_2, q_3, ⟨q_4_0, q_4_1, q_4_2, q_4_3, q_4_4⟩, q_5⟩)
  | _ => none
noncomputable def E5 : Ctx := mkE tab [(12, .pure F12), (13, .pure F13), (14, .gen .ps C14), (15, .pure F15)]
noncomputable def O5 : Nat → List DI := ordL []
theorem a5 (q : Req) (hb : BdAs [.st (rqC q)]) (ho : o5 q) (K : AV → List AV → Prop) (hK : K (v5 q) []) : abody E5 O5 .ps Tryd.f5 (Tryd.f5.body.getD .skip) [.st (rqC q)] K := by
  simp only [BdAs, BdA, BdL, BdC, MX, ndC, shC, itC, stC, opC, chC, nwC, flC, rqC, rsC, enc, List.cons_append, List.nil_append, and_true, true_and] at hb
  unfold v5 at hK
  conv => whnf
  repeat' first|((first|refine Cnd.mk (fun h=>?_) (fun h=>?_)|refine Gd.mk (fun h=>?_))<;>(try simp [etas,elDef,-List.getD_eq_getElem?_getD] at h)<;>conv=>whnf)|((first|refine Obl.mk (by first|omega|rfl|exact inK_byte _|(simp only [inK,Int.toNat_natCast,etas,elDef,o15]<;>first|omega|grind)|grind [inK,o15]) ?_|refine OblG.mk (by ((conv=>whnf);(repeat (first|refine Bx.mk ?_|(intro h;(try simp [etas,elDef,-List.getD_eq_getElem?_getD] at h);conv=>whnf)));(first|omega|rfl|exact inK_byte _|(simp only [inK,Int.toNat_natCast,etas,elDef,o15]<;>first|omega|grind)|grind [inK,o15]))) ?_|refine And.intro ?_ ?_)<;>conv=>whnf)|exact True.intro|(intro;conv=>whnf)
  · refine leafS hK ?_
    unfold reqTextM
    split
    · rename_i h5
      rw [if_pos]
      rcases h with (h | h) | h
      · rw [h5] at h; cases h
      · exact .inl ⟨h.1.1, h.1.2, h.2⟩
      · exact .inr ⟨h.2, h.1⟩
    · rfl
  have h0 := h
  obtain ⟨h1, h2, h3, h4, h5, h6⟩ := reqM_facts h.1.1
  obtain ⟨h12, hok⟩ := opsM_at h6
  have hn : ¬ ((q.body.kind ≠ 0 ∧ q.method ≠ 2 ∧ q.method ≠ 5) ∨ (q.method ≠ 4 ∧ 0 < q.ops.length)) := by
    rintro (h9 | h9)
    · exact h9.2.2 (h.1.2 h9.1 h9.2.1)
    · exact h9.1 (h.2 h9.2)
  have eT : reqTextM q = if opsV q.ops = true then headM q ++ (if q.method = 4 then opsT q.ops q.ops.length else textM q.body) else [] := by
    unfold reqTextM; rw [if_pos h.1.1, if_neg hn]
  have eB : textM q.body = fmtM q.body := by unfold textM; rw [if_pos h5]
  rw [eT, eB] at hK
  refine aloop_intro Nat (fun k => k ≤ q.ops.length ∧ ∀ j, j < k → validM (opN (q.ops.getD j default)) = true) (fun k => q.ops.length - k) (fun k => [(3, .int .i64 k)]) (fun k => []) [1] 0 [] [] ?_ ?_ (by exact sgOk_of (by rfl)) ?_
  · first | (simp; done) | (simp; assumption)
  · iterate 2 ((all_goals (conv=>whnf));(repeat' (first|exact trivial|rfl|(refine nilEq ?_;first|rfl|(simp only [*];done)|(simp [*];done)|grind)|apply And.intro|((first|apply intEq|apply boolEq|apply strEq|apply psEq|apply nilEq|apply arrEq);(try simp only [Int.toNat_natCast,etas,elDef]);first | done | omega | grind | (simp only [*]; done) | (simp [*]; done)))));(all_goals ((try simp only [Int.toNat_natCast,etas,elDef]);first | done | omega | grind | (simp only [*]; done) | (simp [*]; done)))
  rintro i ⟨hi, hj⟩
  conv => whnf
  have q7 := fun h => hok i h
  repeat' first|((first|refine Cnd.mk (fun h=>?_) (fun h=>?_)|refine Gd.mk (fun h=>?_))<;>(try simp [etas,elDef,-List.getD_eq_getElem?_getD] at h)<;>conv=>whnf)|((first|refine Obl.mk (by first|omega|rfl|exact inK_byte _|(simp only [inK,Int.toNat_natCast,etas,elDef,o15]<;>first|omega|grind)|grind [inK,o15]) ?_|refine OblG.mk (by ((conv=>whnf);(repeat (first|refine Bx.mk ?_|(intro h;(try simp [etas,elDef,-List.getD_eq_getElem?_getD] at h);conv=>whnf)));(first|omega|rfl|exact inK_byte _|(simp only [inK,Int.toNat_natCast,etas,elDef,o15]<;>first|omega|grind)|grind [inK,o15]))) ?_|refine And.intro ?_ ?_)<;>conv=>whnf)|exact True.intro|(intro;conv=>whnf)
  · rename_i h5
    exact leafS hK (by rw [if_neg (by rw [opsV_no h5 h]; simp)])
  · have h9 := h
    exact ⟨i + 1, [], [], ⟨by omega, fun j hj2 => by rcases Nat.lt_succ_iff_lt_or_eq.1 hj2 with h | h; exact hj j h; rw [h]; exact h9⟩, by omega, by iterate 2 ((all_goals (conv=>whnf));(repeat' (first|exact trivial|rfl|(refine nilEq ?_;first|rfl|(simp only [*];done)|(simp [*];done)|grind)|apply And.intro|((first|apply intEq|apply boolEq|apply strEq|apply psEq|apply nilEq|apply arrEq);(try simp only [Int.toNat_natCast,etas,elDef]);first | done | omega | grind | (simp only [*]; done) | (simp [*]; done)))));(all_goals ((try simp only [Int.toNat_natCast,etas,elDef]);first | done | omega | grind | (simp only [*]; done) | (simp [*]; done))), (by exact sgOk_of (by rfl))⟩
  · have hov : opsV q.ops = true := opsV_yes fun j hj2 => hj j (by omega)
    refine Obl.mk (by unfold o15; simp only [nd_eta]; exact ⟨h0.1.1, hov⟩) ?_
    conv => whnf
    repeat' first|((first|refine Cnd.mk (fun h=>?_) (fun h=>?_)|refine Gd.mk (fun h=>?_))<;>(try simp [etas,elDef,-List.getD_eq_getElem?_getD] at h)<;>conv=>whnf)|((first|refine Obl.mk (by first|omega|rfl|exact inK_byte _|(simp only [inK,Int.toNat_natCast,etas,elDef,o15]<;>first|omega|grind)|grind [inK,o15]) ?_|refine OblG.mk (by ((conv=>whnf);(repeat (first|refine Bx.mk ?_|(intro h;(try simp [etas,elDef,-List.getD_eq_getElem?_getD] at h);conv=>whnf)));(first|omega|rfl|exact inK_byte _|(simp only [inK,Int.toNat_natCast,etas,elDef,o15]<;>first|omega|grind)|grind [inK,o15]))) ?_|refine And.intro ?_ ?_)<;>conv=>whnf)|exact True.intro|(intro;conv=>whnf)
    exact leafS hK (by simp only [nd_eta]; rw [if_pos hov])
theorem s5 : (CtrOK Tryd.prog 5 (.pure F5) ∧ Callable Tryd.prog 5) := by
  refine pure_ok (E := E5) (mkE_cons s12 (mkE_cons s13 (mkE_cons s14 (mkE_cons s15 (mkE_nil tab_ok))))) mix (O := O5) (F := F5) Tryd.func5 rfl (by rfl) (by kernel_rfl) (fun args o v h => ?_) (fun args o v h => ?_) (fun args o v h hbd hp K hK => ?_)
  · unfold F5 at h; split at h <;> cases h; first | trivial | (simp [v5, Scalar, Scalar2, Scalar1, stC, ndC, itC, chC, nwC])
  · unfold F5 at h; split at h <;> cases h; exact Nat.le_of_ble_eq_true rfl
  · unfold F5 at h; split at h
    case h_2 => cases h
    cases h
    exact a5 ⟨_, _, _, _, ⟨_, _, _, _, _⟩, _⟩ (by exact hbd) trivial K hK
end Go.Rs

