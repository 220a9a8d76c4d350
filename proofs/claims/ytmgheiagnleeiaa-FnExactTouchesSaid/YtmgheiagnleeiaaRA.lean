import Derived.Test.YtmgheiagnleeiaaQT
import Derived.Test.YtmgheiagnleeiaaEE
import Derived.Test.YtmgheiagnleeiaaCC
import Derived.Test.YtmgheiagnleeiaaCB
import Derived.Test.YtmgheiagnleeiaaMJ
set_option linter.all false
set_option linter.unusedSimpArgs false
set_option linter.unusedVariables false
namespace Go.Rs
open Go.Proofs
set_option maxRecDepth 100000
set_option maxHeartbeats 4000000
def opsM (l : List Opn) : Bool := decide (l.length ≤ 12) && l.all opOk
def reqM (x : Req) : Bool := decide (1 ≤ x.method) && decide (x.method ≤ 5) && nameM x.name && areTagsM x.want && areTagsM x.avoid && validM x.body && opsM x.ops
def reqsM (l : List Req) : Bool := decide (l.length ≤ 8) && l.all reqM
def touchM (l : List Req) : List Bs := if reqsM l then tU l else []
theorem touch_len (l : List Req) : (touchM l).length ≤ 8 := by
  unfold touchM
  split
  · rename_i h
    unfold reqsM at h
    rw [Bool.and_eq_true, decide_eq_true_eq] at h
    have := tU_len l
    omega
  · simp
noncomputable def v63 (b : Bs) : AV := .bool (isSumM b)
noncomputable def o63 (b : Bs) : Prop := True
noncomputable def F63 : List AV → QR
  | [.str b] => some (none, v63 b)
  | _ => none
noncomputable def E63 : Ctx := mkE tab [(39, .pure F39)]
noncomputable def O63 : Nat → List DI := ordL []
theorem a63 (b : Bs) (hb : BdAs [.str b]) (ho : o63 b) (K : AV → List AV → Prop) (hK : K (v63 b) []) : abody E63 O63 .ps Try.f63 (Try.f63.body.getD .skip) [.str b] K := by
  simp only [BdAs, BdA, BdL, BdC, MX, ndC, shC, itC, stC, opC, chC, nwC, flC, rqC, rsC, enc, List.cons_append, List.nil_append, and_true, true_and] at hb
  unfold v63 at hK
  conv => whnf
  refine aloop_intro Nat (fun k => k ≤ b.length ∧ ∀ j, j < k → isHex (b.getD j 0) = true) (fun k => b.length - k) (fun k => [(3, .int .i64 k)]) (fun k => []) [] 0 [] [] ?_ ?_ (by exact sgOk_of (by rfl)) ?_
  · first | (simp; done) | (simp; assumption)
  · iterate 2 ((all_goals (conv=>whnf));(repeat' (first|exact trivial|rfl|(refine nilEq ?_;first|rfl|(simp only [*];done)|(simp [*];done)|grind)|apply And.intro|((first|apply intEq|apply boolEq|apply strEq|apply psEq|apply nilEq|apply arrEq);(try simp only [Int.toNat_natCast,etas,elDef]);first | done | omega | grind | (simp only [*]; done) | (simp [*]; done)))));(all_goals ((try simp only [Int.toNat_natCast,etas,elDef]);first | done | omega | grind | (simp only [*]; done) | (simp [*]; done)))
  rintro i ⟨hi, hj⟩
  conv => whnf
  have hx := isHex_iff (b.getD i 0)
  repeat' first|((first|refine Cnd.mk (fun h=>?_) (fun h=>?_)|refine Gd.mk (fun h=>?_))<;>(try simp [etas,elDef,-List.getD_eq_getElem?_getD] at h)<;>conv=>whnf)|((first|refine Obl.mk (by first|omega|rfl|exact inK_byte _|(simp only [inK,Int.toNat_natCast,etas,elDef]<;>first|omega|grind)|grind [inK]) ?_|refine OblG.mk (by ((conv=>whnf);(repeat (first|refine Bx.mk ?_|(intro h;(try simp [etas,elDef,-List.getD_eq_getElem?_getD] at h);conv=>whnf)));(first|omega|rfl|exact inK_byte _|(simp only [inK,Int.toNat_natCast,etas,elDef]<;>first|omega|grind)|grind [inK]))) ?_|refine And.intro ?_ ?_)<;>conv=>whnf)|exact True.intro|(intro;conv=>whnf)
  · have : isHex (b.getD i 0) = false := by grind
    exact leafB hK (by grind [isSumM, all_no])
  · have : isHex (b.getD i 0) = true := by grind
    exact ⟨i + 1, [], [], ⟨by omega, by grind⟩, by omega, by iterate 2 ((all_goals (conv=>whnf));(repeat' (first|exact trivial|rfl|(refine nilEq ?_;first|rfl|(simp only [*];done)|(simp [*];done)|grind)|apply And.intro|((first|apply intEq|apply boolEq|apply strEq|apply psEq|apply nilEq|apply arrEq);(try simp only [Int.toNat_natCast,etas,elDef]);first | done | omega | grind | (simp only [*]; done) | (simp [*]; done)))));(all_goals ((try simp only [Int.toNat_natCast,etas,elDef]);first | done | omega | grind | (simp only [*]; done) | (simp [*]; done))), (by exact sgOk_of (by rfl))⟩
  · have : b.all isHex = true := (all_iff b _).2 (by grind)
    exact leafB hK (by grind [isSumM])
theorem s63 : (CtrOK Try.prog 63 (.pure F63) ∧ Callable Try.prog 63) := by
  refine pure_ok (E := E63) (mkE_cons s39 (mkE_nil tab_ok)) mix (O := O63) (F := F63) Try.func63 rfl (by rfl) (by kernel_rfl) (fun args o v h => ?_) (fun args o v h => ?_) (fun args o v h hbd hp K hK => ?_)
  · unfold F63 at h; split at h <;> cases h; first | trivial | (simp [v63, Scalar, Scalar2, Scalar1, stC, ndC, itC, chC, nwC])
  · unfold F63 at h; split at h <;> cases h; exact Nat.le_of_ble_eq_true rfl
  · unfold F63 at h; split at h
    case h_2 => cases h
    cases h
    exact a63 _ (by exact hbd) trivial K hK
noncomputable def v41 (l : List Bs) : AV := .bool (areTagsM l)
noncomputable def o41 (l : List Bs) : Prop := True
noncomputable def F41 : List AV → QR
  | [.ps .str l] => some (none, v41 l)
  | _ => none
noncomputable def E41 : Ctx := mkE tab [(63, .pure F63)]
noncomputable def O41 : Nat → List DI := ordL []
theorem a41 (l : List Bs) (hb : BdAs [.ps .str l]) (ho : o41 l) (K : AV → List AV → Prop) (hK : K (v41 l) []) : abody E41 O41 .ps Try.f41 (Try.f41.body.getD .skip) [.ps .str l] K := by
  simp only [BdAs, BdA, BdL, BdC, MX, ndC, shC, itC, stC, opC, chC, nwC, flC, rqC, rsC, enc, List.cons_append, List.nil_append, and_true, true_and] at hb
  unfold v41 at hK
  conv => whnf
  refine aloop_intro Nat (fun k => k ≤ l.length ∧ ∀ j, j < k → tagOk (l.getD j []) = true) (fun k => l.length - k) (fun k => [(3, .int .i64 k)]) (fun k => []) [] 0 [] [] ?_ ?_ (by exact sgOk_of (by rfl)) ?_
  · first | (simp; done) | (simp; assumption)
  · iterate 2 ((all_goals (conv=>whnf));(repeat' (first|exact trivial|rfl|(refine nilEq ?_;first|rfl|(simp only [*];done)|(simp [*];done)|grind)|apply And.intro|((first|apply intEq|apply boolEq|apply strEq|apply psEq|apply nilEq|apply arrEq);(try simp only [Int.toNat_natCast,etas,elDef]);first | done | omega | grind | (simp only [*]; done) | (simp [*]; done)))));(all_goals ((try simp only [Int.toNat_natCast,etas,elDef]);first | done | omega | grind | (simp only [*]; done) | (simp [*]; done)))
  rintro i ⟨hi, hj⟩
  conv => whnf
  repeat' first|((first|refine Cnd.mk (fun h=>?_) (fun h=>?_)|refine Gd.mk (fun h=>?_))<;>(try simp [etas,elDef,-List.getD_eq_getElem?_getD] at h)<;>conv=>whnf)|((first|refine Obl.mk (by first|omega|rfl|exact inK_byte _|(simp only [inK,Int.toNat_natCast,etas,elDef]<;>first|omega|grind)|grind [inK]) ?_|refine OblG.mk (by ((conv=>whnf);(repeat (first|refine Bx.mk ?_|(intro h;(try simp [etas,elDef,-List.getD_eq_getElem?_getD] at h);conv=>whnf)));(first|omega|rfl|exact inK_byte _|(simp only [inK,Int.toNat_natCast,etas,elDef]<;>first|omega|grind)|grind [inK]))) ?_|refine And.intro ?_ ?_)<;>conv=>whnf)|exact True.intro|(intro;conv=>whnf)
  · have : tagOk (l.getD i []) = false := by grind [tagOk]
    exact leafB hK (by grind [areTagsM, all_noD])
  · have : tagOk (l.getD i []) = true := by grind [tagOk]
    exact ⟨i + 1, [], [], ⟨by omega, by grind⟩, by omega, by iterate 2 ((all_goals (conv=>whnf));(repeat' (first|exact trivial|rfl|(refine nilEq ?_;first|rfl|(simp only [*];done)|(simp [*];done)|grind)|apply And.intro|((first|apply intEq|apply boolEq|apply strEq|apply psEq|apply nilEq|apply arrEq);(try simp only [Int.toNat_natCast,etas,elDef]);first | done | omega | grind | (simp only [*]; done) | (simp [*]; done)))));(all_goals ((try simp only [Int.toNat_natCast,etas,elDef]);first | done | omega | grind | (simp only [*]; done) | (simp [*]; done))), (by exact sgOk_of (by rfl))⟩
  · have : l.all tagOk = true := (all_listD l [] _).2 (by grind)
    exact leafB hK (by grind [areTagsM])
theorem s41 : (CtrOK Try.prog 41 (.pure F41) ∧ Callable Try.prog 41) := by
  refine pure_ok (E := E41) (mkE_cons s63 (mkE_nil tab_ok)) mix (O := O41) (F := F41) Try.func41 rfl (by rfl) (by kernel_rfl) (fun args o v h => ?_) (fun args o v h => ?_) (fun args o v h hbd hp K hK => ?_)
  · unfold F41 at h; split at h <;> cases h; first | trivial | (simp [v41, Scalar, Scalar2, Scalar1, stC, ndC, itC, chC, nwC])
  · unfold F41 at h; split at h <;> cases h; exact Nat.le_of_ble_eq_true rfl
  · unfold F41 at h; split at h
    case h_2 => cases h
    cases h
    exact a41 _ (by exact hbd) trivial K hK
noncomputable def v49 (l : List Opn) : AV := .bool (opsM l)
noncomputable def o49 (l : List Opn) : Prop := True
noncomputable def F49 : List AV → QR
  | [.ps .opn l] => some (none, v49 l)
  | _ => none
noncomputable def E49 : Ctx := mkE tab [(69, .pure F69)]
noncomputable def O49 : Nat → List DI := ordL []
theorem a49 (l : List Opn) (hb : BdAs [.ps .opn l]) (ho : o49 l) (K : AV → List AV → Prop) (hK : K (v49 l) []) : abody E49 O49 .ps Try.f49 (Try.f49.body.getD .skip) [.ps .opn l] K := by
  simp only [BdAs, BdA, BdL, BdC, MX, ndC, shC, itC, stC, opC, chC, nwC, flC, rqC, rsC, enc, List.cons_append, List.nil_append, and_true, true_and] at hb
  unfold v49 at hK
  conv => whnf
  repeat' first|((first|refine Cnd.mk (fun h=>?_) (fun h=>?_)|refine Gd.mk (fun h=>?_))<;>(try simp [etas,elDef,-List.getD_eq_getElem?_getD] at h)<;>conv=>whnf)|((first|refine Obl.mk (by first|omega|rfl|exact inK_byte _|(simp only [inK,Int.toNat_natCast,etas,elDef]<;>first|omega|grind)|grind [inK]) ?_|refine OblG.mk (by ((conv=>whnf);(repeat (first|refine Bx.mk ?_|(intro h;(try simp [etas,elDef,-List.getD_eq_getElem?_getD] at h);conv=>whnf)));(first|omega|rfl|exact inK_byte _|(simp only [inK,Int.toNat_natCast,etas,elDef]<;>first|omega|grind)|grind [inK]))) ?_|refine And.intro ?_ ?_)<;>conv=>whnf)|exact True.intro|(intro;conv=>whnf)
  · exact leafB hK (by unfold opsM; grind)
  refine aloop_intro Nat (fun k => k ≤ l.length ∧ ∀ j, j < k → opOk (l.getD j default) = true) (fun k => l.length - k) (fun k => [(10, .int .i64 k)]) (fun k => []) [] 0 [] [] ?_ ?_ (by exact sgOk_of (by rfl)) ?_
  · first | (simp; done) | (simp; assumption)
  · iterate 2 ((all_goals (conv=>whnf));(repeat' (first|exact trivial|rfl|(refine nilEq ?_;first|rfl|(simp only [*];done)|(simp [*];done)|grind)|apply And.intro|((first|apply intEq|apply boolEq|apply strEq|apply psEq|apply nilEq|apply arrEq);(try simp only [Int.toNat_natCast,etas,elDef]);first | done | omega | grind | (simp only [*]; done) | (simp [*]; done)))));(all_goals ((try simp only [Int.toNat_natCast,etas,elDef]);first | done | omega | grind | (simp only [*]; done) | (simp [*]; done)))
  rintro i ⟨hi, hj⟩
  conv => whnf
  repeat' first|((first|refine Cnd.mk (fun h=>?_) (fun h=>?_)|refine Gd.mk (fun h=>?_))<;>(try simp [etas,elDef,-List.getD_eq_getElem?_getD] at h)<;>conv=>whnf)|((first|refine Obl.mk (by first|omega|rfl|exact inK_byte _|(simp only [inK,Int.toNat_natCast,etas,elDef]<;>first|omega|grind)|grind [inK]) ?_|refine OblG.mk (by ((conv=>whnf);(repeat (first|refine Bx.mk ?_|(intro h;(try simp [etas,elDef,-List.getD_eq_getElem?_getD] at h);conv=>whnf)));(first|omega|rfl|exact inK_byte _|(simp only [inK,Int.toNat_natCast,etas,elDef]<;>first|omega|grind)|grind [inK]))) ?_|refine And.intro ?_ ?_)<;>conv=>whnf)|exact True.intro|(intro;conv=>whnf)
  · exact leafB hK (by grind [opsM, all_noD])
  · exact ⟨i + 1, [], [], ⟨by omega, by grind⟩, by omega, by iterate 2 ((all_goals (conv=>whnf));(repeat' (first|exact trivial|rfl|(refine nilEq ?_;first|rfl|(simp only [*];done)|(simp [*];done)|grind)|apply And.intro|((first|apply intEq|apply boolEq|apply strEq|apply psEq|apply nilEq|apply arrEq);(try simp only [Int.toNat_natCast,etas,elDef]);first | done | omega | grind | (simp only [*]; done) | (simp [*]; done)))));(all_goals ((try simp only [Int.toNat_natCast,etas,elDef]);first | done | omega | grind | (simp only [*]; done) | (simp [*]; done))), (by exact sgOk_of (by rfl))⟩
  · have : l.all opOk = true := (all_listD l default _).2 (by grind)
    exact leafB hK (by grind [opsM])
theorem s49 : (CtrOK Try.prog 49 (.pure F49) ∧ Callable Try.prog 49) := by
  refine pure_ok (E := E49) (mkE_cons s69 (mkE_nil tab_ok)) mix (O := O49) (F := F49) Try.func49 rfl (by rfl) (by kernel_rfl) (fun args o v h => ?_) (fun args o v h => ?_) (fun args o v h hbd hp K hK => ?_)
  · unfold F49 at h; split at h <;> cases h; first | trivial | (simp [v49, Scalar, Scalar2, Scalar1, stC, ndC, itC, chC, nwC])
  · unfold F49 at h; split at h <;> cases h; exact Nat.le_of_ble_eq_true rfl
  · unfold F49 at h; split at h
    case h_2 => cases h
    cases h
    exact a49 _ (by exact hbd) trivial K hK
noncomputable def v43 (l : List Opn) : AV := .bool (opsM l)
noncomputable def o43 (l : List Opn) : Prop := True
noncomputable def F43 : List AV → QR
  | [.ps .opn l] => some (none, v43 l)
  | _ => none
noncomputable def E43 : Ctx := mkE tab [(66, .pure F66)]
noncomputable def O43 : Nat → List DI := ordL []
theorem a43 (l : List Opn) (hb : BdAs [.ps .opn l]) (ho : o43 l) (K : AV → List AV → Prop) (hK : K (v43 l) []) : abody E43 O43 .ps Try.f43 (Try.f43.body.getD .skip) [.ps .opn l] K := by
  simp only [BdAs, BdA, BdL, BdC, MX, ndC, shC, itC, stC, opC, chC, nwC, flC, rqC, rsC, enc, List.cons_append, List.nil_append, and_true, true_and] at hb
  unfold v43 at hK
  conv => whnf
  refine aloop_intro Nat (fun k => k ≤ l.length ∧ ∀ j, j < k → opOk (l.getD j default) = true) (fun k => l.length - k) (fun k => [(3, .int .i64 k)]) (fun k => []) [] 0 [] [] ?_ ?_ (by exact sgOk_of (by rfl)) ?_
  · first | (simp; done) | (simp; assumption)
  · iterate 2 ((all_goals (conv=>whnf));(repeat' (first|exact trivial|rfl|(refine nilEq ?_;first|rfl|(simp only [*];done)|(simp [*];done)|grind)|apply And.intro|((first|apply intEq|apply boolEq|apply strEq|apply psEq|apply nilEq|apply arrEq);(try simp only [Int.toNat_natCast,etas,elDef]);first | done | omega | grind | (simp only [*]; done) | (simp [*]; done)))));(all_goals ((try simp only [Int.toNat_natCast,etas,elDef]);first | done | omega | grind | (simp only [*]; done) | (simp [*]; done)))
  rintro i ⟨hi, hj⟩
  conv => whnf
  repeat' first|((first|refine Cnd.mk (fun h=>?_) (fun h=>?_)|refine Gd.mk (fun h=>?_))<;>(try simp [etas,elDef,-List.getD_eq_getElem?_getD] at h)<;>conv=>whnf)|((first|refine Obl.mk (by first|omega|rfl|exact inK_byte _|(simp only [inK,Int.toNat_natCast,etas,elDef]<;>first|omega|grind)|grind [inK]) ?_|refine OblG.mk (by ((conv=>whnf);(repeat (first|refine Bx.mk ?_|(intro h;(try simp [etas,elDef,-List.getD_eq_getElem?_getD] at h);conv=>whnf)));(first|omega|rfl|exact inK_byte _|(simp only [inK,Int.toNat_natCast,etas,elDef]<;>first|omega|grind)|grind [inK]))) ?_|refine And.intro ?_ ?_)<;>conv=>whnf)|exact True.intro|(intro;conv=>whnf)
  · exact leafB hK (by grind [opsM, all_noD])
  · exact ⟨i + 1, [], [], ⟨by omega, by grind⟩, by omega, by iterate 2 ((all_goals (conv=>whnf));(repeat' (first|exact trivial|rfl|(refine nilEq ?_;first|rfl|(simp only [*];done)|(simp [*];done)|grind)|apply And.intro|((first|apply intEq|apply boolEq|apply strEq|apply psEq|apply nilEq|apply arrEq);(try simp only [Int.toNat_natCast,etas,elDef]);first | done | omega | grind | (simp only [*]; done) | (simp [*]; done)))));(all_goals ((try simp only [Int.toNat_natCast,etas,elDef]);first | done | omega | grind | (simp only [*]; done) | (simp [*]; done))), (by exact sgOk_of (by rfl))⟩
  · have : l.all opOk = true := (all_listD l default _).2 (by grind)
    exact leafB hK (by grind [opsM])
theorem s43 : (CtrOK Try.prog 43 (.pure F43) ∧ Callable Try.prog 43) := by
  refine pure_ok (E := E43) (mkE_cons s66 (mkE_nil tab_ok)) mix (O := O43) (F := F43) Try.func43 rfl (by rfl) (by kernel_rfl) (fun args o v h => ?_) (fun args o v h => ?_) (fun args o v h hbd hp K hK => ?_)
  · unfold F43 at h; split at h <;> cases h; first | trivial | (simp [v43, Scalar, Scalar2, Scalar1, stC, ndC, itC, chC, nwC])
  · unfold F43 at h; split at h <;> cases h; exact Nat.le_of_ble_eq_true rfl
  · unfold F43 at h; split at h
    case h_2 => cases h
    cases h
    exact a43 _ (by exact hbd) trivial K hK
noncomputable def v32 (x : Req) : AV := .bool (reqM x)
noncomputable def o32 (x : Req) : Prop := True
noncomputable def F32 : List AV → QR
  | [.st [.int .i64 x_0, .str x_1, .ps .str x_2, .ps .str x_3, .int .i64 x_4_0, .int .i64 x_4_1, .str x_4_2, .ps .str x_4_3, .ps .node x_4_4, .ps .opn x_5]] => some (none, v32 ⟨x_0, x_1, x_2, x_3, ⟨x_4_0, x_4_1, x_4_2, x_4_3, x_4_4⟩, x_5⟩)
  | _ => none
noncomputable def E32 : Ctx := mkE tab [(46, .pure F46), (47, .pure F47), (48, .pure F48), (49, .pure F49)]
noncomputable def O32 : Nat → List DI := ordL []
theorem a32 (x : Req) (hb : BdAs [.st (rqC x)]) (ho : o32 x) (K : AV → List AV → Prop) (hK : K (v32 x) []) : abody E32 O32 .ps Try.f32 (Try.f32.body.getD .skip) [.st (rqC x)] K := by
  simp only [BdAs, BdA, BdL, BdC, MX, ndC, shC, itC, stC, opC, chC, nwC, flC, rqC, rsC, enc, List.cons_append, List.nil_append, and_true, true_and] at hb
  unfold v32 at hK
  conv => whnf
  repeat' first|((first|refine Cnd.mk (fun h=>?_) (fun h=>?_)|refine Gd.mk (fun h=>?_))<;>(try simp [etas,elDef,-List.getD_eq_getElem?_getD] at h)<;>conv=>whnf)|((first|refine Obl.mk (by first|omega|rfl|exact inK_byte _|(simp only [inK,Int.toNat_natCast,etas,elDef]<;>first|omega|grind)|grind [inK]) ?_|refine OblG.mk (by ((conv=>whnf);(repeat (first|refine Bx.mk ?_|(intro h;(try simp [etas,elDef,-List.getD_eq_getElem?_getD] at h);conv=>whnf)));(first|omega|rfl|exact inK_byte _|(simp only [inK,Int.toNat_natCast,etas,elDef]<;>first|omega|grind)|grind [inK]))) ?_|refine And.intro ?_ ?_)<;>conv=>whnf)|exact True.intro|(intro;conv=>whnf)
  exact leafB hK (by simp only [etas]; rfl)
theorem s32 : (CtrOK Try.prog 32 (.pure F32) ∧ Callable Try.prog 32) := by
  refine pure_ok (E := E32) (mkE_cons s46 (mkE_cons s47 (mkE_cons s48 (mkE_cons s49 (mkE_nil tab_ok))))) mix (O := O32) (F := F32) Try.func32 rfl (by rfl) (by kernel_rfl) (fun args o v h => ?_) (fun args o v h => ?_) (fun args o v h hbd hp K hK => ?_)
  · unfold F32 at h; split at h <;> cases h; first | trivial | (simp [v32, Scalar, Scalar2, Scalar1, stC, ndC, itC, chC, nwC])
  · unfold F32 at h; split at h <;> cases h; exact Nat.le_of_ble_eq_true rfl
  · unfold F32 at h; split at h
    case h_2 => cases h
    cases h
    exact a32 ⟨_, _, _, _, ⟨_, _, _, _, _⟩, _⟩ (by exact hbd) trivial K hK
noncomputable def v28 (x : Req) : AV := .bool (reqM x)
noncomputable def o28 (x : Req) : Prop := True
noncomputable def F28 : List AV → QR
  | [.st [.int .i64 x_0, .str x_1, .ps .str x_2, .ps .str x_3, .int .i64 x_4_0, .int .i64 x_4_1, .str x_4_2, .ps .str x_4_3, .ps .node x_4_4, .ps .opn x_5]] => some (none, v28 ⟨x_0, x_1, x_2, x_3, ⟨x_4_0, x_4_1, x_4_2, x_4_3, x_4_4⟩, x_5⟩)
  | _ => none
noncomputable def E28 : Ctx := mkE tab [(39, .pure F39), (40, .pure F40), (41, .pure F41), (42, .pure F42), (43, .pure F43)]
noncomputable def O28 : Nat → List DI := ordL []
theorem a28 (x : Req) (hb : BdAs [.st (rqC x)]) (ho : o28 x) (K : AV → List AV → Prop) (hK : K (v28 x) []) : abody E28 O28 .ps Try.f28 (Try.f28.body.getD .skip) [.st (rqC x)] K := by
  simp only [BdAs, BdA, BdL, BdC, MX, ndC, shC, itC, stC, opC, chC, nwC, flC, rqC, rsC, enc, List.cons_append, List.nil_append, and_true, true_and] at hb
  unfold v28 at hK
  conv => whnf
  repeat' first|((first|refine Cnd.mk (fun h=>?_) (fun h=>?_)|refine Gd.mk (fun h=>?_))<;>(try simp [etas,elDef,-List.getD_eq_getElem?_getD] at h)<;>conv=>whnf)|((first|refine Obl.mk (by first|omega|rfl|exact inK_byte _|(simp only [inK,Int.toNat_natCast,etas,elDef]<;>first|omega|grind)|grind [inK]) ?_|refine OblG.mk (by ((conv=>whnf);(repeat (first|refine Bx.mk ?_|(intro h;(try simp [etas,elDef,-List.getD_eq_getElem?_getD] at h);conv=>whnf)));(first|omega|rfl|exact inK_byte _|(simp only [inK,Int.toNat_natCast,etas,elDef]<;>first|omega|grind)|grind [inK]))) ?_|refine And.intro ?_ ?_)<;>conv=>whnf)|exact True.intro|(intro;conv=>whnf)
  exact leafB hK (by simp only [etas]; rfl)
theorem s28 : (CtrOK Try.prog 28 (.pure F28) ∧ Callable Try.prog 28) := by
  refine pure_ok (E := E28) (mkE_cons s39 (mkE_cons s40 (mkE_cons s41 (mkE_cons s42 (mkE_cons s43 (mkE_nil tab_ok)))))) mix (O := O28) (F := F28) Try.func28 rfl (by rfl) (by kernel_rfl) (fun args o v h => ?_) (fun args o v h => ?_) (fun args o v h hbd hp K hK => ?_)
  · unfold F28 at h; split at h <;> cases h; first | trivial | (simp [v28, Scalar, Scalar2, Scalar1, stC, ndC, itC, chC, nwC])
  · unfold F28 at h; split at h <;> cases h; exact Nat.le_of_ble_eq_true rfl
  · unfold F28 at h; split at h
    case h_2 => cases h
    cases h
    exact a28 ⟨_, _, _, _, ⟨_, _, _, _, _⟩, _⟩ (by exact hbd) trivial K hK
end Go.Rs

