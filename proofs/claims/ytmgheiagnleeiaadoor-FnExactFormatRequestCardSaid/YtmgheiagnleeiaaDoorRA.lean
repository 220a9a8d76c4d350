import Derived.Test.YtmgheiagnleeiaaDoorQT
import Derived.Test.YtmgheiagnleeiaaDoorEE
import Derived.Test.YtmgheiagnleeiaaDoorCC
import Derived.Test.YtmgheiagnleeiaaDoorCB
import Derived.Test.YtmgheiagnleeiaaDoorMJ
set_option linter.all false
set_option linter.unusedSimpArgs false
set_option linter.unusedVariables false
namespace Go.Rs
open Go.Proofs
set_option maxRecDepth 100000
set_option maxHeartbeats 4000000
def opsM (l : List Opn) : Bool := decide (l.length ≤ 12) && l.all opOk
def reqM (x : Req) : Bool := decide (1 ≤ x.method) && decide (x.method ≤ 5) && nameM x.name && areTagsM x.want && areTagsM x.avoid && validM x.body && opsM x.ops
noncomputable def v58 (b : Bs) : AV := .bool (isSumM b)
noncomputable def o58 (b : Bs) : Prop := True
noncomputable def F58 : List AV → QR
  | [.str b] => some (none, v58 b)
  | _ => none
noncomputable def E58 : Ctx := mkE tab [(30, .pure F30)]
noncomputable def O58 : Nat → List DI := ordL []
theorem a58 (b : Bs) (hb : BdAs [.str b]) (ho : o58 b) (K : AV → List AV → Prop) (hK : K (v58 b) []) : abody E58 O58 .ps Tryd.f58 (Tryd.f58.body.getD .skip) [.str b] K := by
  simp only [BdAs, BdA, BdL, BdC, MX, ndC, shC, itC, stC, opC, chC, nwC, flC, rqC, rsC, enc, List.cons_append, List.nil_append, and_true, true_and] at hb
  unfold v58 at hK
  conv => whnf
  refine aloop_intro Nat (fun k => k ≤ b.length ∧ ∀ j, j < k → isHex (b.getD j 0) = true) (fun k => b.length - k) (fun k => [(3, .int .i64 k)]) (fun k => []) [] 0 [] [] ?_ ?_ (by exact sgOk_of (by rfl)) ?_
  · first | (simp; done) | (simp; assumption)
  · iterate 2 ((all_goals (conv=>whnf));(repeat' (first|exact trivial|rfl|(refine nilEq ?_;first|rfl|(simp only [*];done)|(simp [*];done)|grind)|apply And.intro|((first|apply intEq|apply boolEq|apply strEq|apply psEq|apply nilEq|apply arrEq);(try simp only [Int.toNat_natCast,etas,elDef]);first | done | omega | grind | (simp only [*]; done) | (simp [*]; done)))));(all_goals ((try simp only [Int.toNat_natCast,etas,elDef]);first | done | omega | grind | (simp only [*]; done) | (simp [*]; done)))
  rintro i ⟨hi, hj⟩
  conv => whnf
  have hx := isHex_iff (b.getD i 0)
  repeat' first|((first|refine Cnd.mk (fun h=>?_) (fun h=>?_)|refine Gd.mk (fun h=>?_))<;>(try simp [etas,elDef,-List.getD_eq_getElem?_getD] at h)<;>conv=>whnf)|((first|refine Obl.mk (by first|omega|rfl|exact inK_byte _|(simp only [inK,Int.toNat_natCast,etas,elDef]<;>first|omega|grind)|grind [inK]) ?_|refine OblG.mk (by ((conv=>whnf);(repeat (first|refine Bx.mk ?_|(intro h;(try simp [etas,elDef,-List.getD_eq_getElem?_getD] at h);conv=>whnf)));(first|omega|rfl|exact inK_byte _|(simp only [inK,Int.toNat_natCast,etas,elDef]<;>first|omega|grind)|grind [inK]))) ?_|refine And.intro ?_ ?_)<;>conv=>whnf)|exact True.intro|(intro;conv=>whnf)
  · have : isHex (b.getD i 0) = false := by grind
    exact leafB hK (by grind [isSumM, all_no])
  · have : isHex (b.getD i 0) = true := by grind
    exact ⟨i + 1, [], [], ⟨by omega, by grind⟩, by omega, by iterate 2 ((all_goals (conv=>whnf));(repeat' (first|exact trivial|rfl|(refine nilEq ?_;first|rfl|(simp only [*];done)|(simp [*];done)|grind)|apply And.intro|((first|apply intEq|apply boolEq|apply strEq|apply psEq|apply nilEq|apply arrEq);(try simp only [Int.toNat_natCast,etas,elDef]);first | done | omega | grind | (simp only [*]; done) | (simp [*]; done)))));(all_goals ((try simp only [Int.toNat_natCast,etas,elDef]);first | done | omega | grind | (simp only [*]; done) | (simp [*]; done))), (by exact sgOk_of (by rfl))⟩
  · have : b.all isHex = true := (all_iff b _).2 (by grind)
    exact leafB hK (by grind [isSumM])
theorem s58 : (CtrOK Tryd.prog 58 (.pure F58) ∧ Callable Tryd.prog 58) := by
  refine pure_ok (E := E58) (mkE_cons s30 (mkE_nil tab_ok)) mix (O := O58) (F := F58) Tryd.func58 rfl (by rfl) (by kernel_rfl) (fun args o v h => ?_) (fun args o v h => ?_) (fun args o v h hbd hp K hK => ?_)
  · unfold F58 at h; split at h <;> cases h; first | trivial | (simp [v58, Scalar, Scalar2, Scalar1, stC, ndC, itC, chC, nwC])
  · unfold F58 at h; split at h <;> cases h; exact Nat.le_of_ble_eq_true rfl
  · unfold F58 at h; split at h
    case h_2 => cases h
    cases h
    exact a58 _ (by exact hbd) trivial K hK
noncomputable def v32 (l : List Bs) : AV := .bool (areTagsM l)
noncomputable def o32 (l : List Bs) : Prop := True
noncomputable def F32 : List AV → QR
  | [.ps .str l] => some (none, v32 l)
  | _ => none
noncomputable def E32 : Ctx := mkE tab [(58, .pure F58)]
noncomputable def O32 : Nat → List DI := ordL []
theorem a32 (l : List Bs) (hb : BdAs [.ps .str l]) (ho : o32 l) (K : AV → List AV → Prop) (hK : K (v32 l) []) : abody E32 O32 .ps Tryd.f32 (Tryd.f32.body.getD .skip) [.ps .str l] K := by
  simp only [BdAs, BdA, BdL, BdC, MX, ndC, shC, itC, stC, opC, chC, nwC, flC, rqC, rsC, enc, List.cons_append, List.nil_append, and_true, true_and] at hb
  unfold v32 at hK
  conv => whnf
  refine aloop_intro Nat (fun k => k ≤ l.length ∧ ∀ j, j < k → tagOk (l.getD j []) = true) (fun k => l.length - k) (fun k => [(3, .int .i64 k)]) (fun k => []) [] 0 [] [] ?_ ?_ (by exact sgOk_of (by rfl)) ?_
  · first | (simp; done) | (simp; assumption)
  · iterate 2 ((all_goals (conv=>whnf));(repeat' (first|exact trivial|rfl|(refine nilEq ?_;first|rfl|(simp only [*];done)|(simp [*];done)|grind)|apply And.intro|((first|apply intEq|apply boolEq|apply strEq|apply psEq|apply nilEq|apply arrEq);(try simp only [Int.toNat_natCast,etas,elDef]);first | done | omega | grind | (simp only [*]; done) | (simp [*]; done)))));(all_goals ((try simp only [Int.toNat_natCast,etas,elDef]);first | done | omega | grind | (simp only [*]; done) | (simp [*]; done)))
  rintro i ⟨hi, hj⟩
  conv => whnf
  repeat' first|((first|refine Cnd.mk (fun h=>?_) (fun h=>?_)|refine Gd.mk (fun h=>?_))<;>(try simp [etas,elDef,-List.getD_eq_getElem?_getD] at h)<;>conv=>whnf)|((first|refine Obl.mk (by first|omega|rfl|exact inK_byte _|(simp only [inK,Int.toNat_natCast,etas,elDef]<;>first|omega|grind)|grind [inK]) ?_|refine OblG.mk (by ((conv=>whnf);(repeat (first|refine Bx.mk ?_|(intro h;(try simp [etas,elDef,-List.getD_eq_getElem?_getD] at h);conv=>whnf)));(first|omega|rfl|exact inK_byte _|(simp only [inK,Int.toNat_natCast,etas,elDef]<;>first|omega|grind)|grind [inK]))) ?_|refine And.intro ?_ ?_)<;>conv=>whnf)|exact True.intro|(intro;conv=>whnf)
  · have : tagOk (l.getD i []) = false := by grind [tagOk]
    exact leafB hK (by grind [areTagsM, all_noD])
  · have : tagOk (l.getD i []) = true := by grind [tagOk]
    exact ⟨i + 1, [], [], ⟨by omega, by grind⟩, by omega, by iterate 2 ((all_goals (conv=>whnf));(repeat' (first|exact trivial|rfl|(refine nilEq ?_;first|rfl|(simp only [*];done)|(simp [*];done)|grind)|apply And.intro|((first|apply intEq|apply boolEq|apply strEq|apply psEq|apply nilEq|apply arrEq);(try simp only [Int.toNat_natCast,etas,elDef]);first | done | omega | grind | (simp only [*]; done) | (simp [*]; done)))));(all_goals ((try simp only [Int.toNat_natCast,etas,elDef]);first | done | omega | grind | (simp only [*]; done) | (simp [*]; done))), (by exact sgOk_of (by rfl))⟩
  · have : l.all tagOk = true := (all_listD l [] _).2 (by grind)
    exact leafB hK (by grind [areTagsM])
theorem s32 : (CtrOK Tryd.prog 32 (.pure F32) ∧ Callable Tryd.prog 32) := by
  refine pure_ok (E := E32) (mkE_cons s58 (mkE_nil tab_ok)) mix (O := O32) (F := F32) Tryd.func32 rfl (by rfl) (by kernel_rfl) (fun args o v h => ?_) (fun args o v h => ?_) (fun args o v h hbd hp K hK => ?_)
  · unfold F32 at h; split at h <;> cases h; first | trivial | (simp [v32, Scalar, Scalar2, Scalar1, stC, ndC, itC, chC, nwC])
  · unfold F32 at h; split at h <;> cases h; exact Nat.le_of_ble_eq_true rfl
  · unfold F32 at h; split at h
    case h_2 => cases h
    cases h
    exact a32 _ (by exact hbd) trivial K hK
noncomputable def v48 (l : List Opn) : AV := .bool (opsM l)
noncomputable def o48 (l : List Opn) : Prop := True
noncomputable def F48 : List AV → QR
  | [.ps .opn l] => some (none, v48 l)
  | _ => none
noncomputable def E48 : Ctx := mkE tab [(67, .pure F67)]
noncomputable def O48 : Nat → List DI := ordL []
theorem a48 (l : List Opn) (hb : BdAs [.ps .opn l]) (ho : o48 l) (K : AV → List AV → Prop) (hK : K (v48 l) []) : abody E48 O48 .ps Tryd.f48 (Tryd.f48.body.getD .skip) [.ps .opn l] K := by
  simp only [BdAs, BdA, BdL, BdC, MX, ndC, shC, itC, stC, opC, chC, nwC, flC, rqC, rsC, enc, List.cons_append, List.nil_append, and_true, true_and] at hb
  unfold v48 at hK
  conv => whnf
  repeat' first|((first|refine Cnd.mk (fun h=>?_) (fun h=>?_)|refine Gd.mk (fun h=>?_))<;>(try simp [etas,elDef,-List.getD_eq_getElem?_getD] at h)<;>conv=>whnf)|((first|refine Obl.mk (by first|omega|rfl|exact inK_byte _|(simp only [inK,Int.toNat_natCast,etas,elDef]<;>first|omega|grind)|grind [inK]) ?_|refine OblG.mk (by ((conv=>whnf);(repeat (first|refine Bx.mk ?_|(intro h;(try simp [etas,elDef,-List.getD_eq_getElem?_getD] at h);conv=>whnf)));(first|omega|rfl|exact inK_byte _|(simp only [inK,Int.toNat_natCast,etas,elDef]<;>first|omega|grind)|grind [inK]))) ?_|refine And.intro ?_ ?_)<;>conv=>whnf)|exact True.intro|(intro;conv=>whnf)
  · exact leafB hK (by unfold opsM; grind)
  refine aloop_intro Nat (fun k => k ≤ l.length ∧ ∀ j, j < k → opOk (l.getD j default) = true) (fun k => l.length - k) (fun k => [(10, .int .i64 k)]) (fun k => []) [] 0 [] [] ?_ ?_ (by exact sgOk_of (by rfl)) ?_
  · first | (simp; done) | (simp; assumption)
  · iterate 2 ((all_goals (conv=>whnf));(repeat' (first|exact trivial|rfl|(refine nilEq ?_;first|rfl|(simp only [*];done)|(simp [*];done)|grind)|apply And.intro|((first|apply intEq|apply boolEq|apply strEq|apply psEq|apply nilEq|apply arrEq);(try simp only [Int.toNat_natCast,etas,elDef]);first | done | omega | grind | (simp only [*]; done) | (simp [*]; done)))));(all_goals ((try simp only [Int.toNat_natCast,etas,elDef]);first | done | omega | grind | (simp only [*]; done) | (simp [*]; done)))
  rintro i ⟨hi, hj⟩
  conv => whnf
  repeat' first|((first|refine Cnd.mk (fun h=>?_) (fun h=>?_)|refine Gd.mk (fun h=>?_))<;>(try simp [etas,elDef,-List.getD_eq_getElem?_getD] at h)<;>conv=>whnf)|((first|refine Obl.mk (by first|omega|rfl|exact inK_byte _|(simp only [inK,Int.toNat_natCast,etas,elDef]<;>first|omega|grind)|grind [inK]) ?_|refine OblG.mk (by ((conv=>whnf);(repeat (first|refine Bx.mk ?_|(intro h;(try simp [etas,elDef,-List.getD_eq_getElem?_getD] at h);conv=>whnf)));(first|omega|rfl|exact inK_byte _|(simp only [inK,Int.toNat_natCast,etas,elDef]<;>first|omega|grind)|grind [inK]))) ?_|refine And.intro ?_ ?_)<;>conv=>whnf)|exact True.intro|(intro;conv=>whnf)
  · exact leafB hK (by grind [opsM, all_noD])
  · exact ⟨i + 1, [], [], ⟨by omega, by grind⟩, by omega, by iterate 2 ((all_goals (conv=>whnf));(repeat' (first|exact trivial|rfl|(refine nilEq ?_;first|rfl|(simp only [*];done)|(simp [*];done)|grind)|apply And.intro|((first|apply intEq|apply boolEq|apply strEq|apply psEq|apply nilEq|apply arrEq);(try simp only [Int.toNat_natCast,etas,elDef]);first | done | omega | grind | (simp only [*]; done) | (simp [*]; done)))));(all_goals ((try simp only [Int.toNat_natCast,etas,elDef]);first | done | omega | grind | (simp only [*]; done) | (simp [*]; done))), (by exact sgOk_of (by rfl))⟩
  · have : l.all opOk = true := (all_listD l default _).2 (by grind)
    exact leafB hK (by grind [opsM])
theorem s48 : (CtrOK Tryd.prog 48 (.pure F48) ∧ Callable Tryd.prog 48) := by
  refine pure_ok (E := E48) (mkE_cons s67 (mkE_nil tab_ok)) mix (O := O48) (F := F48) Tryd.func48 rfl (by rfl) (by kernel_rfl) (fun args o v h => ?_) (fun args o v h => ?_) (fun args o v h hbd hp K hK => ?_)
  · unfold F48 at h; split at h <;> cases h; first | trivial | (simp [v48, Scalar, Scalar2, Scalar1, stC, ndC, itC, chC, nwC])
  · unfold F48 at h; split at h <;> cases h; exact Nat.le_of_ble_eq_true rfl
  · unfold F48 at h; split at h
    case h_2 => cases h
    cases h
    exact a48 _ (by exact hbd) trivial K hK
noncomputable def v33 (l : List Opn) : AV := .bool (opsM l)
noncomputable def o33 (l : List Opn) : Prop := True
noncomputable def F33 : List AV → QR
  | [.ps .opn l] => some (none, v33 l)
  | _ => none
noncomputable def E33 : Ctx := mkE tab [(59, .pure F59)]
noncomputable def O33 : Nat → List DI := ordL []
theorem a33 (l : List Opn) (hb : BdAs [.ps .opn l]) (ho : o33 l) (K : AV → List AV → Prop) (hK : K (v33 l) []) : abody E33 O33 .ps Tryd.f33 (Tryd.f33.body.getD .skip) [.ps .opn l] K := by
  simp only [BdAs, BdA, BdL, BdC, MX, ndC, shC, itC, stC, opC, chC, nwC, flC, rqC, rsC, enc, List.cons_append, List.nil_append, and_true, true_and] at hb
  unfold v33 at hK
  conv => whnf
  refine aloop_intro Nat (fun k => k ≤ l.length ∧ ∀ j, j < k → opOk (l.getD j default) = true) (fun k => l.length - k) (fun k => [(3, .int .i64 k)]) (fun k => []) [] 0 [] [] ?_ ?_ (by exact sgOk_of (by rfl)) ?_
  · first | (simp; done) | (simp; assumption)
  · iterate 2 ((all_goals (conv=>whnf));(repeat' (first|exact trivial|rfl|(refine nilEq ?_;first|rfl|(simp only [*];done)|(simp [*];done)|grind)|apply And.intro|((first|apply intEq|apply boolEq|apply strEq|apply psEq|apply nilEq|apply arrEq);(try simp only [Int.toNat_natCast,etas,elDef]);first | done | omega | grind | (simp only [*]; done) | (simp [*]; done)))));(all_goals ((try simp only [Int.toNat_natCast,etas,elDef]);first | done | omega | grind | (simp only [*]; done) | (simp [*]; done)))
  rintro i ⟨hi, hj⟩
  conv => whnf
  repeat' first|((first|refine Cnd.mk (fun h=>?_) (fun h=>?_)|refine Gd.mk (fun h=>?_))<;>(try simp [etas,elDef,-List.getD_eq_getElem?_getD] at h)<;>conv=>whnf)|((first|refine Obl.mk (by first|omega|rfl|exact inK_byte _|(simp only [inK,Int.toNat_natCast,etas,elDef]<;>first|omega|grind)|grind [inK]) ?_|refine OblG.mk (by ((conv=>whnf);(repeat (first|refine Bx.mk ?_|(intro h;(try simp [etas,elDef,-List.getD_eq_getElem?_getD] at h);conv=>whnf)));(first|omega|rfl|exact inK_byte _|(simp only [inK,Int.toNat_natCast,etas,elDef]<;>first|omega|grind)|grind [inK]))) ?_|refine And.intro ?_ ?_)<;>conv=>whnf)|exact True.intro|(intro;conv=>whnf)
  · exact leafB hK (by grind [opsM, all_noD])
  · exact ⟨i + 1, [], [], ⟨by omega, by grind⟩, by omega, by iterate 2 ((all_goals (conv=>whnf));(repeat' (first|exact trivial|rfl|(refine nilEq ?_;first|rfl|(simp only [*];done)|(simp [*];done)|grind)|apply And.intro|((first|apply intEq|apply boolEq|apply strEq|apply psEq|apply nilEq|apply arrEq);(try simp only [Int.toNat_natCast,etas,elDef]);first | done | omega | grind | (simp only [*]; done) | (simp [*]; done)))));(all_goals ((try simp only [Int.toNat_natCast,etas,elDef]);first | done | omega | grind | (simp only [*]; done) | (simp [*]; done))), (by exact sgOk_of (by rfl))⟩
  · have : l.all opOk = true := (all_listD l default _).2 (by grind)
    exact leafB hK (by grind [opsM])
theorem s33 : (CtrOK Tryd.prog 33 (.pure F33) ∧ Callable Tryd.prog 33) := by
  refine pure_ok (E := E33) (mkE_cons s59 (mkE_nil tab_ok)) mix (O := O33) (F := F33) Tryd.func33 rfl (by rfl) (by kernel_rfl) (fun args o v h => ?_) (fun args o v h => ?_) (fun args o v h hbd hp K hK => ?_)
  · unfold F33 at h; split at h <;> cases h; first | trivial | (simp [v33, Scalar, Scalar2, Scalar1, stC, ndC, itC, chC, nwC])
  · unfold F33 at h; split at h <;> cases h; exact Nat.le_of_ble_eq_true rfl
  · unfold F33 at h; split at h
    case h_2 => cases h
    cases h
    exact a33 _ (by exact hbd) trivial K hK
noncomputable def v19 (x : Req) : AV := .bool (reqM x)
noncomputable def o19 (x : Req) : Prop := True
noncomputable def F19 : List AV → QR
  | [.st [.int .i64 x_0, .str x_1, .ps .str x_2, .ps .str x_3, .int .i64 x_4_0, .int .i64 x_4_1, .str x_4_2, .ps .str x_4_3, .ps .node x_4_4, .ps .opn x_5]] => some (none, v19 ⟨x_0, x_1, x_2, x_3, ⟨x_4_0, x_4_1, x_4_2, x_4_3, x_4_4⟩, x_5⟩)
  | _ => none
noncomputable def E19 : Ctx := mkE tab [(45, .pure F45), (46, .pure F46), (47, .pure F47), (48, .pure F48)]
noncomputable def O19 : Nat → List DI := ordL []
theorem a19 (x : Req) (hb : BdAs [.st (rqC x)]) (ho : o19 x) (K : AV → List AV → Prop) (hK : K (v19 x) []) : abody E19 O19 .ps Tryd.f19 (Tryd.f19.body.getD .skip) [.st (rqC x)] K := by
  simp only [BdAs, BdA, BdL, BdC, MX, ndC, shC, itC, stC, opC, chC, nwC, flC, rqC, rsC, enc, List.cons_append, List.nil_append, and_true, true_and] at hb
  unfold v19 at hK
  conv => whnf
  repeat' first|((first|refine Cnd.mk (fun h=>?_) (fun h=>?_)|refine Gd.mk (fun h=>?_))<;>(try simp [etas,elDef,-List.getD_eq_getElem?_getD] at h)<;>conv=>whnf)|((first|refine Obl.mk (by first|omega|rfl|exact inK_byte _|(simp only [inK,Int.toNat_natCast,etas,elDef]<;>first|omega|grind)|grind [inK]) ?_|refine OblG.mk (by ((conv=>whnf);(repeat (first|refine Bx.mk ?_|(intro h;(try simp [etas,elDef,-List.getD_eq_getElem?_getD] at h);conv=>whnf)));(first|omega|rfl|exact inK_byte _|(simp only [inK,Int.toNat_natCast,etas,elDef]<;>first|omega|grind)|grind [inK]))) ?_|refine And.intro ?_ ?_)<;>conv=>whnf)|exact True.intro|(intro;conv=>whnf)
  exact leafB hK (by simp only [etas]; rfl)
theorem s19 : (CtrOK Tryd.prog 19 (.pure F19) ∧ Callable Tryd.prog 19) := by
  refine pure_ok (E := E19) (mkE_cons s45 (mkE_cons s46 (mkE_cons s47 (mkE_cons s48 (mkE_nil tab_ok))))) mix (O := O19) (F := F19) Tryd.func19 rfl (by rfl) (by kernel_rfl) (fun args o v h => ?_) (fun args o v h => ?_) (fun args o v h hbd hp K hK => ?_)
  · unfold F19 at h; split at h <;> cases h; first | trivial | (simp [v19, Scalar, Scalar2, Scalar1, stC, ndC, itC, chC, nwC])
  · unfold F19 at h; split at h <;> cases h; exact Nat.le_of_ble_eq_true rfl
  · unfold F19 at h; split at h
    case h_2 => cases h
    cases h
    exact a19 ⟨_, _, _, _, ⟨_, _, _, _, _⟩, _⟩ (by exact hbd) trivial K hK
noncomputable def v12 (x : Req) : AV := .bool (reqM x)
noncomputable def o12 (x : Req) : Prop := True
noncomputable def F12 : List AV → QR
  | [.st [.int .i64 x_0, .str x_1, .ps .str x_2, .ps .str x_3, .int .i64 x_4_0, .int .i64 x_4_1, .str x_4_2, .ps .str x_4_3, .ps .node x_4_4, .ps .opn x_5]] => some (none, v12 ⟨x_0, x_1, x_2, x_3, ⟨x_4_0, x_4_1, x_4_2, x_4_3, x_4_4⟩, x_5⟩)
  | _ => none
noncomputable def E12 : Ctx := mkE tab [(13, .pure F13), (30, .pure F30), (31, .pure F31), (32, .pure F32), (33, .pure F33)]
noncomputable def O12 : Nat → List DI := ordL []
theorem a12 (x : Req) (hb : BdAs [.st (rqC x)]) (ho : o12 x) (K : AV → List AV → Prop) (hK : K (v12 x) []) : abody E12 O12 .ps Tryd.f12 (Tryd.f12.body.getD .skip) [.st (rqC x)] K := by
  simp only [BdAs, BdA, BdL, BdC, MX, ndC, shC, itC, stC, opC, chC, nwC, flC, rqC, rsC, enc, List.cons_append, List.nil_append, and_true, true_and] at hb
  unfold v12 at hK
  conv => whnf
  repeat' first|((first|refine Cnd.mk (fun h=>?_) (fun h=>?_)|refine Gd.mk (fun h=>?_))<;>(try simp [etas,elDef,-List.getD_eq_getElem?_getD] at h)<;>conv=>whnf)|((first|refine Obl.mk (by first|omega|rfl|exact inK_byte _|(simp only [inK,Int.toNat_natCast,etas,elDef]<;>first|omega|grind)|grind [inK]) ?_|refine OblG.mk (by ((conv=>whnf);(repeat (first|refine Bx.mk ?_|(intro h;(try simp [etas,elDef,-List.getD_eq_getElem?_getD] at h);conv=>whnf)));(first|omega|rfl|exact inK_byte _|(simp only [inK,Int.toNat_natCast,etas,elDef]<;>first|omega|grind)|grind [inK]))) ?_|refine And.intro ?_ ?_)<;>conv=>whnf)|exact True.intro|(intro;conv=>whnf)
  exact leafB hK (by simp only [etas]; rfl)
theorem s12 : (CtrOK Tryd.prog 12 (.pure F12) ∧ Callable Tryd.prog 12) := by
  refine pure_ok (E := E12) (mkE_cons s13 (mkE_cons s30 (mkE_cons s31 (mkE_cons s32 (mkE_cons s33 (mkE_nil tab_ok)))))) mix (O := O12) (F := F12) Tryd.func12 rfl (by rfl) (by kernel_rfl) (fun args o v h => ?_) (fun args o v h => ?_) (fun args o v h hbd hp K hK => ?_)
  · unfold F12 at h; split at h <;> cases h; first | trivial | (simp [v12, Scalar, Scalar2, Scalar1, stC, ndC, itC, chC, nwC])
  · unfold F12 at h; split at h <;> cases h; exact Nat.le_of_ble_eq_true rfl
  · unfold F12 at h; split at h
    case h_2 => cases h
    cases h
    exact a12 ⟨_, _, _, _, ⟨_, _, _, _, _⟩, _⟩ (by exact hbd) trivial K hK
end Go.Rs

