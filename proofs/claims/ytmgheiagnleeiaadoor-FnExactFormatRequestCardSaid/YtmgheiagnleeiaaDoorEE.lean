import Derived.Test.YtmgheiagnleeiaaDoorDG
import Derived.Test.YtmgheiagnleeiaaDoorCP
import Derived.Test.YtmgheiagnleeiaaDoorMC
import Derived.Test.YtmgheiagnleeiaaDoorCT
import Derived.Test.YtmgheiagnleeiaaDoorCZ
import Derived.Test.YtmgheiagnleeiaaDoorIns
import Derived.Test.YtmgheiagnleeiaaDoorCG
import Derived.Test.YtmgheiagnleeiaaDoorMD
import Derived.Test.YtmgheiagnleeiaaDoorMF
set_option linter.all false
set_option linter.unusedSimpArgs false
set_option linter.unusedVariables false
namespace Go.Rs
open Go.Proofs
set_option maxRecDepth 100000
def wordN (s : Bs) : Nd := ⟨2, 0, s, [], []⟩
def pathN (p : List Bs) : Nd := ⟨3, 0, [], [], p.map wordN⟩
def opWordM (k : Int) : Bs := if k = 1 then [97, 100, 100] else if k = 2 then [114, 101, 109, 111, 118, 101] else if k = 3 then [114, 101, 112, 108, 97, 99, 101] else if k = 4 then [109, 111, 118, 101] else if k = 5 then [99, 111, 112, 121] else if k = 6 then [116, 101, 115, 116] else []
def opOk (o : Opn) : Bool := decide (1 ≤ o.kind) && decide (o.kind ≤ 6) && pathM o.path && pathM o.frm && validM o.value
def opN (o : Opn) : Nd := ⟨4, 0, [], [[102, 114, 111, 109], [111, 112], [112, 97, 116, 104], [118, 97, 108, 117, 101]], [pathN o.frm, wordN (opWordM o.kind), pathN o.path, o.value]⟩
def opNodeM (o : Opn) : Option Nd := if opOk o && validM (opN o) then some (opN o) else none
theorem pathN_take {p : List Bs} {i : Nat} (h : i < p.length) : (p.take (i + 1)).map wordN = (p.take i).map wordN ++ [wordN (p.getD i [])] := by
  rw [← take_snoc [] h, List.map_append]; rfl
theorem opOk_facts {o : Opn} (h : opOk o = true) : (1 ≤ o.kind ∧ o.kind ≤ 6) ∧ pathM o.path = true ∧ pathM o.frm = true ∧ validM o.value = true ∧ o.path.length ≤ 5 ∧ o.frm.length ≤ 5 := by
  simp only [opOk, Bool.and_eq_true, decide_eq_true_eq] at h
  have h1 := h.1.1.2
  have h2 := h.1.2
  simp only [pathM, Bool.and_eq_true, decide_eq_true_eq] at h1 h2
  exact ⟨h.1.1.1, h.1.1.2, h.1.2, h.2, h1.1, h2.1⟩
theorem words_at {k : Int} (h1 : 1 ≤ k) (h2 : k ≤ 6) : ([[], [97, 100, 100], [114, 101, 109, 111, 118, 101], [114, 101, 112, 108, 97, 99, 101], [109, 111, 118, 101], [99, 111, 112, 121], [116, 101, 115, 116]] : List Bs).getD k.toNat [] = opWordM k := by
  rcases (by omega : k = 1 ∨ k = 2 ∨ k = 3 ∨ k = 4 ∨ k = 5 ∨ k = 6) with rfl | rfl | rfl | rfl | rfl | rfl <;> rfl
noncomputable def v67 (o : Opn) : AV := .bool (opOk o)
noncomputable def o67 (o : Opn) : Prop := True
noncomputable def F67 : List AV → QR
  | [.st [.int .i64 o_0, .ps .str o_1, .ps .str o_2, .int .i64 o_3_0, .int .i64 o_3_1, .str o_3_2, .ps .str o_3_3, .ps .node o_3_4]] => some (none, v67 ⟨o_0, o_1, o_2, ⟨o_3_0, o_3_1, o_3_2, o_3_3, o_3_4⟩⟩)
  | _ => none
noncomputable def E67 : Ctx := mkE tab [(47, .pure F47), (78, .pure F78)]
noncomputable def O67 : Nat → List DI := ordL []
theorem a67 (o : Opn) (hb : BdAs [.st (opC o)]) (ho : o67 o) (K : AV → List AV → Prop) (hK : K (v67 o) []) : abody E67 O67 .ps Tryd.f67 (Tryd.f67.body.getD .skip) [.st (opC o)] K := by
  simp only [BdAs, BdA, BdL, BdC, MX, ndC, shC, itC, stC, opC, chC, nwC, flC, rqC, rsC, enc, List.cons_append, List.nil_append, and_true, true_and] at hb
  unfold v67 at hK
  conv => whnf
  repeat' first|((first|refine Cnd.mk (fun h=>?_) (fun h=>?_)|refine Gd.mk (fun h=>?_))<;>(try simp [etas,elDef,-List.getD_eq_getElem?_getD] at h)<;>conv=>whnf)|((first|refine Obl.mk (by first|omega|rfl|exact inK_byte _|(simp only [inK,Int.toNat_natCast,etas,elDef]<;>first|omega|grind)|grind [inK]) ?_|refine OblG.mk (by ((conv=>whnf);(repeat (first|refine Bx.mk ?_|(intro h;(try simp [etas,elDef,-List.getD_eq_getElem?_getD] at h);conv=>whnf)));(first|omega|rfl|exact inK_byte _|(simp only [inK,Int.toNat_natCast,etas,elDef]<;>first|omega|grind)|grind [inK]))) ?_|refine And.intro ?_ ?_)<;>conv=>whnf)|exact True.intro|(intro;conv=>whnf)
  exact leafB hK (by simp only [etas, opOk])
theorem s67 : (CtrOK Tryd.prog 67 (.pure F67) ∧ Callable Tryd.prog 67) := by
  refine pure_ok (E := E67) (mkE_cons s47 (mkE_cons s78 (mkE_nil tab_ok))) mix (O := O67) (F := F67) Tryd.func67 rfl (by rfl) (by kernel_rfl) (fun args o v h => ?_) (fun args o v h => ?_) (fun args o v h hbd hp K hK => ?_)
  · unfold F67 at h; split at h <;> cases h; first | trivial | (simp [v67, Scalar, Scalar2, Scalar1, stC, ndC, itC, chC, nwC])
  · unfold F67 at h; split at h <;> cases h; exact Nat.le_of_ble_eq_true rfl
  · unfold F67 at h; split at h
    case h_2 => cases h
    cases h
    exact a67 ⟨_, _, _, ⟨_, _, _, _, _⟩⟩ (by exact hbd) trivial K hK
noncomputable def v59 (o : Opn) : AV := .bool (opOk o)
noncomputable def o59 (o : Opn) : Prop := True
noncomputable def F59 : List AV → QR
  | [.st [.int .i64 o_0, .ps .str o_1, .ps .str o_2, .int .i64 o_3_0, .int .i64 o_3_1, .str o_3_2, .ps .str o_3_3, .ps .node o_3_4]] => some (none, v59 ⟨o_0, o_1, o_2, ⟨o_3_0, o_3_1, o_3_2, o_3_3, o_3_4⟩⟩)
  | _ => none
noncomputable def E59 : Ctx := mkE tab [(13, .pure F13), (30, .pure F30), (75, .pure F75)]
noncomputable def O59 : Nat → List DI := ordL []
theorem a59 (o : Opn) (hb : BdAs [.st (opC o)]) (ho : o59 o) (K : AV → List AV → Prop) (hK : K (v59 o) []) : abody E59 O59 .ps Tryd.f59 (Tryd.f59.body.getD .skip) [.st (opC o)] K := by
  simp only [BdAs, BdA, BdL, BdC, MX, ndC, shC, itC, stC, opC, chC, nwC, flC, rqC, rsC, enc, List.cons_append, List.nil_append, and_true, true_and] at hb
  unfold v59 at hK
  conv => whnf
  repeat' first|((first|refine Cnd.mk (fun h=>?_) (fun h=>?_)|refine Gd.mk (fun h=>?_))<;>(try simp [etas,elDef,-List.getD_eq_getElem?_getD] at h)<;>conv=>whnf)|((first|refine Obl.mk (by first|omega|rfl|exact inK_byte _|(simp only [inK,Int.toNat_natCast,etas,elDef]<;>first|omega|grind)|grind [inK]) ?_|refine OblG.mk (by ((conv=>whnf);(repeat (first|refine Bx.mk ?_|(intro h;(try simp [etas,elDef,-List.getD_eq_getElem?_getD] at h);conv=>whnf)));(first|omega|rfl|exact inK_byte _|(simp only [inK,Int.toNat_natCast,etas,elDef]<;>first|omega|grind)|grind [inK]))) ?_|refine And.intro ?_ ?_)<;>conv=>whnf)|exact True.intro|(intro;conv=>whnf)
  exact leafB hK (by simp only [etas]; rfl)
theorem s59 : (CtrOK Tryd.prog 59 (.pure F59) ∧ Callable Tryd.prog 59) := by
  refine pure_ok (E := E59) (mkE_cons s13 (mkE_cons s30 (mkE_cons s75 (mkE_nil tab_ok)))) mix (O := O59) (F := F59) Tryd.func59 rfl (by rfl) (by kernel_rfl) (fun args o v h => ?_) (fun args o v h => ?_) (fun args o v h hbd hp K hK => ?_)
  · unfold F59 at h; split at h <;> cases h; first | trivial | (simp [v59, Scalar, Scalar2, Scalar1, stC, ndC, itC, chC, nwC])
  · unfold F59 at h; split at h <;> cases h; exact Nat.le_of_ble_eq_true rfl
  · unfold F59 at h; split at h
    case h_2 => cases h
    cases h
    exact a59 ⟨_, _, _, ⟨_, _, _, _, _⟩⟩ (by exact hbd) trivial K hK
noncomputable def v71 (k : Int) : AV := .str (opWordM k)
noncomputable def o71 (k : Int) : Prop := True
noncomputable def F71 : List AV → QR
  | [.int .i64 k] => some (none, v71 k)
  | _ => none
noncomputable def E71 : Ctx := mkE tab []
noncomputable def O71 : Nat → List DI := ordL []
theorem a71 (k : Int) (hb : BdAs [.int .i64 k]) (ho : o71 k) (K : AV → List AV → Prop) (hK : K (v71 k) []) : abody E71 O71 .ps Tryd.f71 (Tryd.f71.body.getD .skip) [.int .i64 k] K := by
  simp only [BdAs, BdA, BdL, BdC, MX, ndC, shC, itC, stC, opC, chC, nwC, flC, rqC, rsC, enc, List.cons_append, List.nil_append, and_true, true_and] at hb
  unfold v71 at hK
  conv => whnf
  repeat' first|((first|refine Cnd.mk (fun h=>?_) (fun h=>?_)|refine Gd.mk (fun h=>?_))<;>(try simp [etas,elDef,-List.getD_eq_getElem?_getD] at h)<;>conv=>whnf)|((first|refine Obl.mk (by first|omega|rfl|exact inK_byte _|(simp only [inK,Int.toNat_natCast,etas,elDef]<;>first|omega|grind)|grind [inK]) ?_|refine OblG.mk (by ((conv=>whnf);(repeat (first|refine Bx.mk ?_|(intro h;(try simp [etas,elDef,-List.getD_eq_getElem?_getD] at h);conv=>whnf)));(first|omega|rfl|exact inK_byte _|(simp only [inK,Int.toNat_natCast,etas,elDef]<;>first|omega|grind)|grind [inK]))) ?_|refine And.intro ?_ ?_)<;>conv=>whnf)|exact True.intro|(intro;conv=>whnf)
  all_goals exact leafS hK (by simp [opWordM, *])
theorem s71 : (CtrOK Tryd.prog 71 (.pure F71) ∧ Callable Tryd.prog 71) := by
  refine pure_ok (E := E71) (mkE_nil tab_ok) mix (O := O71) (F := F71) Tryd.func71 rfl (by rfl) (by kernel_rfl) (fun args o v h => ?_) (fun args o v h => ?_) (fun args o v h hbd hp K hK => ?_)
  · unfold F71 at h; split at h <;> cases h; first | trivial | (simp [v71, Scalar, Scalar2, Scalar1, stC, ndC, itC, chC, nwC])
  · unfold F71 at h; split at h <;> cases h; exact Nat.le_of_ble_eq_true rfl
  · unfold F71 at h; split at h
    case h_2 => cases h
    cases h
    exact a71 _ (by exact hbd) trivial K hK
noncomputable def v70 (p : List Bs) : AV := .st (ndC (pathN p))
noncomputable def o70 (p : List Bs) : Prop := p.length ≤ 1000
noncomputable def F70 : List AV → QR
  | [.ps .str p] => some (some (o70 p), v70 p)
  | _ => none
noncomputable def E70 : Ctx := mkE tab []
noncomputable def O70 : Nat → List DI := ordL []
theorem a70 (p : List Bs) (hb : BdAs [.ps .str p]) (ho : o70 p) (K : AV → List AV → Prop) (hK : K (v70 p) []) : abody E70 O70 .ps Tryd.f70 (Tryd.f70.body.getD .skip) [.ps .str p] K := by
  simp only [BdAs, BdA, BdL, BdC, MX, ndC, shC, itC, stC, opC, chC, nwC, flC, rqC, rsC, enc, List.cons_append, List.nil_append, and_true, true_and] at hb
  unfold o70 at ho
  unfold v70 at hK
  conv => whnf
  repeat' first|((first|refine Cnd.mk (fun h=>?_) (fun h=>?_)|refine Gd.mk (fun h=>?_))<;>(try simp [etas,elDef,-List.getD_eq_getElem?_getD] at h)<;>conv=>whnf)|((first|refine Obl.mk (by first|omega|rfl|exact inK_byte _|(simp only [inK,Int.toNat_natCast,etas,elDef]<;>first|omega|grind)|grind [inK]) ?_|refine OblG.mk (by ((conv=>whnf);(repeat (first|refine Bx.mk ?_|(intro h;(try simp [etas,elDef,-List.getD_eq_getElem?_getD] at h);conv=>whnf)));(first|omega|rfl|exact inK_byte _|(simp only [inK,Int.toNat_natCast,etas,elDef]<;>first|omega|grind)|grind [inK]))) ?_|refine And.intro ?_ ?_)<;>conv=>whnf)|exact True.intro|(intro;conv=>whnf)
  refine aloop_intro (Nat × List Nd) (fun q => q.1 ≤ p.length ∧ q.2 = (p.take q.1).map wordN) (fun q => p.length - q.1) (fun q => [(9, .int .i64 q.1)]) (fun q => (3, .box [.int .i64 3, .int .i64 0, .str [], .nils .str, nlV .node q.2]) :: nlL .node q.2) [2] (0, []) [] [] ?_ ?_ (by exact sgOk_of (by rfl)) ?_
  · simp
  · iterate 2 ((all_goals (conv=>whnf));(repeat' (first|exact trivial|rfl|(refine nilEq ?_;first|rfl|(simp only [*];done)|(simp [*];done)|grind)|apply And.intro|((first|apply intEq|apply boolEq|apply strEq|apply psEq|apply nilEq|apply arrEq);(try simp only [Int.toNat_natCast,etas,elDef]);first | done | omega | grind | (simp only [*]; done) | (simp [*]; done)))));(all_goals ((try simp only [Int.toNat_natCast,etas,elDef]);first | done | omega | grind | (simp only [*]; done) | (simp [*]; done)))
  rintro ⟨i, _ | ⟨a, r⟩⟩ ⟨hi, hj⟩
  · dsimp only at hi hj
    have htk := fun h => pathN_take (p := p) (i := i) h
    conv => whnf
    repeat' first|((first|refine Cnd.mk (fun h=>?_) (fun h=>?_)|refine Gd.mk (fun h=>?_))<;>(try simp [etas,elDef,-List.getD_eq_getElem?_getD] at h)<;>conv=>whnf)|((first|refine Obl.mk (by first|omega|rfl|exact inK_byte _|(simp only [inK,Int.toNat_natCast,etas,elDef]<;>first|omega|grind)|grind [inK]) ?_|refine OblG.mk (by ((conv=>whnf);(repeat (first|refine Bx.mk ?_|(intro h;(try simp [etas,elDef,-List.getD_eq_getElem?_getD] at h);conv=>whnf)));(first|omega|rfl|exact inK_byte _|(simp only [inK,Int.toNat_natCast,etas,elDef]<;>first|omega|grind)|grind [inK]))) ?_|refine And.intro ?_ ?_)<;>conv=>whnf)|exact True.intro|(intro;conv=>whnf)
    · exact ⟨(i + 1, [wordN (p.getD i [])]), [(900, 18)], [], ⟨by simp only; omega, by simp only; rw [htk (by omega), ← hj]; rfl⟩, by simp only; omega, by iterate 2 ((all_goals (conv=>whnf));(repeat' (first|exact trivial|rfl|(refine nilEq ?_;first|rfl|(simp only [*];done)|(simp [*];done)|grind)|apply And.intro|((first|apply intEq|apply boolEq|apply strEq|apply psEq|apply nilEq|apply arrEq);(try simp only [Int.toNat_natCast,etas,elDef]);first | done | omega | grind | (simp only [*]; done) | (simp [*]; done)))));(all_goals ((try simp only [Int.toNat_natCast,etas,elDef]);first | done | omega | grind | (simp only [*]; done) | (simp [*]; done))), (by exact sgOk_of (by rfl))⟩
    · exact leafV hK (by unfold pathN; rw [List.take_of_length_le h] at hj; rw [← hj]; rfl)
  · dsimp only at hi hj
    have htk := fun h => pathN_take (p := p) (i := i) h
    have hl : (a :: r).length = i := by rw [hj]; simp; omega
    have hr2 : (a :: r).length + [wordN (p.getD i [])].length ≤ 1073741824 := by simp at hl ⊢; omega
    conv => whnf
    repeat' first|((first|refine Cnd.mk (fun h=>?_) (fun h=>?_)|refine Gd.mk (fun h=>?_))<;>(try simp [etas,elDef,-List.getD_eq_getElem?_getD] at h)<;>conv=>whnf)|((first|refine Obl.mk (by first|omega|rfl|exact inK_byte _|(simp only [inK,Int.toNat_natCast,etas,elDef]<;>first|omega|grind)|grind [inK]) ?_|refine OblG.mk (by ((conv=>whnf);(repeat (first|refine Bx.mk ?_|(intro h;(try simp [etas,elDef,-List.getD_eq_getElem?_getD] at h);conv=>whnf)));(first|omega|rfl|exact inK_byte _|(simp only [inK,Int.toNat_natCast,etas,elDef]<;>first|omega|grind)|grind [inK]))) ?_|refine And.intro ?_ ?_)<;>conv=>whnf)|exact True.intro|(intro;conv=>whnf)
    · exact ⟨(i + 1, a :: r ++ [wordN (p.getD i [])]), [(900, 18)], [], ⟨by simp only; omega, by simp only; rw [htk (by omega), ← hj]⟩, by simp only; omega, by iterate 2 ((all_goals (conv=>whnf));(repeat' (first|exact trivial|rfl|(refine nilEq ?_;first|rfl|(simp only [*];done)|(simp [*];done)|grind)|apply And.intro|((first|apply intEq|apply boolEq|apply strEq|apply psEq|apply nilEq|apply arrEq);(try simp only [Int.toNat_natCast,etas,elDef]);first | done | omega | grind | (simp only [*]; done) | (simp [*]; done)))));(all_goals ((try simp only [Int.toNat_natCast,etas,elDef]);first | done | omega | grind | (simp only [*]; done) | (simp [*]; done))), (by exact sgOk_of (by rfl))⟩
    · exact leafV hK (by unfold pathN; rw [List.take_of_length_le h] at hj; rw [← hj]; rfl)
theorem s70 : (CtrOK Tryd.prog 70 (.pure F70) ∧ Callable Tryd.prog 70) := by
  refine pure_ok (E := E70) (mkE_nil tab_ok) mix (O := O70) (F := F70) Tryd.func70 rfl (by rfl) (by kernel_rfl) (fun args o v h => ?_) (fun args o v h => ?_) (fun args o v h hbd hp K hK => ?_)
  · unfold F70 at h; split at h <;> cases h; first | trivial | (simp [v70, Scalar, Scalar2, Scalar1, stC, ndC, itC, chC, nwC])
  · unfold F70 at h; split at h <;> cases h; exact Nat.le_of_ble_eq_true rfl
  · unfold F70 at h; split at h
    case h_2 => cases h
    cases h
    exact a70 _ (by exact hbd) (hp _ rfl) K hK
noncomputable def c51 (o : Opn) (K : AV → List AV → Prop) : Prop :=
    K (optN (opNodeM o)) []
noncomputable def C51 : List AV → (AV → List AV → Prop) → Prop
  | [.st [.int .i64 o_0, .ps .str o_1, .ps .str o_2, .int .i64 o_3_0, .int .i64 o_3_1, .str o_3_2, .ps .str o_3_3, .ps .node o_3_4]], K => c51 ⟨o_0, o_1, o_2, ⟨o_3_0, o_3_1, o_3_2, o_3_3, o_3_4⟩⟩ K
  | _, _ => False
noncomputable def E51 : Ctx := mkE tab [(67, .pure F67), (69, .gen .ps C69), (70, .pure F70), (71, .pure F71), (72, .gen .ow C72)]
noncomputable def O51 : Nat → List DI := ordL [(3, [.q 1, .q 2, .q 3, .q 4, .q 5, .q 6, .q 7, .q 8, .q 9, .q 10, .q 11, .q 12, .l 13 [], .l 14 [], .a 0, .q 15, .l 16 [], .q 17, .q 18, .l 19 [], .q 20])]
theorem a51 (o : Opn) (hb : BdAs [.st (opC o)]) (K : AV → List AV → Prop) (h : c51 o K) : abody E51 O51 .ps Tryd.f51 (Tryd.f51.body.getD .skip) [.st (opC o)] K := by
  simp only [BdAs, BdA, BdL, BdC, MX, ndC, shC, itC, stC, opC, chC, nwC, flC, rqC, rsC, enc, List.cons_append, List.nil_append, and_true, true_and] at hb
  unfold c51 at h
  have hK9 := h
  have hf := fun h => opOk_facts (o := o) h
  have hs := fun h => validM_sm (n := o.value) h
  conv => whnf
  repeat' first|((first|refine Cnd.mk (fun h=>?_) (fun h=>?_)|refine Gd.mk (fun h=>?_))<;>(try simp [etas,elDef,-List.getD_eq_getElem?_getD] at h)<;>conv=>whnf)|((first|refine Obl.mk (by first|omega|rfl|exact inK_byte _|(simp only [inK,Int.toNat_natCast,etas,elDef,o70,m72]<;>first|omega|grind)|grind [inK,o70,m72]) ?_|refine OblG.mk (by ((conv=>whnf);(repeat (first|refine Bx.mk ?_|(intro h;(try simp [etas,elDef,-List.getD_eq_getElem?_getD] at h);conv=>whnf)));(first|omega|rfl|exact inK_byte _|(simp only [inK,Int.toNat_natCast,etas,elDef,o70,m72]<;>first|omega|grind)|grind [inK,o70,m72]))) ?_|refine And.intro ?_ ?_)<;>conv=>whnf)|exact True.intro|(intro;conv=>whnf)
  · exact leafV hK9 (by unfold opNodeM; rw [h]; rfl)
  · have e : opNodeM o = if true && validM (opN o) then some (opN o) else none := by unfold opNodeM; rw [h]
    exact leafV hK9 (by rw [e]; simp only [etas]; rfl)
theorem s51 : (CtrOK Tryd.prog 51 (.gen .ps C51) ∧ Callable Tryd.prog 51) := by
  refine gen_ok (E := E51) (mkE_cons s67 (mkE_cons s69 (mkE_cons s70 (mkE_cons s71 (mkE_cons s72 (mkE_nil tab_ok)))))) mix (O := O51) (C := C51) (own := .ps) Tryd.func51 rfl (by rfl) (by kernel_rfl) (fun args K h hbd => ?_)
  unfold C51 at h; split at h
  case h_2 => exact h.elim
  exact ⟨Nat.le_of_ble_eq_true rfl, a51 ⟨_, _, _, ⟨_, _, _, _, _⟩⟩ (by exact hbd) _ h⟩
noncomputable def v37 (s : Bs) : AV := .st (ndC (wordN s))
noncomputable def o37 (s : Bs) : Prop := True
noncomputable def F37 : List AV → QR
  | [.str s] => some (none, v37 s)
  | _ => none
noncomputable def E37 : Ctx := mkE tab []
noncomputable def O37 : Nat → List DI := ordL []
theorem a37 (s : Bs) (hb : BdAs [.str s]) (ho : o37 s) (K : AV → List AV → Prop) (hK : K (v37 s) []) : abody E37 O37 .ps Tryd.f37 (Tryd.f37.body.getD .skip) [.str s] K := by
  simp only [BdAs, BdA, BdL, BdC, MX, ndC, shC, itC, stC, opC, chC, nwC, flC, rqC, rsC, enc, List.cons_append, List.nil_append, and_true, true_and] at hb
  unfold v37 at hK
  conv => whnf
  repeat' first|((first|refine Cnd.mk (fun h=>?_) (fun h=>?_)|refine Gd.mk (fun h=>?_))<;>(try simp [etas,elDef,-List.getD_eq_getElem?_getD] at h)<;>conv=>whnf)|((first|refine Obl.mk (by first|omega|rfl|exact inK_byte _|(simp only [inK,Int.toNat_natCast,etas,elDef]<;>first|omega|grind)|grind [inK]) ?_|refine OblG.mk (by ((conv=>whnf);(repeat (first|refine Bx.mk ?_|(intro h;(try simp [etas,elDef,-List.getD_eq_getElem?_getD] at h);conv=>whnf)));(first|omega|rfl|exact inK_byte _|(simp only [inK,Int.toNat_natCast,etas,elDef]<;>first|omega|grind)|grind [inK]))) ?_|refine And.intro ?_ ?_)<;>conv=>whnf)|exact True.intro|(intro;conv=>whnf)
  exact hK
theorem s37 : (CtrOK Tryd.prog 37 (.pure F37) ∧ Callable Tryd.prog 37) := by
  refine pure_ok (E := E37) (mkE_nil tab_ok) mix (O := O37) (F := F37) Tryd.func37 rfl (by rfl) (by kernel_rfl) (fun args o v h => ?_) (fun args o v h => ?_) (fun args o v h hbd hp K hK => ?_)
  · unfold F37 at h; split at h <;> cases h; first | trivial | (simp [v37, Scalar, Scalar2, Scalar1, stC, ndC, itC, chC, nwC])
  · unfold F37 at h; split at h <;> cases h; exact Nat.le_of_ble_eq_true rfl
  · unfold F37 at h; split at h
    case h_2 => cases h
    cases h
    exact a37 _ (by exact hbd) trivial K hK
noncomputable def v38  : AV := .ps .str [[], [97, 100, 100], [114, 101, 109, 111, 118, 101], [114, 101, 112, 108, 97, 99, 101], [109, 111, 118, 101], [99, 111, 112, 121], [116, 101, 115, 116]]
noncomputable def o38  : Prop := True
noncomputable def F38 : List AV → QR
  | [] => some (none, v38 )
  | _ => none
noncomputable def E38 : Ctx := mkE tab []
noncomputable def O38 : Nat → List DI := ordL []
theorem a38  (hb : BdAs []) (ho : o38 ) (K : AV → List AV → Prop) (hK : K (v38 ) []) : abody E38 O38 .ps Tryd.f38 (Tryd.f38.body.getD .skip) [] K := by
  simp only [BdAs, BdA, BdL, BdC, MX, ndC, shC, itC, stC, opC, chC, nwC, flC, rqC, rsC, enc, List.cons_append, List.nil_append, and_true, true_and] at hb
  unfold v38 at hK
  conv => whnf
  repeat' first|((first|refine Cnd.mk (fun h=>?_) (fun h=>?_)|refine Gd.mk (fun h=>?_))<;>(try simp [etas,elDef,-List.getD_eq_getElem?_getD] at h)<;>conv=>whnf)|((first|refine Obl.mk (by first|omega|rfl|exact inK_byte _|(simp only [inK,Int.toNat_natCast,etas,elDef]<;>first|omega|grind)|grind [inK]) ?_|refine OblG.mk (by ((conv=>whnf);(repeat (first|refine Bx.mk ?_|(intro h;(try simp [etas,elDef,-List.getD_eq_getElem?_getD] at h);conv=>whnf)));(first|omega|rfl|exact inK_byte _|(simp only [inK,Int.toNat_natCast,etas,elDef]<;>first|omega|grind)|grind [inK]))) ?_|refine And.intro ?_ ?_)<;>conv=>whnf)|exact True.intro|(intro;conv=>whnf)
  exact hK
theorem s38 : (CtrOK Tryd.prog 38 (.pure F38) ∧ Callable Tryd.prog 38) := by
  refine pure_ok (E := E38) (mkE_nil tab_ok) mix (O := O38) (F := F38) Tryd.func38 rfl (by rfl) (by kernel_rfl) (fun args o v h => ?_) (fun args o v h => ?_) (fun args o v h hbd hp K hK => ?_)
  · unfold F38 at h; split at h <;> cases h; first | trivial | (simp [v38, Scalar, Scalar2, Scalar1, stC, ndC, itC, chC, nwC])
  · unfold F38 at h; split at h <;> cases h; exact Nat.le_of_ble_eq_true rfl
  · unfold F38 at h; split at h
    case h_2 => cases h
    cases h
    exact a38  (by exact hbd) trivial K hK
noncomputable def v36 (p : List Bs) : AV := .st (ndC (pathN p))
noncomputable def o36 (p : List Bs) : Prop := p.length ≤ 1000
noncomputable def F36 : List AV → QR
  | [.ps .str p] => some (some (o36 p), v36 p)
  | _ => none
noncomputable def E36 : Ctx := mkE tab [(37, .pure F37)]
noncomputable def O36 : Nat → List DI := ordL []
theorem a36 (p : List Bs) (hb : BdAs [.ps .str p]) (ho : o36 p) (K : AV → List AV → Prop) (hK : K (v36 p) []) : abody E36 O36 .ps Tryd.f36 (Tryd.f36.body.getD .skip) [.ps .str p] K := by
  simp only [BdAs, BdA, BdL, BdC, MX, ndC, shC, itC, stC, opC, chC, nwC, flC, rqC, rsC, enc, List.cons_append, List.nil_append, and_true, true_and] at hb
  unfold o36 at ho
  unfold v36 at hK
  conv => whnf
  repeat' first|((first|refine Cnd.mk (fun h=>?_) (fun h=>?_)|refine Gd.mk (fun h=>?_))<;>(try simp [etas,elDef,-List.getD_eq_getElem?_getD] at h)<;>conv=>whnf)|((first|refine Obl.mk (by first|omega|rfl|exact inK_byte _|(simp only [inK,Int.toNat_natCast,etas,elDef]<;>first|omega|grind)|grind [inK]) ?_|refine OblG.mk (by ((conv=>whnf);(repeat (first|refine Bx.mk ?_|(intro h;(try simp [etas,elDef,-List.getD_eq_getElem?_getD] at h);conv=>whnf)));(first|omega|rfl|exact inK_byte _|(simp only [inK,Int.toNat_natCast,etas,elDef]<;>first|omega|grind)|grind [inK]))) ?_|refine And.intro ?_ ?_)<;>conv=>whnf)|exact True.intro|(intro;conv=>whnf)
  refine aloop_intro (Nat × List Nd) (fun ⟨i, l⟩ => i ≤ p.length ∧ l = (p.take i).map wordN) (fun ⟨i, l⟩ => p.length - i) (fun ⟨i, l⟩ => [(4, .int .i64 i), (3, .ls 900)]) (fun ⟨i, l⟩ => [(900, .arr .node l)]) [2] (0, []) [(900, 5)] [] ?_ ?_ (by exact sgOk_of (by rfl)) ?_
  · first | (simp; done) | (simp; assumption) | (simp only; grind)
  · iterate 2 ((all_goals (conv=>whnf));(repeat' (first|exact trivial|rfl|(refine nilEq ?_;first|rfl|(simp only [*];done)|(simp [*];done)|grind)|apply And.intro|((first|apply intEq|apply boolEq|apply strEq|apply psEq|apply nilEq|apply arrEq);(try simp only [Int.toNat_natCast,etas,elDef]);first | done | omega | grind | (simp only [*]; done) | (simp [*]; done)))));(all_goals ((try simp only [Int.toNat_natCast,etas,elDef]);first | done | omega | grind | (simp only [*]; done) | (simp [*]; done)))
  rintro ⟨i, l⟩ hinv
  dsimp only at hinv
  conv => whnf
  obtain ⟨hi, hj⟩ := hinv
  have htk := fun h => pathN_take (p := p) (i := i) h
  have hl : l.length = i := by rw [hj]; simp; omega
  have hr2 : l.length + [wordN (p.getD i [])].length ≤ 1073741824 := by simp; omega
  repeat' first|((first|refine Cnd.mk (fun h=>?_) (fun h=>?_)|refine Gd.mk (fun h=>?_))<;>(try simp [etas,elDef,-List.getD_eq_getElem?_getD] at h)<;>conv=>whnf)|((first|refine Obl.mk (by first|omega|rfl|exact inK_byte _|(simp only [inK,Int.toNat_natCast,etas,elDef]<;>first|omega|grind)|grind [inK]) ?_|refine OblG.mk (by ((conv=>whnf);(repeat (first|refine Bx.mk ?_|(intro h;(try simp [etas,elDef,-List.getD_eq_getElem?_getD] at h);conv=>whnf)));(first|omega|rfl|exact inK_byte _|(simp only [inK,Int.toNat_natCast,etas,elDef]<;>first|omega|grind)|grind [inK]))) ?_|refine And.intro ?_ ?_)<;>conv=>whnf)|exact True.intro|(intro;conv=>whnf)
  · exact ⟨(i + 1, l ++ [wordN (p.getD i [])]), [(900, 19)], [], ⟨by omega, by rw [htk (by omega), ← hj]⟩, by show p.length - (i + 1) < p.length - i; omega, by iterate 2 ((all_goals (conv=>whnf));(repeat' (first|exact trivial|rfl|(refine nilEq ?_;first|rfl|(simp only [*];done)|(simp [*];done)|grind)|apply And.intro|((first|apply intEq|apply boolEq|apply strEq|apply psEq|apply nilEq|apply arrEq);(try simp only [Int.toNat_natCast,etas,elDef]);first | done | omega | grind | (simp only [*]; done) | (simp [*]; done)))));(all_goals ((try simp only [Int.toNat_natCast,etas,elDef]);first | done | omega | grind | (simp only [*]; done) | (simp [*]; done))), (by exact sgOk_of (by rfl))⟩
  · exact leafV hK (by unfold pathN; rw [List.take_of_length_le h] at hj; rw [← hj]; rfl)
theorem s36 : (CtrOK Tryd.prog 36 (.pure F36) ∧ Callable Tryd.prog 36) := by
  refine pure_ok (E := E36) (mkE_cons s37 (mkE_nil tab_ok)) mix (O := O36) (F := F36) Tryd.func36 rfl (by rfl) (by kernel_rfl) (fun args o v h => ?_) (fun args o v h => ?_) (fun args o v h hbd hp K hK => ?_)
  · unfold F36 at h; split at h <;> cases h; first | trivial | (simp [v36, Scalar, Scalar2, Scalar1, stC, ndC, itC, chC, nwC])
  · unfold F36 at h; split at h <;> cases h; exact Nat.le_of_ble_eq_true rfl
  · unfold F36 at h; split at h
    case h_2 => cases h
    cases h
    exact a36 _ (by exact hbd) (hp _ rfl) K hK
noncomputable def c14 (o : Opn) (K : AV → List AV → Prop) : Prop :=
    Obl (opOk o = true) (K (.st (ndC (opN o))) [])
noncomputable def C14 : List AV → (AV → List AV → Prop) → Prop
  | [.st [.int .i64 o_0, .ps .str o_1, .ps .str o_2, .int .i64 o_3_0, .int .i64 o_3_1, .str o_3_2, .ps .str o_3_3, .ps .node o_3_4]], K => c14 ⟨o_0, o_1, o_2, ⟨o_3_0, o_3_1, o_3_2, o_3_3, o_3_4⟩⟩ K
  | _, _ => False
noncomputable def E14 : Ctx := mkE tab [(36, .pure F36), (37, .pure F37), (38, .pure F38), (39, .gen .ps C39)]
noncomputable def O14 : Nat → List DI := ordL [(1, [.q 1, .q 2, .q 3, .q 4, .q 5, .q 6, .q 7, .q 8, .q 9, .q 10, .q 11, .q 12, .q 13, .q 14, .l 15 [], .l 16 [], .a 0, .q 17, .l 18 []])]
theorem a14 (o : Opn) (hb : BdAs [.st (opC o)]) (K : AV → List AV → Prop) (h : c14 o K) : abody E14 O14 .ps Tryd.f14 (Tryd.f14.body.getD .skip) [.st (opC o)] K := by
  simp only [BdAs, BdA, BdL, BdC, MX, ndC, shC, itC, stC, opC, chC, nwC, flC, rqC, rsC, enc, List.cons_append, List.nil_append, and_true, true_and] at hb
  unfold c14 at h
  obtain ⟨ho, hK⟩ := h
  obtain ⟨h1, h2, h3, h4, h5, h6⟩ := opOk_facts ho
  have hs := validM_sm h4
  conv => whnf
  repeat' first|((first|refine Cnd.mk (fun h=>?_) (fun h=>?_)|refine Gd.mk (fun h=>?_))<;>(try simp [etas,elDef,-List.getD_eq_getElem?_getD] at h)<;>conv=>whnf)|((first|refine Obl.mk (by first|omega|rfl|exact inK_byte _|(simp only [inK,Int.toNat_natCast,etas,elDef,o36,m39]<;>first|omega|grind)|grind [inK,o36,m39]) ?_|refine OblG.mk (by ((conv=>whnf);(repeat (first|refine Bx.mk ?_|(intro h;(try simp [etas,elDef,-List.getD_eq_getElem?_getD] at h);conv=>whnf)));(first|omega|rfl|exact inK_byte _|(simp only [inK,Int.toNat_natCast,etas,elDef,o36,m39]<;>first|omega|grind)|grind [inK,o36,m39]))) ?_|refine And.intro ?_ ?_)<;>conv=>whnf)|exact True.intro|(intro;conv=>whnf)
  refine Obl.mk ⟨by omega, by simp; omega⟩ ?_
  conv => whnf
  repeat' first|((first|refine Cnd.mk (fun h=>?_) (fun h=>?_)|refine Gd.mk (fun h=>?_))<;>(try simp [etas,elDef,-List.getD_eq_getElem?_getD] at h)<;>conv=>whnf)|((first|refine Obl.mk (by first|omega|rfl|exact inK_byte _|(simp only [inK,Int.toNat_natCast,etas,elDef,o36,m39]<;>first|omega|grind)|grind [inK,o36,m39]) ?_|refine OblG.mk (by ((conv=>whnf);(repeat (first|refine Bx.mk ?_|(intro h;(try simp [etas,elDef,-List.getD_eq_getElem?_getD] at h);conv=>whnf)));(first|omega|rfl|exact inK_byte _|(simp only [inK,Int.toNat_natCast,etas,elDef,o36,m39]<;>first|omega|grind)|grind [inK,o36,m39]))) ?_|refine And.intro ?_ ?_)<;>conv=>whnf)|exact True.intro|(intro;conv=>whnf)
  exact leafV hK (by simp only [etas, elDef]; rw [words_at h1.1 h1.2]; rfl)
theorem s14 : (CtrOK Tryd.prog 14 (.gen .ps C14) ∧ Callable Tryd.prog 14) := by
  refine gen_ok (E := E14) (mkE_cons s36 (mkE_cons s37 (mkE_cons s38 (mkE_cons s39 (mkE_nil tab_ok))))) mix (O := O14) (C := C14) (own := .ps) Tryd.func14 rfl (by rfl) (by kernel_rfl) (fun args K h hbd => ?_)
  unfold C14 at h; split at h
  case h_2 => exact h.elim
  exact ⟨Nat.le_of_ble_eq_true rfl, a14 ⟨_, _, _, ⟨_, _, _, _, _⟩⟩ (by exact hbd) _ h⟩
set_option maxHeartbeats 4000000
end Go.Rs

