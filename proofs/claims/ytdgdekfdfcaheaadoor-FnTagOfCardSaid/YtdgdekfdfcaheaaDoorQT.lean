import Derived.Test.YtdgdekfdfcaheaaDoorPA
import Derived.Test.YtdgdekfdfcaheaaDoorPD
import Derived.Test.YtdgdekfdfcaheaaDoorPC
import Derived.Test.YtdgdekfdfcaheaaDoorEA
import Derived.Test.YtdgdekfdfcaheaaDoorCL
import Derived.Test.YtdgdekfdfcaheaaDoorCG
import Derived.Test.YtdgdekfdfcaheaaDoorMB
import Derived.Test.YtdgdekfdfcaheaaDoorDelB
import Derived.Test.YtdgdekfdfcaheaaDoorCT
import Derived.Test.YtdgdekfdfcaheaaDoorCP
import Derived.Test.YtdgdekfdfcaheaaDoorMF
import Derived.Test.YtdgdekfdfcaheaaDoorCC
import Derived.Test.YtdgdekfdfcaheaaDoorMA
import Derived.Test.YtdgdekfdfcaheaaDoorFG
import Derived.Test.YtdgdekfdfcaheaaDoorCA
import Derived.Test.YtdgdekfdfcaheaaDoorMJ
set_option linter.all false
set_option linter.unusedSimpArgs false
set_option linter.unusedVariables false
namespace Go.Rs
open Go.Proofs Go.RowKit
set_option maxRecDepth 100000
set_option maxHeartbeats 4000000
theorem ia_int' {γ : Nat → Nat} {w : World} {S x k n} (h : IA γ w S x (.int k n)) : S = [] ∧ x = .int k n := by
  cases h with
  | val h => cases h with
    | cell h => cases h with
      | per h _ => cases h; exact ⟨rfl, rfl⟩
noncomputable def v55 (a : Bs) (c : Int) : AV := .int .i64 (Go.Lib.indexByte a c.toNat.toUInt8)
noncomputable def F55 : List AV → QR
  | [.str a, .int .u8 c] => some (none, v55 a c)
  | _ => none
theorem kidx (a : Bs) (c : Int) (w : World) :
    Calls Tryd.prog 55 #[.string ⟨a.toArray⟩, .int .u8 c] w fun e w' => e = .returned (.int .i64 (Go.Lib.indexByte a c.toNat.toUInt8)) ∧ w' = w := by
  go_enter Tryd.func55, Tryd.ntmps55
  go_wp2
  rw [run_callFunc_extern Tryd.func68 (by kernel_rfl) (by kernel_rfl) (by kernel_rfl) (e := Extern.BytealgIndexByte.indexByte) (by kernel_rfl), Go.Lib.run_indexByteString]
  simp only [Result.andThen]
  rw [Oper.upon_value]
  go_wp2
  go_ret
  exact ⟨rfl, rfl⟩
theorem s55 : CtrOK Tryd.prog 55 (.pure F55) ∧ Callable Tryd.prog 55 := by
  refine ⟨⟨fun args o v h => ?_, fun args K hK w γ S xs hi hn hf ht hs => ?_⟩, callable Tryd.func55 rfl (by rfl)⟩
  · unfold F55 at h; split at h <;> cases h; trivial
  · unfold pureC F55 at hK
    split at hK
    case h_2 => exact hK.elim
    rename_i O v hq
    split at hq
    case h_2 => cases hq
    rename_i a c
    cases hq
    cases hi with
    | cons h1 h2 =>
      cases h2 with
      | cons h2 h3 =>
        cases h3
        obtain ⟨rfl, rfl⟩ := ia_str h1
        obtain ⟨rfl, rfl⟩ := ia_int' h2
        refine Calls.mono (kidx _ _ w) ?_
        rintro e w' ⟨rfl, rfl⟩
        exact ⟨_, [], _, γ, [], [], hK.2, rfl, .one (.cell (.per (.int _ _) rfl)), .nil, by simp, fr_refl hf, by simp⟩
noncomputable def v42 (a : Bs) (c : Int) : AV := .int .i64 (Go.Lib.indexByte a c.toNat.toUInt8)
noncomputable def o42 (a : Bs) (c : Int) : Prop := True
noncomputable def F42 : List AV → QR
  | [.str a, .int .u8 c] => some (none, v42 a c)
  | _ => none
noncomputable def E42 : Ctx := mkE tab [(55, .pure F55)]
noncomputable def O42 : Nat → List DI := ordL []
theorem a42 (a : Bs) (c : Int) (hb : BdAs [.str a, .int .u8 c]) (ho : o42 a c) (K : AV → List AV → Prop) (hK : K (v42 a c) []) : abody E42 O42 .ps Tryd.f42 (Tryd.f42.body.getD .skip) [.str a, .int .u8 c] K := by
  simp only [BdAs, BdA, BdL, BdC, MX, ndC, shC, itC, stC, opC, chC, nwC, flC, rqC, rsC, enc, List.cons_append, List.nil_append, and_true, true_and] at hb
  unfold v42 at hK
  conv => whnf
  repeat' first|((first|refine Cnd.mk (fun h=>?_) (fun h=>?_)|refine Gd.mk (fun h=>?_))<;>(try simp [etas,elDef,-List.getD_eq_getElem?_getD] at h)<;>conv=>whnf)|((first|refine Obl.mk (by first|omega|rfl|exact inK_byte _|(simp only [inK,Int.toNat_natCast,etas,elDef]<;>first|omega|grind)|grind [inK]) ?_|refine OblG.mk (by ((conv=>whnf);(repeat (first|refine Bx.mk ?_|(intro h;(try simp [etas,elDef,-List.getD_eq_getElem?_getD] at h);conv=>whnf)));(first|omega|rfl|exact inK_byte _|(simp only [inK,Int.toNat_natCast,etas,elDef]<;>first|omega|grind)|grind [inK]))) ?_|refine And.intro ?_ ?_)<;>conv=>whnf)|exact True.intro|(intro;conv=>whnf)
  exact hK
theorem s42 : (CtrOK Tryd.prog 42 (.pure F42) ∧ Callable Tryd.prog 42) := by
  refine pure_ok (E := E42) (mkE_cons s55 (mkE_nil tab_ok)) mix (O := O42) (F := F42) Tryd.func42 rfl (by rfl) (by kernel_rfl) (fun args o v h => ?_) (fun args o v h => ?_) (fun args o v h hbd hp K hK => ?_)
  · unfold F42 at h; split at h <;> cases h; first | trivial | (simp [v42, Scalar, Scalar2, Scalar1, stC, ndC, itC, chC, nwC])
  · unfold F42 at h; split at h <;> cases h; exact Nat.le_of_ble_eq_true rfl
  · unfold F42 at h; split at h
    case h_2 => cases h
    cases h
    exact a42 _ _ (by exact hbd) trivial K hK
noncomputable def v23 (b : Bs) : AV := .bool (isSumM b)
noncomputable def o23 (b : Bs) : Prop := True
noncomputable def F23 : List AV → QR
  | [.str b] => some (none, v23 b)
  | _ => none
noncomputable def E23 : Ctx := mkE tab [(42, .pure F42)]
noncomputable def O23 : Nat → List DI := ordL []
theorem a23 (b : Bs) (hb : BdAs [.str b]) (ho : o23 b) (K : AV → List AV → Prop) (hK : K (v23 b) []) : abody E23 O23 .ps Tryd.f23 (Tryd.f23.body.getD .skip) [.str b] K := by
  simp only [BdAs, BdA, BdL, BdC, MX, ndC, shC, itC, stC, opC, chC, nwC, flC, rqC, rsC, enc, List.cons_append, List.nil_append, and_true, true_and] at hb
  unfold v23 at hK
  conv => whnf
  repeat' first|((first|refine Cnd.mk (fun h=>?_) (fun h=>?_)|refine Gd.mk (fun h=>?_))<;>(try simp [etas,elDef,-List.getD_eq_getElem?_getD] at h)<;>conv=>whnf)|((first|refine Obl.mk (by first|omega|rfl|exact inK_byte _|(simp only [inK,Int.toNat_natCast,etas,elDef]<;>first|omega|grind)|grind [inK]) ?_|refine OblG.mk (by ((conv=>whnf);(repeat (first|refine Bx.mk ?_|(intro h;(try simp [etas,elDef,-List.getD_eq_getElem?_getD] at h);conv=>whnf)));(first|omega|rfl|exact inK_byte _|(simp only [inK,Int.toNat_natCast,etas,elDef]<;>first|omega|grind)|grind [inK]))) ?_|refine And.intro ?_ ?_)<;>conv=>whnf)|exact True.intro|(intro;conv=>whnf)
  · exact leafB hK (by unfold isSumM; grind)
  refine aloop_intro Nat (fun k => k ≤ b.length ∧ ∀ j, j < k → isHex (b.getD j 0) = true) (fun k => b.length - k) (fun k => [(3, .int .i64 k)]) (fun _ => []) [] 0 [] [] ⟨by simp, by simp⟩ ?_ (by exact sgOk_of (by rfl)) ?_
  · iterate 2 ((all_goals (conv=>whnf));(repeat' (first|exact trivial|rfl|(refine nilEq ?_;first|rfl|(simp only [*];done)|(simp [*];done)|grind)|apply And.intro|((first|apply intEq|apply boolEq|apply strEq|apply psEq|apply nilEq|apply arrEq);(try simp only [Int.toNat_natCast,etas,elDef]);first | done | omega | grind | (simp only [*]; done) | (simp [*]; done)))));(all_goals ((try simp only [Int.toNat_natCast,etas,elDef]);first | done | omega | grind | (simp only [*]; done) | (simp [*]; done)))
  rintro k ⟨hk, hj⟩
  conv => whnf
  repeat' first|((first|refine Cnd.mk (fun h=>?_) (fun h=>?_)|refine Gd.mk (fun h=>?_))<;>(try simp [etas,elDef,-List.getD_eq_getElem?_getD] at h)<;>conv=>whnf)|((first|refine Obl.mk (by first|omega|rfl|exact inK_byte _|(simp only [inK,Int.toNat_natCast,etas,elDef]<;>first|omega|grind)|grind [inK]) ?_|refine OblG.mk (by ((conv=>whnf);(repeat (first|refine Bx.mk ?_|(intro h;(try simp [etas,elDef,-List.getD_eq_getElem?_getD] at h);conv=>whnf)));(first|omega|rfl|exact inK_byte _|(simp only [inK,Int.toNat_natCast,etas,elDef]<;>first|omega|grind)|grind [inK]))) ?_|refine And.intro ?_ ?_)<;>conv=>whnf)|exact True.intro|(intro;conv=>whnf)
  · have h9 : isHex (b.getD k 0) = false := by unfold isHex; exact decide_eq_false (by unfold hexDigits; omega)
    exact leafB hK (by unfold isSumM; rw [all_no (by omega) h9]; simp)
  · have h9 : isHex (b.getD k 0) = true := by unfold isHex; exact decide_eq_true (by unfold hexDigits; omega)
    refine ⟨k + 1, [], [], ⟨by omega, fun j hjl => ?_⟩, by omega, by iterate 2 ((all_goals (conv=>whnf));(repeat' (first|exact trivial|rfl|(refine nilEq ?_;first|rfl|(simp only [*];done)|(simp [*];done)|grind)|apply And.intro|((first|apply intEq|apply boolEq|apply strEq|apply psEq|apply nilEq|apply arrEq);(try simp only [Int.toNat_natCast,etas,elDef]);first | done | omega | grind | (simp only [*]; done) | (simp [*]; done)))));(all_goals ((try simp only [Int.toNat_natCast,etas,elDef]);first | done | omega | grind | (simp only [*]; done) | (simp [*]; done))), (by exact sgOk_of (by rfl))⟩
    rcases Nat.lt_succ_iff_lt_or_eq.1 hjl with h2 | h2
    · exact hj j h2
    · rw [h2]; exact h9
  · have h9 : b.all isHex = true := (all_iff b _).2 fun j hjl => hj j (by omega)
    exact leafB hK (by unfold isSumM; rw [h9]; simp; omega)
theorem s23 : (CtrOK Tryd.prog 23 (.pure F23) ∧ Callable Tryd.prog 23) := by
  refine pure_ok (E := E23) (mkE_cons s42 (mkE_nil tab_ok)) mix (O := O23) (F := F23) Tryd.func23 rfl (by rfl) (by kernel_rfl) (fun args o v h => ?_) (fun args o v h => ?_) (fun args o v h hbd hp K hK => ?_)
  · unfold F23 at h; split at h <;> cases h; first | trivial | (simp [v23, Scalar, Scalar2, Scalar1, stC, ndC, itC, chC, nwC])
  · unfold F23 at h; split at h <;> cases h; exact Nat.le_of_ble_eq_true rfl
  · unfold F23 at h; split at h
    case h_2 => cases h
    cases h
    exact a23 _ (by exact hbd) trivial K hK
noncomputable def v22 (l : List Bs) : AV := .bool (areTagsM l)
noncomputable def o22 (l : List Bs) : Prop := True
noncomputable def F22 : List AV → QR
  | [.ps .str l] => some (none, v22 l)
  | _ => none
noncomputable def E22 : Ctx := mkE tab [(23, .pure F23)]
noncomputable def O22 : Nat → List DI := ordL []
theorem a22 (l : List Bs) (hb : BdAs [.ps .str l]) (ho : o22 l) (K : AV → List AV → Prop) (hK : K (v22 l) []) : abody E22 O22 .ps Tryd.f22 (Tryd.f22.body.getD .skip) [.ps .str l] K := by
  simp only [BdAs, BdA, BdL, BdC, MX, ndC, shC, itC, stC, opC, chC, nwC, flC, rqC, rsC, enc, List.cons_append, List.nil_append, and_true, true_and] at hb
  unfold v22 at hK
  conv => whnf
  repeat' first|((first|refine Cnd.mk (fun h=>?_) (fun h=>?_)|refine Gd.mk (fun h=>?_))<;>(try simp [etas,elDef,-List.getD_eq_getElem?_getD] at h)<;>conv=>whnf)|((first|refine Obl.mk (by first|omega|rfl|exact inK_byte _|(simp only [inK,Int.toNat_natCast,etas,elDef]<;>first|omega|grind)|grind [inK]) ?_|refine OblG.mk (by ((conv=>whnf);(repeat (first|refine Bx.mk ?_|(intro h;(try simp [etas,elDef,-List.getD_eq_getElem?_getD] at h);conv=>whnf)));(first|omega|rfl|exact inK_byte _|(simp only [inK,Int.toNat_natCast,etas,elDef]<;>first|omega|grind)|grind [inK]))) ?_|refine And.intro ?_ ?_)<;>conv=>whnf)|exact True.intro|(intro;conv=>whnf)
  · exact leafB hK (by unfold areTagsM; grind)
  refine aloop_intro Nat (fun k => k ≤ l.length ∧ ∀ j, j < k → tagOk (l.getD j []) = true) (fun k => l.length - k) (fun k => [(10, .int .i64 k)]) (fun _ => []) [] 0 [] [] ⟨by simp, by simp⟩ ?_ (by exact sgOk_of (by rfl)) ?_
  · iterate 2 ((all_goals (conv=>whnf));(repeat' (first|exact trivial|rfl|(refine nilEq ?_;first|rfl|(simp only [*];done)|(simp [*];done)|grind)|apply And.intro|((first|apply intEq|apply boolEq|apply strEq|apply psEq|apply nilEq|apply arrEq);(try simp only [Int.toNat_natCast,etas,elDef]);first | done | omega | grind | (simp only [*]; done) | (simp [*]; done)))));(all_goals ((try simp only [Int.toNat_natCast,etas,elDef]);first | done | omega | grind | (simp only [*]; done) | (simp [*]; done)))
  rintro k ⟨hk, hj⟩
  conv => whnf
  repeat' first|((first|refine Cnd.mk (fun h=>?_) (fun h=>?_)|refine Gd.mk (fun h=>?_))<;>(try simp [etas,elDef,-List.getD_eq_getElem?_getD] at h)<;>conv=>whnf)|((first|refine Obl.mk (by first|omega|rfl|exact inK_byte _|(simp only [inK,Int.toNat_natCast,etas,elDef]<;>first|omega|grind)|grind [inK]) ?_|refine OblG.mk (by ((conv=>whnf);(repeat (first|refine Bx.mk ?_|(intro h;(try simp [etas,elDef,-List.getD_eq_getElem?_getD] at h);conv=>whnf)));(first|omega|rfl|exact inK_byte _|(simp only [inK,Int.toNat_natCast,etas,elDef]<;>first|omega|grind)|grind [inK]))) ?_|refine And.intro ?_ ?_)<;>conv=>whnf)|exact True.intro|(intro;conv=>whnf)
  · have h9 : tagOk (l.getD k []) = false := by unfold tagOk; rw [decide_eq_false (of_decide_eq_false h.1), h.2]; rfl
    refine leafB hK ?_
    unfold areTagsM
    rw [show l.all tagOk = false from Bool.eq_false_iff.2 fun e => by rw [List.all_eq_true.1 e _ (getD_mem (d := ([] : Bs)) (by omega))] at h9; cases h9]
    simp
  · have h9 : tagOk (l.getD k []) = true := by
      unfold tagOk
      by_cases e : l.getD k [] = [42]
      · rw [decide_eq_true e]; rfl
      · rw [h (decide_eq_false e)]; simp
    refine ⟨k + 1, [], [], ⟨by omega, fun j hjl => ?_⟩, by omega, by iterate 2 ((all_goals (conv=>whnf));(repeat' (first|exact trivial|rfl|(refine nilEq ?_;first|rfl|(simp only [*];done)|(simp [*];done)|grind)|apply And.intro|((first|apply intEq|apply boolEq|apply strEq|apply psEq|apply nilEq|apply arrEq);(try simp only [Int.toNat_natCast,etas,elDef]);first | done | omega | grind | (simp only [*]; done) | (simp [*]; done)))));(all_goals ((try simp only [Int.toNat_natCast,etas,elDef]);first | done | omega | grind | (simp only [*]; done) | (simp [*]; done))), (by exact sgOk_of (by rfl))⟩
    rcases Nat.lt_succ_iff_lt_or_eq.1 hjl with h2 | h2
    · exact hj j h2
    · rw [h2]; exact h9
  · have h9 : l.all tagOk = true := List.all_eq_true.2 fun x hx => by
      obtain ⟨j, hjl, rfl⟩ := List.getElem_of_mem hx
      have := hj j (by omega)
      rwa [getD_get hjl] at this
    exact leafB hK (by unfold areTagsM; rw [h9]; simp; omega)
theorem s22 : (CtrOK Tryd.prog 22 (.pure F22) ∧ Callable Tryd.prog 22) := by
  refine pure_ok (E := E22) (mkE_cons s23 (mkE_nil tab_ok)) mix (O := O22) (F := F22) Tryd.func22 rfl (by rfl) (by kernel_rfl) (fun args o v h => ?_) (fun args o v h => ?_) (fun args o v h hbd hp K hK => ?_)
  · unfold F22 at h; split at h <;> cases h; first | trivial | (simp [v22, Scalar, Scalar2, Scalar1, stC, ndC, itC, chC, nwC])
  · unfold F22 at h; split at h <;> cases h; exact Nat.le_of_ble_eq_true rfl
  · unfold F22 at h; split at h
    case h_2 => cases h
    cases h
    exact a22 _ (by exact hbd) trivial K hK
noncomputable def v56 (l : List Bs) (b : Bs) : AV := .int .i64 (idxM l b)
noncomputable def o56 (l : List Bs) (b : Bs) : Prop := True
noncomputable def F56 : List AV → QR
  | [.ps .str l, .str b] => some (none, v56 l b)
  | _ => none
noncomputable def E56 : Ctx := mkE tab []
noncomputable def O56 : Nat → List DI := ordL []
theorem a56 (l : List Bs) (b : Bs) (hb : BdAs [.ps .str l, .str b]) (ho : o56 l b) (K : AV → List AV → Prop) (hK : K (v56 l b) []) : abody E56 O56 .ps Tryd.f56 (Tryd.f56.body.getD .skip) [.ps .str l, .str b] K := by
  simp only [BdAs, BdA, BdL, BdC, MX, ndC, shC, itC, stC, opC, chC, nwC, flC, rqC, rsC, enc, List.cons_append, List.nil_append, and_true, true_and] at hb
  unfold v56 at hK
  conv => whnf
  repeat' first|((first|refine Cnd.mk (fun h=>?_) (fun h=>?_)|refine Gd.mk (fun h=>?_))<;>(try simp [etas,elDef,-List.getD_eq_getElem?_getD] at h)<;>conv=>whnf)|((first|refine Obl.mk (by first|omega|rfl|exact inK_byte _|(simp only [inK,Int.toNat_natCast,etas,elDef]<;>first|omega|grind)|grind [inK]) ?_|refine OblG.mk (by ((conv=>whnf);(repeat (first|refine Bx.mk ?_|(intro h;(try simp [etas,elDef,-List.getD_eq_getElem?_getD] at h);conv=>whnf)));(first|omega|rfl|exact inK_byte _|(simp only [inK,Int.toNat_natCast,etas,elDef]<;>first|omega|grind)|grind [inK]))) ?_|refine And.intro ?_ ?_)<;>conv=>whnf)|exact True.intro|(intro;conv=>whnf)
  refine aloop_intro Nat (fun k => k ≤ l.length ∧ ∀ j, j < k → l.getD j [] ≠ b) (fun k => l.length - k) (fun k => [(8, .int .i64 k)]) (fun _ => []) [] 0 [] [] ⟨by simp, by simp⟩ ?_ (by exact sgOk_of (by rfl)) ?_
  · iterate 2 ((all_goals (conv=>whnf));(repeat' (first|exact trivial|rfl|(refine nilEq ?_;first|rfl|(simp only [*];done)|(simp [*];done)|grind)|apply And.intro|((first|apply intEq|apply boolEq|apply strEq|apply psEq|apply nilEq|apply arrEq);(try simp only [Int.toNat_natCast,etas,elDef]);first | done | omega | grind | (simp only [*]; done) | (simp [*]; done)))));(all_goals ((try simp only [Int.toNat_natCast,etas,elDef]);first | done | omega | grind | (simp only [*]; done) | (simp [*]; done)))
  rintro k ⟨hk, hj⟩
  conv => whnf
  repeat' first|((first|refine Cnd.mk (fun h=>?_) (fun h=>?_)|refine Gd.mk (fun h=>?_))<;>(try simp [etas,elDef,-List.getD_eq_getElem?_getD] at h)<;>conv=>whnf)|((first|refine Obl.mk (by first|omega|rfl|exact inK_byte _|(simp only [inK,Int.toNat_natCast,etas,elDef]<;>first|omega|grind)|grind [inK]) ?_|refine OblG.mk (by ((conv=>whnf);(repeat (first|refine Bx.mk ?_|(intro h;(try simp [etas,elDef,-List.getD_eq_getElem?_getD] at h);conv=>whnf)));(first|omega|rfl|exact inK_byte _|(simp only [inK,Int.toNat_natCast,etas,elDef]<;>first|omega|grind)|grind [inK]))) ?_|refine And.intro ?_ ?_)<;>conv=>whnf)|exact True.intro|(intro;conv=>whnf)
  · exact leafI hK (idxM_at (by omega) hj (of_decide_eq_true h).symm)
  · refine ⟨k + 1, [], [], ⟨by omega, fun j hjl => ?_⟩, by omega, by iterate 2 ((all_goals (conv=>whnf));(repeat' (first|exact trivial|rfl|(refine nilEq ?_;first|rfl|(simp only [*];done)|(simp [*];done)|grind)|apply And.intro|((first|apply intEq|apply boolEq|apply strEq|apply psEq|apply nilEq|apply arrEq);(try simp only [Int.toNat_natCast,etas,elDef]);first | done | omega | grind | (simp only [*]; done) | (simp [*]; done)))));(all_goals ((try simp only [Int.toNat_natCast,etas,elDef]);first | done | omega | grind | (simp only [*]; done) | (simp [*]; done))), (by exact sgOk_of (by rfl))⟩
    rcases Nat.lt_succ_iff_lt_or_eq.1 hjl with h2 | h2
    · exact hj j h2
    · rw [h2]; exact fun e => of_decide_eq_false h e.symm
  · exact leafI hK (idxM_none fun j hjl => hj j (by omega))
theorem s56 : (CtrOK Tryd.prog 56 (.pure F56) ∧ Callable Tryd.prog 56) := by
  refine pure_ok (E := E56) (mkE_nil tab_ok) mix (O := O56) (F := F56) Tryd.func56 rfl (by rfl) (by kernel_rfl) (fun args o v h => ?_) (fun args o v h => ?_) (fun args o v h hbd hp K hK => ?_)
  · unfold F56 at h; split at h <;> cases h; first | trivial | (simp [v56, Scalar, Scalar2, Scalar1, stC, ndC, itC, chC, nwC])
  · unfold F56 at h; split at h <;> cases h; exact Nat.le_of_ble_eq_true rfl
  · unfold F56 at h; split at h
    case h_2 => cases h
    cases h
    exact a56 _ _ (by exact hbd) trivial K hK
noncomputable def v43 (l : List Bs) (b : Bs) : AV := .bool (decide (b ∈ l))
noncomputable def o43 (l : List Bs) (b : Bs) : Prop := True
noncomputable def F43 : List AV → QR
  | [.ps .str l, .str b] => some (none, v43 l b)
  | _ => none
noncomputable def E43 : Ctx := mkE tab [(56, .pure F56)]
noncomputable def O43 : Nat → List DI := ordL []
theorem a43 (l : List Bs) (b : Bs) (hb : BdAs [.ps .str l, .str b]) (ho : o43 l b) (K : AV → List AV → Prop) (hK : K (v43 l b) []) : abody E43 O43 .ps Tryd.f43 (Tryd.f43.body.getD .skip) [.ps .str l, .str b] K := by
  simp only [BdAs, BdA, BdL, BdC, MX, ndC, shC, itC, stC, opC, chC, nwC, flC, rqC, rsC, enc, List.cons_append, List.nil_append, and_true, true_and] at hb
  unfold v43 at hK
  conv => whnf
  repeat' first|((first|refine Cnd.mk (fun h=>?_) (fun h=>?_)|refine Gd.mk (fun h=>?_))<;>(try simp [etas,elDef,-List.getD_eq_getElem?_getD] at h)<;>conv=>whnf)|((first|refine Obl.mk (by first|omega|rfl|exact inK_byte _|(simp only [inK,Int.toNat_natCast,etas,elDef]<;>first|omega|grind)|grind [inK]) ?_|refine OblG.mk (by ((conv=>whnf);(repeat (first|refine Bx.mk ?_|(intro h;(try simp [etas,elDef,-List.getD_eq_getElem?_getD] at h);conv=>whnf)));(first|omega|rfl|exact inK_byte _|(simp only [inK,Int.toNat_natCast,etas,elDef]<;>first|omega|grind)|grind [inK]))) ?_|refine And.intro ?_ ?_)<;>conv=>whnf)|exact True.intro|(intro;conv=>whnf)
  exact leafB hK (by rw [idxM_pos])
theorem s43 : (CtrOK Tryd.prog 43 (.pure F43) ∧ Callable Tryd.prog 43) := by
  refine pure_ok (E := E43) (mkE_cons s56 (mkE_nil tab_ok)) mix (O := O43) (F := F43) Tryd.func43 rfl (by rfl) (by kernel_rfl) (fun args o v h => ?_) (fun args o v h => ?_) (fun args o v h hbd hp K hK => ?_)
  · unfold F43 at h; split at h <;> cases h; first | trivial | (simp [v43, Scalar, Scalar2, Scalar1, stC, ndC, itC, chC, nwC])
  · unfold F43 at h; split at h <;> cases h; exact Nat.le_of_ble_eq_true rfl
  · unfold F43 at h; split at h
    case h_2 => cases h
    cases h
    exact a43 _ _ (by exact hbd) trivial K hK
noncomputable def v24 (l : List Bs) (b : Bs) : AV := .bool (namesTagM l b)
noncomputable def o24 (l : List Bs) (b : Bs) : Prop := True
noncomputable def F24 : List AV → QR
  | [.ps .str l, .str b] => some (none, v24 l b)
  | _ => none
noncomputable def E24 : Ctx := mkE tab [(43, .pure F43)]
noncomputable def O24 : Nat → List DI := ordL []
theorem a24 (l : List Bs) (b : Bs) (hb : BdAs [.ps .str l, .str b]) (ho : o24 l b) (K : AV → List AV → Prop) (hK : K (v24 l b) []) : abody E24 O24 .ps Tryd.f24 (Tryd.f24.body.getD .skip) [.ps .str l, .str b] K := by
  simp only [BdAs, BdA, BdL, BdC, MX, ndC, shC, itC, stC, opC, chC, nwC, flC, rqC, rsC, enc, List.cons_append, List.nil_append, and_true, true_and] at hb
  unfold v24 at hK
  conv => whnf
  repeat' first|((first|refine Cnd.mk (fun h=>?_) (fun h=>?_)|refine Gd.mk (fun h=>?_))<;>(try simp [etas,elDef,-List.getD_eq_getElem?_getD] at h)<;>conv=>whnf)|((first|refine Obl.mk (by first|omega|rfl|exact inK_byte _|(simp only [inK,Int.toNat_natCast,etas,elDef]<;>first|omega|grind)|grind [inK]) ?_|refine OblG.mk (by ((conv=>whnf);(repeat (first|refine Bx.mk ?_|(intro h;(try simp [etas,elDef,-List.getD_eq_getElem?_getD] at h);conv=>whnf)));(first|omega|rfl|exact inK_byte _|(simp only [inK,Int.toNat_natCast,etas,elDef]<;>first|omega|grind)|grind [inK]))) ?_|refine And.intro ?_ ?_)<;>conv=>whnf)|exact True.intro|(intro;conv=>whnf)
  exact leafB hK rfl
theorem s24 : (CtrOK Tryd.prog 24 (.pure F24) ∧ Callable Tryd.prog 24) := by
  refine pure_ok (E := E24) (mkE_cons s43 (mkE_nil tab_ok)) mix (O := O24) (F := F24) Tryd.func24 rfl (by rfl) (by kernel_rfl) (fun args o v h => ?_) (fun args o v h => ?_) (fun args o v h hbd hp K hK => ?_)
  · unfold F24 at h; split at h <;> cases h; first | trivial | (simp [v24, Scalar, Scalar2, Scalar1, stC, ndC, itC, chC, nwC])
  · unfold F24 at h; split at h <;> cases h; exact Nat.le_of_ble_eq_true rfl
  · unfold F24 at h; split at h
    case h_2 => cases h
    cases h
    exact a24 _ _ (by exact hbd) trivial K hK
noncomputable def v9 (l : List Bs) (m : List Bs) (t : Bs) (f : Bool) : AV := .int .i64 (checkTagsM l m t f)
noncomputable def o9 (l : List Bs) (m : List Bs) (t : Bs) (f : Bool) : Prop := True
noncomputable def F9 : List AV → QR
  | [.ps .str l, .ps .str m, .str t, .bool f] => some (none, v9 l m t f)
  | _ => none
noncomputable def E9 : Ctx := mkE tab [(22, .pure F22), (23, .pure F23), (24, .pure F24)]
noncomputable def O9 : Nat → List DI := ordL []
theorem a9 (l : List Bs) (m : List Bs) (t : Bs) (f : Bool) (hb : BdAs [.ps .str l, .ps .str m, .str t, .bool f]) (ho : o9 l m t f) (K : AV → List AV → Prop) (hK : K (v9 l m t f) []) : abody E9 O9 .ps Tryd.f9 (Tryd.f9.body.getD .skip) [.ps .str l, .ps .str m, .str t, .bool f] K := by
  simp only [BdAs, BdA, BdL, BdC, MX, ndC, shC, itC, stC, opC, chC, nwC, flC, rqC, rsC, enc, List.cons_append, List.nil_append, and_true, true_and] at hb
  unfold v9 at hK
  conv => whnf
  repeat' first|((first|refine Cnd.mk (fun h=>?_) (fun h=>?_)|refine Gd.mk (fun h=>?_))<;>(try simp [etas,elDef,-List.getD_eq_getElem?_getD] at h)<;>conv=>whnf)|((first|refine Obl.mk (by first|omega|rfl|exact inK_byte _|(simp only [inK,Int.toNat_natCast,etas,elDef]<;>first|omega|grind)|grind [inK]) ?_|refine OblG.mk (by ((conv=>whnf);(repeat (first|refine Bx.mk ?_|(intro h;(try simp [etas,elDef,-List.getD_eq_getElem?_getD] at h);conv=>whnf)));(first|omega|rfl|exact inK_byte _|(simp only [inK,Int.toNat_natCast,etas,elDef]<;>first|omega|grind)|grind [inK]))) ?_|refine And.intro ?_ ?_)<;>conv=>whnf)|exact True.intro|(intro;conv=>whnf)
  all_goals refine leafI hK ?_
  all_goals unfold checkTagsM
  all_goals grind
theorem s9 : (CtrOK Tryd.prog 9 (.pure F9) ∧ Callable Tryd.prog 9) := by
  refine pure_ok (E := E9) (mkE_cons s22 (mkE_cons s23 (mkE_cons s24 (mkE_nil tab_ok)))) mix (O := O9) (F := F9) Tryd.func9 rfl (by rfl) (by kernel_rfl) (fun args o v h => ?_) (fun args o v h => ?_) (fun args o v h hbd hp K hK => ?_)
  · unfold F9 at h; split at h <;> cases h; first | trivial | (simp [v9, Scalar, Scalar2, Scalar1, stC, ndC, itC, chC, nwC])
  · unfold F9 at h; split at h <;> cases h; exact Nat.le_of_ble_eq_true rfl
  · unfold F9 at h; split at h
    case h_2 => cases h
    cases h
    exact a9 _ _ _ _ (by exact hbd) trivial K hK
noncomputable def v16 (b : Bs) : AV := .int .i64 (sumM b)
noncomputable def o16 (b : Bs) : Prop := b.length ≤ 1000000
noncomputable def F16 : List AV → QR
  | [.str b] => some (some (o16 b), v16 b)
  | _ => none
noncomputable def E16 : Ctx := mkE tab []
noncomputable def O16 : Nat → List DI := ordL []
theorem a16 (b : Bs) (hb : BdAs [.str b]) (ho : o16 b) (K : AV → List AV → Prop) (hK : K (v16 b) []) : abody E16 O16 .ps Tryd.f16 (Tryd.f16.body.getD .skip) [.str b] K := by
  simp only [BdAs, BdA, BdL, BdC, MX, ndC, shC, itC, stC, opC, chC, nwC, flC, rqC, rsC, enc, List.cons_append, List.nil_append, and_true, true_and] at hb
  unfold o16 at ho
  unfold v16 at hK
  have e0 := sumTo_zero b
  conv => whnf
  refine aloop_intro Nat (fun k => k ≤ b.length) (fun k => b.length - k) (fun k => [(3, .int .i64 (sumTo b k)), (4, .int .i64 k)]) (fun _ => []) [] 0 [] [] (by simp) ?_ (by exact sgOk_of (by rfl)) ?_
  · iterate 2 ((all_goals (conv=>whnf));(repeat' (first|exact trivial|rfl|(refine nilEq ?_;first|rfl|(simp only [*];done)|(simp [*];done)|grind)|apply And.intro|((first|apply intEq|apply boolEq|apply strEq|apply psEq|apply nilEq|apply arrEq);(try simp only [Int.toNat_natCast,etas,elDef]);first | done | omega | grind | (simp only [*]; done) | (simp [*]; done)))));(all_goals ((try simp only [Int.toNat_natCast,etas,elDef]);first | done | omega | grind | (simp only [*]; done) | (simp [*]; done)))
  rintro k hk
  have h1 := sumTo_bound b k hk
  have h2 := fun h => sumTo_succ (b := b) (i := k) h
  have h3 := UInt8.toNat_lt (b.getD k 0)
  conv => whnf
  repeat' first|((first|refine Cnd.mk (fun h=>?_) (fun h=>?_)|refine Gd.mk (fun h=>?_))<;>(try simp [etas,elDef,-List.getD_eq_getElem?_getD] at h)<;>conv=>whnf)|((first|refine Obl.mk (by first|omega|rfl|exact inK_byte _|(simp only [inK,Int.toNat_natCast,etas,elDef]<;>first|omega|grind)|grind [inK]) ?_|refine OblG.mk (by ((conv=>whnf);(repeat (first|refine Bx.mk ?_|(intro h;(try simp [etas,elDef,-List.getD_eq_getElem?_getD] at h);conv=>whnf)));(first|omega|rfl|exact inK_byte _|(simp only [inK,Int.toNat_natCast,etas,elDef]<;>first|omega|grind)|grind [inK]))) ?_|refine And.intro ?_ ?_)<;>conv=>whnf)|exact True.intro|(intro;conv=>whnf)
  · exact ⟨k + 1, [], [], by omega, by omega, by iterate 2 ((all_goals (conv=>whnf));(repeat' (first|exact trivial|rfl|(refine nilEq ?_;first|rfl|(simp only [*];done)|(simp [*];done)|grind)|apply And.intro|((first|apply intEq|apply boolEq|apply strEq|apply psEq|apply nilEq|apply arrEq);(try simp only [Int.toNat_natCast,etas,elDef]);first | done | omega | (simp only [h2 h, Int.toNat_natCast]; done) | (simp only [h2 h, Int.toNat_natCast]; rfl)))));(all_goals ((try simp only [Int.toNat_natCast,etas,elDef]);first | done | omega | (simp only [h2 h, Int.toNat_natCast]; done) | (simp only [h2 h, Int.toNat_natCast]; rfl))), (by exact sgOk_of (by rfl))⟩
  · exact leafI hK (by rw [show k = b.length by omega]; exact (sumTo_all b).symm)
theorem s16 : (CtrOK Tryd.prog 16 (.pure F16) ∧ Callable Tryd.prog 16) := by
  refine pure_ok (E := E16) (mkE_nil tab_ok) mix (O := O16) (F := F16) Tryd.func16 rfl (by rfl) (by kernel_rfl) (fun args o v h => ?_) (fun args o v h => ?_) (fun args o v h hbd hp K hK => ?_)
  · unfold F16 at h; split at h <;> cases h; first | trivial | (simp [v16, Scalar, Scalar2, Scalar1, stC, ndC, itC, chC, nwC])
  · unfold F16 at h; split at h <;> cases h; exact Nat.le_of_ble_eq_true rfl
  · unfold F16 at h; split at h
    case h_2 => cases h
    cases h
    exact a16 _ (by exact hbd) (hp _ rfl) K hK
noncomputable def v15 (n : Int) : AV := .str (hexM n)
noncomputable def o15 (n : Int) : Prop := 0 ≤ n ∧ n < 65536
noncomputable def F15 : List AV → QR
  | [.int .i64 n] => some (some (o15 n), v15 n)
  | _ => none
noncomputable def E15 : Ctx := mkE tab []
noncomputable def O15 : Nat → List DI := ordL [(2, [.q 0, .q 1, .q 2, .q 3, .q 4, .q 5, .q 6, .q 7, .q 8, .q 9, .q 10, .q 11, .q 12, .q 13, .q 14, .q 15, .q 16, .q 17, .l 18 [], .q 19, .q 20])]
theorem a15 (n : Int) (hb : BdAs [.int .i64 n]) (ho : o15 n) (K : AV → List AV → Prop) (hK : K (v15 n) []) : abody E15 O15 .ps Tryd.f15 (Tryd.f15.body.getD .skip) [.int .i64 n] K := by
  simp only [BdAs, BdA, BdL, BdC, MX, ndC, shC, itC, stC, opC, chC, nwC, flC, rqC, rsC, enc, List.cons_append, List.nil_append, and_true, true_and] at hb
  unfold o15 at ho
  unfold v15 at hK
  conv => whnf
  repeat' first|((first|refine Cnd.mk (fun h=>?_) (fun h=>?_)|refine Gd.mk (fun h=>?_))<;>(try simp [etas,elDef,-List.getD_eq_getElem?_getD] at h)<;>conv=>whnf)|((first|refine Obl.mk (by first|omega|rfl|exact inK_byte _|(simp only [inK,Int.toNat_natCast,etas,elDef]<;>first|omega|grind)|grind [inK]) ?_|refine OblG.mk (by ((conv=>whnf);(repeat (first|refine Bx.mk ?_|(intro h;(try simp [etas,elDef,-List.getD_eq_getElem?_getD] at h);conv=>whnf)));(first|omega|rfl|exact inK_byte _|(simp only [inK,Int.toNat_natCast,etas,elDef]<;>first|omega|grind)|grind [inK]))) ?_|refine And.intro ?_ ?_)<;>conv=>whnf)|exact True.intro|(intro;conv=>whnf)
  refine Obl.mk ⟨by omega, by simp only [List.length_cons, List.length_nil]; omega⟩ ?_
  conv => whnf
  repeat' first|((first|refine Cnd.mk (fun h=>?_) (fun h=>?_)|refine Gd.mk (fun h=>?_))<;>(try simp [etas,elDef,-List.getD_eq_getElem?_getD] at h)<;>conv=>whnf)|((first|refine Obl.mk (by first|omega|rfl|exact inK_byte _|(simp only [inK,Int.toNat_natCast,etas,elDef]<;>first|omega|grind)|grind [inK]) ?_|refine OblG.mk (by ((conv=>whnf);(repeat (first|refine Bx.mk ?_|(intro h;(try simp [etas,elDef,-List.getD_eq_getElem?_getD] at h);conv=>whnf)));(first|omega|rfl|exact inK_byte _|(simp only [inK,Int.toNat_natCast,etas,elDef]<;>first|omega|grind)|grind [inK]))) ?_|refine And.intro ?_ ?_)<;>conv=>whnf)|exact True.intro|(intro;conv=>whnf)
  refine Obl.mk ⟨by omega, by simp only [List.length_cons, List.length_nil]; omega⟩ ?_
  conv => whnf
  repeat' first|((first|refine Cnd.mk (fun h=>?_) (fun h=>?_)|refine Gd.mk (fun h=>?_))<;>(try simp [etas,elDef,-List.getD_eq_getElem?_getD] at h)<;>conv=>whnf)|((first|refine Obl.mk (by first|omega|rfl|exact inK_byte _|(simp only [inK,Int.toNat_natCast,etas,elDef]<;>first|omega|grind)|grind [inK]) ?_|refine OblG.mk (by ((conv=>whnf);(repeat (first|refine Bx.mk ?_|(intro h;(try simp [etas,elDef,-List.getD_eq_getElem?_getD] at h);conv=>whnf)));(first|omega|rfl|exact inK_byte _|(simp only [inK,Int.toNat_natCast,etas,elDef]<;>first|omega|grind)|grind [inK]))) ?_|refine And.intro ?_ ?_)<;>conv=>whnf)|exact True.intro|(intro;conv=>whnf)
  refine Obl.mk ⟨by omega, by simp only [List.length_cons, List.length_nil]; omega⟩ ?_
  conv => whnf
  repeat' first|((first|refine Cnd.mk (fun h=>?_) (fun h=>?_)|refine Gd.mk (fun h=>?_))<;>(try simp [etas,elDef,-List.getD_eq_getElem?_getD] at h)<;>conv=>whnf)|((first|refine Obl.mk (by first|omega|rfl|exact inK_byte _|(simp only [inK,Int.toNat_natCast,etas,elDef]<;>first|omega|grind)|grind [inK]) ?_|refine OblG.mk (by ((conv=>whnf);(repeat (first|refine Bx.mk ?_|(intro h;(try simp [etas,elDef,-List.getD_eq_getElem?_getD] at h);conv=>whnf)));(first|omega|rfl|exact inK_byte _|(simp only [inK,Int.toNat_natCast,etas,elDef]<;>first|omega|grind)|grind [inK]))) ?_|refine And.intro ?_ ?_)<;>conv=>whnf)|exact True.intro|(intro;conv=>whnf)
  refine Obl.mk ⟨by omega, by simp only [List.length_cons, List.length_nil]; omega⟩ ?_
  conv => whnf
  repeat' first|((first|refine Cnd.mk (fun h=>?_) (fun h=>?_)|refine Gd.mk (fun h=>?_))<;>(try simp [etas,elDef,-List.getD_eq_getElem?_getD] at h)<;>conv=>whnf)|((first|refine Obl.mk (by first|omega|rfl|exact inK_byte _|(simp only [inK,Int.toNat_natCast,etas,elDef]<;>first|omega|grind)|grind [inK]) ?_|refine OblG.mk (by ((conv=>whnf);(repeat (first|refine Bx.mk ?_|(intro h;(try simp [etas,elDef,-List.getD_eq_getElem?_getD] at h);conv=>whnf)));(first|omega|rfl|exact inK_byte _|(simp only [inK,Int.toNat_natCast,etas,elDef]<;>first|omega|grind)|grind [inK]))) ?_|refine And.intro ?_ ?_)<;>conv=>whnf)|exact True.intro|(intro;conv=>whnf)
  exact leafS hK (by simp only [List.map_cons, List.map_nil, hexM, hexC, hexDigits, Int.toNat_natCast, UInt8.ofNat_toNat])
theorem s15 : (CtrOK Tryd.prog 15 (.pure F15) ∧ Callable Tryd.prog 15) := by
  refine pure_ok (E := E15) (mkE_nil tab_ok) mix (O := O15) (F := F15) Tryd.func15 rfl (by rfl) (by kernel_rfl) (fun args o v h => ?_) (fun args o v h => ?_) (fun args o v h hbd hp K hK => ?_)
  · unfold F15 at h; split at h <;> cases h; first | trivial | (simp [v15, Scalar, Scalar2, Scalar1, stC, ndC, itC, chC, nwC])
  · unfold F15 at h; split at h <;> cases h; exact Nat.le_of_ble_eq_true rfl
  · unfold F15 at h; split at h
    case h_2 => cases h
    cases h
    exact a15 _ (by exact hbd) (hp _ rfl) K hK
noncomputable def v6 (n : Nd) : AV := .str (tagM n)
noncomputable def o6 (n : Nd) : Prop := True
noncomputable def F6 : List AV → QR
  | [.st [.int .i64 n_0, .int .i64 n_1, .str n_2, .ps .str n_3, .ps .node n_4]] => some (none, v6 ⟨n_0, n_1, n_2, n_3, n_4⟩)
  | _ => none
noncomputable def E6 : Ctx := mkE tab [(14, .pure F14), (15, .pure F15), (16, .pure F16), (17, .pure F17)]
noncomputable def O6 : Nat → List DI := ordL []
theorem a6 (n : Nd) (hb : BdAs [.st (ndC n)]) (ho : o6 n) (K : AV → List AV → Prop) (hK : K (v6 n) []) : abody E6 O6 .ps Tryd.f6 (Tryd.f6.body.getD .skip) [.st (ndC n)] K := by
  simp only [BdAs, BdA, BdL, BdC, MX, ndC, shC, itC, stC, opC, chC, nwC, flC, rqC, rsC, enc, List.cons_append, List.nil_append, and_true, true_and] at hb
  unfold v6 at hK
  have h1 := fun h => validM_ok (n := n) h
  have h2 := fun h => valid_fmt (n := n) h
  have h3 := sumM_bound (fmtM n)
  conv => whnf
  repeat' first|((first|refine Cnd.mk (fun h=>?_) (fun h=>?_)|refine Gd.mk (fun h=>?_))<;>(try simp [etas,elDef,-List.getD_eq_getElem?_getD] at h)<;>conv=>whnf)|((first|refine Obl.mk (by first|omega|rfl|exact inK_byte _|(simp only [inK,Int.toNat_natCast,etas,elDef,o15,o16,o17,m17]<;>first|omega|grind)|grind [inK,o15,o16,o17,m17]) ?_|refine OblG.mk (by ((conv=>whnf);(repeat (first|refine Bx.mk ?_|(intro h;(try simp [etas,elDef,-List.getD_eq_getElem?_getD] at h);conv=>whnf)));(first|omega|rfl|exact inK_byte _|(simp only [inK,Int.toNat_natCast,etas,elDef,o15,o16,o17,m17]<;>first|omega|grind)|grind [inK,o15,o16,o17,m17]))) ?_|refine And.intro ?_ ?_)<;>conv=>whnf)|exact True.intro|(intro;conv=>whnf)
  · exact leafS hK (by unfold tagM; rw [if_neg (by rw [h]; simp)])
  · exact leafS hK (by simp only [nd_eta]; unfold tagM; rw [if_pos h])
theorem s6 : (CtrOK Tryd.prog 6 (.pure F6) ∧ Callable Tryd.prog 6) := by
  refine pure_ok (E := E6) (mkE_cons s14 (mkE_cons s15 (mkE_cons s16 (mkE_cons s17 (mkE_nil tab_ok))))) mix (O := O6) (F := F6) Tryd.func6 rfl (by rfl) (by kernel_rfl) (fun args o v h => ?_) (fun args o v h => ?_) (fun args o v h hbd hp K hK => ?_)
  · unfold F6 at h; split at h <;> cases h; first | trivial | (simp [v6, Scalar, Scalar2, Scalar1, stC, ndC, itC, chC, nwC])
  · unfold F6 at h; split at h <;> cases h; exact Nat.le_of_ble_eq_true rfl
  · unfold F6 at h; split at h
    case h_2 => cases h
    cases h
    exact a6 ⟨_, _, _, _, _⟩ (by exact hbd) trivial K hK
noncomputable def v13 (b : Bs) : AV := .str (hexM (sumM b))
noncomputable def o13 (b : Bs) : Prop := b.length ≤ 1000000
noncomputable def F13 : List AV → QR
  | [.str b] => some (some (o13 b), v13 b)
  | _ => none
theorem idx_hex {P : Program} (t : TypeId) (ht : P.underlying t = some .string) (n : Int) (h0 : 0 ≤ n) (h : n < 16) (w : World) :
    (Instr.index t (.string ⟨#[48, 49, 50, 51, 52, 53, 54, 55, 56, 57, 97, 98, 99, 100, 101, 102]⟩) (.int .i64 n)).run P w = .ok (.int .u8 ((hexC n).toNat : Int)) w := by
  rw [run_index_string w t _ .i64 _ ht, dif_pos ⟨h0, by show n < ((16 : Nat) : Int); omega⟩]
  obtain ⟨m, rfl⟩ : ∃ m : Nat, n = m := ⟨n.toNat, by omega⟩
  have hm : m < 16 := by omega
  have h2 : ∀ m : Nat, (h : m < 16) → ((⟨#[48, 49, 50, 51, 52, 53, 54, 55, 56, 57, 97, 98, 99, 100, 101, 102]⟩ : ByteArray)[m]'h) = hexC (m : Int) := by decide
  simp only [Int.toNat_natCast]
  rw [h2 m hm]
theorem sum_round (b : Bs) (k : Nat) (h : k < b.length) {s : Int} (h1 : 0 ≤ s ∧ s < 65521) :
    Value.int IntKind.i64 ((wrap64 (131 * s + wrap64 (((⟨b.toArray⟩ : ByteArray)[k]'h).toNat : Int))).tmod 65521) = .int .i64 ((131 * s + ((b.getD k 0).toNat : Int)) % 65521) := by
  have hc : ((⟨b.toArray⟩ : ByteArray)[k]'h) = b.getD k 0 := by rw [getD_get h]; rfl
  rw [hc]
  have h2 := UInt8.toNat_lt (b.getD k 0)
  generalize (b.getD k 0).toNat = c at *
  have e1 : wrap64 (c : Int) = c := by unfold wrap64; omega
  have e2 : wrap64 (131 * s + (c : Int)) = 131 * s + c := by unfold wrap64; omega
  rw [e1, e2, Int.tmod_eq_emod_of_nonneg (by omega)]
def HexSt (w : World) (S : Int) (v3 v6 : Value) (wr : World) : Prop := ∃ (T : TypeId) (c : Array Value), wr = w.alloc (.cells c T) ∧
  ((v3 = .int .i64 S ∧ v6 = .int .i64 3 ∧ c = #[.int .u8 0, .int .u8 0, .int .u8 0, .int .u8 0])
  ∨ (v3 = .int .i64 (S / 16) ∧ v6 = .int .i64 2 ∧ c = #[.int .u8 0, .int .u8 0, .int .u8 0, .int .u8 (hexC (S % 16)).toNat])
  ∨ (v3 = .int .i64 (S / 16 / 16) ∧ v6 = .int .i64 1 ∧ c = #[.int .u8 0, .int .u8 0, .int .u8 (hexC (S / 16 % 16)).toNat, .int .u8 (hexC (S % 16)).toNat])
  ∨ (v3 = .int .i64 (S / 16 / 16 / 16) ∧ v6 = .int .i64 0 ∧ c = #[.int .u8 0, .int .u8 (hexC (S / 16 / 16 % 16)).toNat, .int .u8 (hexC (S / 16 % 16)).toNat, .int .u8 (hexC (S % 16)).toNat])
  ∨ (v3 = .int .i64 (S / 16 / 16 / 16 / 16) ∧ v6 = .int .i64 (-1) ∧ c = #[.int .u8 (hexC (S / 16 / 16 / 16 % 16)).toNat, .int .u8 (hexC (S / 16 / 16 % 16)).toNat, .int .u8 (hexC (S / 16 % 16)).toNat, .int .u8 (hexC (S % 16)).toNat]))
theorem ksumText (b : Bs) (w : World) (hb : b.length ≤ 1000000) :
    Calls Tryd.prog 13 #[.string ⟨b.toArray⟩] w fun e w' => e = .returned (.string ⟨(hexM (sumM b)).toArray⟩) ∧ ∃ o, w' = w.alloc o := by
  have hsz : (⟨b.toArray⟩ : ByteArray).size = b.length := by simp [ByteArray.size]
  go_enter Tryd.func13, Tryd.ntmps13
  go_wp2
  go_loop [3, 4] (fun vs vi => ∃ k : Nat, k ≤ b.length ∧ vi = .int .i64 k ∧ vs = .int .i64 (sumTo b k)) (fun _ vi => b.length - (RowKit.intOf vi).toNat)
  case atStart => exact ⟨0, Nat.zero_le _, rfl, by rw [sumTo_zero]⟩
  case round =>
    obtain ⟨k, hk, rfl, rfl⟩ := hrel
    have h1 := sumTo_bound b k hk
    go_wp2
    · go_round
      case rel => exact ⟨k + 1, by omega, by go_num, by rw [sumTo_succ (by omega)]; exact sum_round b k (by omega) h1⟩
      case measure => simp [RowKit.intOf]; omega
    · have ek : k = b.length := by omega
      have es : sumTo b k = sumM b := by rw [ek]; exact sumTo_all b
      have hS := sumM_bound b
      obtain ⟨S, hSd⟩ : ∃ S, S = sumM b := ⟨_, rfl⟩
      rw [← hSd] at hS es
      rw [es]
      have AS := Lib.hid hSd
      clear hSd es h1 ek
      go_loopw [3, 6] (fun v3 v6 wr => HexSt w S v3 v6 wr) (fun _ v6 _ => (RowKit.intOf v6 + 1).toNat)
      case atStart => exact ⟨_, _, rfl, .inl ⟨rfl, rfl, rfl⟩⟩
      case round =>
        obtain ⟨T, c, rfl, h | h | h | h | h⟩ := hrel
        all_goals (obtain ⟨rfl, rfl, rfl⟩ := h)
        · have hX := idx_hex (P := Tryd.prog) _ Tryd.underlying9 (S % 16) (by omega) (by omega)
          go_wp2
          exact ⟨⟨_, _, rfl, .inr (.inl ⟨rfl, rfl, rfl⟩)⟩, by decide⟩
        · have hX := idx_hex (P := Tryd.prog) _ Tryd.underlying9 (S / 16 % 16) (by omega) (by omega)
          go_wp2
          exact ⟨⟨_, _, rfl, .inr (.inr (.inl ⟨rfl, rfl, rfl⟩))⟩, by decide⟩
        · have hX := idx_hex (P := Tryd.prog) _ Tryd.underlying9 (S / 16 / 16 % 16) (by omega) (by omega)
          go_wp2
          exact ⟨⟨_, _, rfl, .inr (.inr (.inr (.inl ⟨rfl, rfl, rfl⟩)))⟩, by decide⟩
        · have hX := idx_hex (P := Tryd.prog) _ Tryd.underlying9 (S / 16 / 16 / 16 % 16) (by omega) (by omega)
          go_wp2
          exact ⟨⟨_, _, rfl, .inr (.inr (.inr (.inr ⟨rfl, rfl, rfl⟩)))⟩, by decide⟩
        · go_wp2
          have hcv := run_convert_bytes_back (P := Tryd.prog) (w.alloc (.cells #[.int .u8 (hexC (S / 16 / 16 / 16 % 16)).toNat, .int .u8 (hexC (S / 16 / 16 % 16)).toNat, .int .u8 (hexC (S / 16 % 16)).toNat, .int .u8 (hexC (S % 16)).toNat] T)) _ _ _ ⟨w.heap.size, 0, none⟩ 4 [hexC (S / 16 / 16 / 16 % 16), hexC (S / 16 / 16 % 16), hexC (S / 16 % 16), hexC (S % 16)] Tryd.underlying22 Tryd.underlying5 Tryd.underlying9 fun j hj => by
            have h4 : j = 0 ∨ j = 1 ∨ j = 2 ∨ j = 3 := by simp at hj; omega
            rcases h4 with rfl | rfl | rfl | rfl
            · exact (World.cell?_alloc_at (w := w) _ T w.heap.size 0 rfl).trans rfl
            · exact (World.cell?_alloc_at (w := w) _ T w.heap.size 1 rfl).trans rfl
            · exact (World.cell?_alloc_at (w := w) _ T w.heap.size 2 rfl).trans rfl
            · exact (World.cell?_alloc_at (w := w) _ T w.heap.size 3 rfl).trans rfl
          simp only [List.length_cons, List.length_nil, Nat.zero_add, Nat.reduceAdd] at hcv
          rw [hcv]
          simp only [Result.andThen]
          rw [Oper.upon_value]
          go_wp2
          go_ret
          refine ⟨?_, _, rfl⟩
          rw [show S / 16 / 16 / 16 % 16 = S / 4096 by omega, show S / 16 / 16 % 16 = S / 256 % 16 by omega]
          rw [AS.out]
          rfl
theorem s13 : CtrOK Tryd.prog 13 (.pure F13) ∧ Callable Tryd.prog 13 := by
  refine ⟨⟨fun args o v h => ?_, fun args K hK w γ S xs hi hn hf ht hs => ?_⟩, callable Tryd.func13 rfl (by rfl)⟩
  · unfold F13 at h; split at h <;> cases h; trivial
  · unfold pureC F13 at hK
    split at hK
    case h_2 => exact hK.elim
    rename_i O v hq
    split at hq
    case h_2 => cases hq
    rename_i b
    cases hq
    have h0 := hK.1 _ rfl
    cases hi with
    | cons h2 h3 =>
      cases h3
      obtain ⟨rfl, rfl⟩ := ia_str h2
      refine Calls.mono (ksumText b w h0) ?_
      rintro e w' ⟨rfl, o, rfl⟩
      refine ⟨_, [], _, γ, [], [], hK.2, rfl, .one (.cell (.per (.str _ (by unfold MX; simp [hexM])) rfl)), .nil, by simp, ⟨rfl, rfl, rfl, ?_, fun b hb _ => ⟨?_, rfl⟩, fun b hb => hf b ?_, by simp⟩, by simp⟩
      · show w.heap.size ≤ (w.heap.push o).size
        rw [Array.size_push]; omega
      · exact Below.heap_alloc w o b hb
      · have hb2 : (w.heap.push o).size ≤ b := hb
        rw [Array.size_push] at hb2
        omega
noncomputable def v5 (n : Nd) : AV := .str (tagM n)
noncomputable def o5 (n : Nd) : Prop := True
noncomputable def F5 : List AV → QR
  | [.st [.int .i64 n_0, .int .i64 n_1, .str n_2, .ps .str n_3, .ps .node n_4]] => some (none, v5 ⟨n_0, n_1, n_2, n_3, n_4⟩)
  | _ => none
noncomputable def E5 : Ctx := mkE tab [(8, .pure F8), (12, .pure F12), (13, .pure F13)]
noncomputable def O5 : Nat → List DI := ordL []
theorem a5 (n : Nd) (hb : BdAs [.st (ndC n)]) (ho : o5 n) (K : AV → List AV → Prop) (hK : K (v5 n) []) : abody E5 O5 .ps Tryd.f5 (Tryd.f5.body.getD .skip) [.st (ndC n)] K := by
  simp only [BdAs, BdA, BdL, BdC, MX, ndC, shC, itC, stC, opC, chC, nwC, flC, rqC, rsC, enc, List.cons_append, List.nil_append, and_true, true_and] at hb
  unfold v5 at hK
  have h1 := fun h => validM_ok (n := n) h
  have h2 := fun h => valid_fmt (n := n) h
  have h4 := textM_len n
  have h5 : validM n = true → textM n = fmtM n := fun h => by unfold textM; rw [if_pos h]
  conv => whnf
  repeat' first|((first|refine Cnd.mk (fun h=>?_) (fun h=>?_)|refine Gd.mk (fun h=>?_))<;>(try simp [etas,elDef,-List.getD_eq_getElem?_getD] at h)<;>conv=>whnf)|((first|refine Obl.mk (by first|omega|rfl|exact inK_byte _|(simp only [inK,Int.toNat_natCast,etas,elDef,o13]<;>first|omega|grind)|grind [inK,o13]) ?_|refine OblG.mk (by ((conv=>whnf);(repeat (first|refine Bx.mk ?_|(intro h;(try simp [etas,elDef,-List.getD_eq_getElem?_getD] at h);conv=>whnf)));(first|omega|rfl|exact inK_byte _|(simp only [inK,Int.toNat_natCast,etas,elDef,o13]<;>first|omega|grind)|grind [inK,o13]))) ?_|refine And.intro ?_ ?_)<;>conv=>whnf)|exact True.intro|(intro;conv=>whnf)
  · exact leafS hK (by unfold tagM; rw [if_neg (by rw [h]; simp)])
  · exact leafS hK (by simp only [nd_eta]; unfold tagM; rw [if_pos h, h5 h])
theorem s5 : (CtrOK Tryd.prog 5 (.pure F5) ∧ Callable Tryd.prog 5) := by
  refine pure_ok (E := E5) (mkE_cons s8 (mkE_cons s12 (mkE_cons s13 (mkE_nil tab_ok)))) mix (O := O5) (F := F5) Tryd.func5 rfl (by rfl) (by kernel_rfl) (fun args o v h => ?_) (fun args o v h => ?_) (fun args o v h hbd hp K hK => ?_)
  · unfold F5 at h; split at h <;> cases h; first | trivial | (simp [v5, Scalar, Scalar2, Scalar1, stC, ndC, itC, chC, nwC])
  · unfold F5 at h; split at h <;> cases h; exact Nat.le_of_ble_eq_true rfl
  · unfold F5 at h; split at h
    case h_2 => cases h
    cases h
    exact a5 ⟨_, _, _, _, _⟩ (by exact hbd) trivial K hK
theorem ia_nil {γ : Nat → Nat} {w : World} {S x} (E : El) (h : IA γ w S x .niln) : IA γ w S x (.ps E []) := by
  cases h with
  | val h => cases h with
    | cell h => cases h with
      | per h _ => cases h; exact .val (.cell (.per (.ps E [] none 0 (fun _ => undef) (by simp [MX]) (by simp) (.inl rfl) (by simp) (by simp)) rfl))
noncomputable def v9n (l : List Bs) (t : Bs) (f : Bool) : AV := .int .i64 (checkTagsM l [] t f)
noncomputable def F9n : List AV → QR
  | [.ps .str l, .niln, .str t, .bool f] => some (none, v9n l t f)
  | _ => none
theorem s9n : CtrOK Tryd.prog 9 (.pure F9n) ∧ Callable Tryd.prog 9 := by
  refine ⟨⟨fun args o v h => ?_, fun args K hK w γ S xs hi hn hf ht hs => ?_⟩, s9.2⟩
  · unfold F9n at h; split at h <;> cases h; trivial
  · unfold pureC F9n at hK
    split at hK
    case h_2 => exact hK.elim
    rename_i O v hq
    split at hq
    case h_2 => cases hq
    rename_i l t f
    cases hq
    cases hi with
    | cons h1 h2 =>
      cases h2 with
      | cons h2 h3 =>
        cases h3 with
        | cons h3 h4 =>
          cases h4 with
          | cons h4 h5 =>
            cases h5
            exact s9.1.2 [.ps .str l, .ps .str [], .str t, .bool f] K ⟨(fun p hp => by cases hp), hK.2⟩ w γ _ _ (.cons h1 (.cons (ia_nil .str h2) (.cons h3 (.cons h4 .nil)))) hn hf ht hs
end Go.Rs

