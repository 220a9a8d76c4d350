import Derived.Test.YtmgheiagnleeiaaDoorEA
import Derived.Test.YtmgheiagnleeiaaDoorMI
import Derived.Test.YtmgheiagnleeiaaDoorCD
import Derived.Test.YtmgheiagnleeiaaDoorCK
import Derived.Test.YtmgheiagnleeiaaDoorCG
import Derived.Test.YtmgheiagnleeiaaDoorMB
import Derived.Test.YtmgheiagnleeiaaDoorDelB
import Derived.Test.YtmgheiagnleeiaaDoorCT
import Derived.Test.YtmgheiagnleeiaaDoorCP
import Derived.Test.YtmgheiagnleeiaaDoorMF
import Derived.Test.YtmgheiagnleeiaaDoorCC
import Derived.Test.YtmgheiagnleeiaaDoorMA
import Derived.Test.YtmgheiagnleeiaaDoorFG
import Derived.Test.YtmgheiagnleeiaaDoorCA
import Derived.Test.YtmgheiagnleeiaaDoorMJ
set_option linter.all false
set_option linter.unusedSimpArgs false
set_option linter.unusedVariables false
namespace Go.Rs
open Go.Proofs Go.RowKit
set_option maxRecDepth 100000
set_option maxHeartbeats 4000000
theorem ia_int' {γ : Nat → Nat} {w : World} {S x k n} (h : IA γ w S x (.int k n)) : S = [] ∧ x = .int k n := by
  cases h with
  | val h => cases h with
    | cell h => cases h with
      | per h _ => cases h; exact ⟨rfl, rfl⟩
noncomputable def v82 (a : Bs) (c : Int) : AV := .int .i64 (Go.Lib.indexByte a c.toNat.toUInt8)
noncomputable def F82 : List AV → QR
  | [.str a, .int .u8 c] => some (none, v82 a c)
  | _ => none
theorem kidx (a : Bs) (c : Int) (w : World) :
    Calls Tryd.prog 82 #[.string ⟨a.toArray⟩, .int .u8 c] w fun e w' => e = .returned (.int .i64 (Go.Lib.indexByte a c.toNat.toUInt8)) ∧ w' = w := by
  go_enter Tryd.func82, Tryd.ntmps82
  go_wp2
  rw [run_callFunc_extern Tryd.func86 (by kernel_rfl) (by kernel_rfl) (by kernel_rfl) (e := Extern.BytealgIndexByte.indexByte) (by kernel_rfl), Go.Lib.run_indexByteString]
  simp only [Result.andThen]
  rw [Oper.upon_value]
  go_wp2
  go_ret
  exact ⟨rfl, rfl⟩
theorem s82 : CtrOK Tryd.prog 82 (.pure F82) ∧ Callable Tryd.prog 82 := by
  refine ⟨⟨fun args o v h => ?_, fun args K hK w γ S xs hi hn hf ht hs => ?_⟩, callable Tryd.func82 rfl (by rfl)⟩
  · unfold F82 at h; split at h <;> cases h; trivial
  · unfold pureC F82 at hK
    split at hK
    case h_2 => exact hK.elim
    rename_i O v hq
    split at hq
    case h_2 => cases hq
    rename_i a c
    cases hq
    cases hi with
    | cons h1 h2 =>
      cases h2 with
      | cons h2 h3 =>
        cases h3
        obtain ⟨rfl, rfl⟩ := ia_str h1
        obtain ⟨rfl, rfl⟩ := ia_int' h2
        refine Calls.mono (kidx _ _ w) ?_
        rintro e w' ⟨rfl, rfl⟩
        exact ⟨_, [], _, γ, [], [], hK.2, rfl, .one (.cell (.per (.int _ _) rfl)), .nil, by simp, fr_refl hf, by simp⟩
noncomputable def v76 (a : Bs) (c : Int) : AV := .int .i64 (Go.Lib.indexByte a c.toNat.toUInt8)
noncomputable def o76 (a : Bs) (c : Int) : Prop := True
noncomputable def F76 : List AV → QR
  | [.str a, .int .u8 c] => some (none, v76 a c)
  | _ => none
noncomputable def E76 : Ctx := mkE tab [(82, .pure F82)]
noncomputable def O76 : Nat → List DI := ordL []
theorem a76 (a : Bs) (c : Int) (hb : BdAs [.str a, .int .u8 c]) (ho : o76 a c) (K : AV → List AV → Prop) (hK : K (v76 a c) []) : abody E76 O76 .ps Tryd.f76 (Tryd.f76.body.getD .skip) [.str a, .int .u8 c] K := by
  simp only [BdAs, BdA, BdL, BdC, MX, ndC, shC, itC, stC, opC, chC, nwC, flC, rqC, rsC, enc, List.cons_append, List.nil_append, and_true, true_and] at hb
  unfold v76 at hK
  conv => whnf
  repeat' first|((first|refine Cnd.mk (fun h=>?_) (fun h=>?_)|refine Gd.mk (fun h=>?_))<;>(try simp [etas,elDef,-List.getD_eq_getElem?_getD] at h)<;>conv=>whnf)|((first|refine Obl.mk (by first|omega|rfl|exact inK_byte _|(simp only [inK,Int.toNat_natCast,etas,elDef]<;>first|omega|grind)|grind [inK]) ?_|refine OblG.mk (by ((conv=>whnf);(repeat (first|refine Bx.mk ?_|(intro h;(try simp [etas,elDef,-List.getD_eq_getElem?_getD] at h);conv=>whnf)));(first|omega|rfl|exact inK_byte _|(simp only [inK,Int.toNat_natCast,etas,elDef]<;>first|omega|grind)|grind [inK]))) ?_|refine And.intro ?_ ?_)<;>conv=>whnf)|exact True.intro|(intro;conv=>whnf)
  exact hK
theorem s76 : (CtrOK Tryd.prog 76 (.pure F76) ∧ Callable Tryd.prog 76) := by
  refine pure_ok (E := E76) (mkE_cons s82 (mkE_nil tab_ok)) mix (O := O76) (F := F76) Tryd.func76 rfl (by rfl) (by kernel_rfl) (fun args o v h => ?_) (fun args o v h => ?_) (fun args o v h hbd hp K hK => ?_)
  · unfold F76 at h; split at h <;> cases h; first | trivial | (simp [v76, Scalar, Scalar2, Scalar1, stC, ndC, itC, chC, nwC])
  · unfold F76 at h; split at h <;> cases h; exact Nat.le_of_ble_eq_true rfl
  · unfold F76 at h; split at h
    case h_2 => cases h
    cases h
    exact a76 _ _ (by exact hbd) trivial K hK
noncomputable def v65 (b : Bs) : AV := .bool (isSumM b)
noncomputable def o65 (b : Bs) : Prop := True
noncomputable def F65 : List AV → QR
  | [.str b] => some (none, v65 b)
  | _ => none
noncomputable def E65 : Ctx := mkE tab [(76, .pure F76)]
noncomputable def O65 : Nat → List DI := ordL []
theorem a65 (b : Bs) (hb : BdAs [.str b]) (ho : o65 b) (K : AV → List AV → Prop) (hK : K (v65 b) []) : abody E65 O65 .ps Tryd.f65 (Tryd.f65.body.getD .skip) [.str b] K := by
  simp only [BdAs, BdA, BdL, BdC, MX, ndC, shC, itC, stC, opC, chC, nwC, flC, rqC, rsC, enc, List.cons_append, List.nil_append, and_true, true_and] at hb
  unfold v65 at hK
  conv => whnf
  repeat' first|((first|refine Cnd.mk (fun h=>?_) (fun h=>?_)|refine Gd.mk (fun h=>?_))<;>(try simp [etas,elDef,-List.getD_eq_getElem?_getD] at h)<;>conv=>whnf)|((first|refine Obl.mk (by first|omega|rfl|exact inK_byte _|(simp only [inK,Int.toNat_natCast,etas,elDef]<;>first|omega|grind)|grind [inK]) ?_|refine OblG.mk (by ((conv=>whnf);(repeat (first|refine Bx.mk ?_|(intro h;(try simp [etas,elDef,-List.getD_eq_getElem?_getD] at h);conv=>whnf)));(first|omega|rfl|exact inK_byte _|(simp only [inK,Int.toNat_natCast,etas,elDef]<;>first|omega|grind)|grind [inK]))) ?_|refine And.intro ?_ ?_)<;>conv=>whnf)|exact True.intro|(intro;conv=>whnf)
  · exact leafB hK (by unfold isSumM; grind)
  refine aloop_intro Nat (fun k => k ≤ b.length ∧ ∀ j, j < k → isHex (b.getD j 0) = true) (fun k => b.length - k) (fun k => [(3, .int .i64 k)]) (fun _ => []) [] 0 [] [] ⟨by simp, by simp⟩ ?_ (by exact sgOk_of (by rfl)) ?_
  · iterate 2 ((all_goals (conv=>whnf));(repeat' (first|exact trivial|rfl|(refine nilEq ?_;first|rfl|(simp only [*];done)|(simp [*];done)|grind)|apply And.intro|((first|apply intEq|apply boolEq|apply strEq|apply psEq|apply nilEq|apply arrEq);(try simp only [Int.toNat_natCast,etas,elDef]);first | done | omega | grind | (simp only [*]; done) | (simp [*]; done)))));(all_goals ((try simp only [Int.toNat_natCast,etas,elDef]);first | done | omega | grind | (simp only [*]; done) | (simp [*]; done)))
  rintro k ⟨hk, hj⟩
  conv => whnf
  repeat' first|((first|refine Cnd.mk (fun h=>?_) (fun h=>?_)|refine Gd.mk (fun h=>?_))<;>(try simp [etas,elDef,-List.getD_eq_getElem?_getD] at h)<;>conv=>whnf)|((first|refine Obl.mk (by first|omega|rfl|exact inK_byte _|(simp only [inK,Int.toNat_natCast,etas,elDef]<;>first|omega|grind)|grind [inK]) ?_|refine OblG.mk (by ((conv=>whnf);(repeat (first|refine Bx.mk ?_|(intro h;(try simp [etas,elDef,-List.getD_eq_getElem?_getD] at h);conv=>whnf)));(first|omega|rfl|exact inK_byte _|(simp only [inK,Int.toNat_natCast,etas,elDef]<;>first|omega|grind)|grind [inK]))) ?_|refine And.intro ?_ ?_)<;>conv=>whnf)|exact True.intro|(intro;conv=>whnf)
  · have h9 : isHex (b.getD k 0) = false := by unfold isHex; exact decide_eq_false (by unfold hexDigits; omega)
    exact leafB hK (by unfold isSumM; rw [all_no (by omega) h9]; simp)
  · have h9 : isHex (b.getD k 0) = true := by unfold isHex; exact decide_eq_true (by unfold hexDigits; omega)
    refine ⟨k + 1, [], [], ⟨by omega, fun j hjl => ?_⟩, by omega, by iterate 2 ((all_goals (conv=>whnf));(repeat' (first|exact trivial|rfl|(refine nilEq ?_;first|rfl|(simp only [*];done)|(simp [*];done)|grind)|apply And.intro|((first|apply intEq|apply boolEq|apply strEq|apply psEq|apply nilEq|apply arrEq);(try simp only [Int.toNat_natCast,etas,elDef]);first | done | omega | grind | (simp only [*]; done) | (simp [*]; done)))));(all_goals ((try simp only [Int.toNat_natCast,etas,elDef]);first | done | omega | grind | (simp only [*]; done) | (simp [*]; done))), (by exact sgOk_of (by rfl))⟩
    rcases Nat.lt_succ_iff_lt_or_eq.1 hjl with h2 | h2
    · exact hj j h2
    · rw [h2]; exact h9
  · have h9 : b.all isHex = true := (all_iff b _).2 fun j hjl => hj j (by omega)
    exact leafB hK (by unfold isSumM; rw [h9]; simp; omega)
theorem s65 : (CtrOK Tryd.prog 65 (.pure F65) ∧ Callable Tryd.prog 65) := by
  refine pure_ok (E := E65) (mkE_cons s76 (mkE_nil tab_ok)) mix (O := O65) (F := F65) Tryd.func65 rfl (by rfl) (by kernel_rfl) (fun args o v h => ?_) (fun args o v h => ?_) (fun args o v h hbd hp K hK => ?_)
  · unfold F65 at h; split at h <;> cases h; first | trivial | (simp [v65, Scalar, Scalar2, Scalar1, stC, ndC, itC, chC, nwC])
  · unfold F65 at h; split at h <;> cases h; exact Nat.le_of_ble_eq_true rfl
  · unfold F65 at h; split at h
    case h_2 => cases h
    cases h
    exact a65 _ (by exact hbd) trivial K hK
noncomputable def v46 (l : List Bs) : AV := .bool (areTagsM l)
noncomputable def o46 (l : List Bs) : Prop := True
noncomputable def F46 : List AV → QR
  | [.ps .str l] => some (none, v46 l)
  | _ => none
noncomputable def E46 : Ctx := mkE tab [(65, .pure F65)]
noncomputable def O46 : Nat → List DI := ordL []
theorem a46 (l : List Bs) (hb : BdAs [.ps .str l]) (ho : o46 l) (K : AV → List AV → Prop) (hK : K (v46 l) []) : abody E46 O46 .ps Tryd.f46 (Tryd.f46.body.getD .skip) [.ps .str l] K := by
  simp only [BdAs, BdA, BdL, BdC, MX, ndC, shC, itC, stC, opC, chC, nwC, flC, rqC, rsC, enc, List.cons_append, List.nil_append, and_true, true_and] at hb
  unfold v46 at hK
  conv => whnf
  repeat' first|((first|refine Cnd.mk (fun h=>?_) (fun h=>?_)|refine Gd.mk (fun h=>?_))<;>(try simp [etas,elDef,-List.getD_eq_getElem?_getD] at h)<;>conv=>whnf)|((first|refine Obl.mk (by first|omega|rfl|exact inK_byte _|(simp only [inK,Int.toNat_natCast,etas,elDef]<;>first|omega|grind)|grind [inK]) ?_|refine OblG.mk (by ((conv=>whnf);(repeat (first|refine Bx.mk ?_|(intro h;(try simp [etas,elDef,-List.getD_eq_getElem?_getD] at h);conv=>whnf)));(first|omega|rfl|exact inK_byte _|(simp only [inK,Int.toNat_natCast,etas,elDef]<;>first|omega|grind)|grind [inK]))) ?_|refine And.intro ?_ ?_)<;>conv=>whnf)|exact True.intro|(intro;conv=>whnf)
  · exact leafB hK (by unfold areTagsM; grind)
  refine aloop_intro Nat (fun k => k ≤ l.length ∧ ∀ j, j < k → tagOk (l.getD j []) = true) (fun k => l.length - k) (fun k => [(10, .int .i64 k)]) (fun _ => []) [] 0 [] [] ⟨by simp, by simp⟩ ?_ (by exact sgOk_of (by rfl)) ?_
  · iterate 2 ((all_goals (conv=>whnf));(repeat' (first|exact trivial|rfl|(refine nilEq ?_;first|rfl|(simp only [*];done)|(simp [*];done)|grind)|apply And.intro|((first|apply intEq|apply boolEq|apply strEq|apply psEq|apply nilEq|apply arrEq);(try simp only [Int.toNat_natCast,etas,elDef]);first | done | omega | grind | (simp only [*]; done) | (simp [*]; done)))));(all_goals ((try simp only [Int.toNat_natCast,etas,elDef]);first | done | omega | grind | (simp only [*]; done) | (simp [*]; done)))
  rintro k ⟨hk, hj⟩
  conv => whnf
  repeat' first|((first|refine Cnd.mk (fun h=>?_) (fun h=>?_)|refine Gd.mk (fun h=>?_))<;>(try simp [etas,elDef,-List.getD_eq_getElem?_getD] at h)<;>conv=>whnf)|((first|refine Obl.mk (by first|omega|rfl|exact inK_byte _|(simp only [inK,Int.toNat_natCast,etas,elDef]<;>first|omega|grind)|grind [inK]) ?_|refine OblG.mk (by ((conv=>whnf);(repeat (first|refine Bx.mk ?_|(intro h;(try simp [etas,elDef,-List.getD_eq_getElem?_getD] at h);conv=>whnf)));(first|omega|rfl|exact inK_byte _|(simp only [inK,Int.toNat_natCast,etas,elDef]<;>first|omega|grind)|grind [inK]))) ?_|refine And.intro ?_ ?_)<;>conv=>whnf)|exact True.intro|(intro;conv=>whnf)
  · have h9 : tagOk (l.getD k []) = false := by unfold tagOk; rw [decide_eq_false (of_decide_eq_false h.1), h.2]; rfl
    refine leafB hK ?_
    unfold areTagsM
    rw [show l.all tagOk = false from Bool.eq_false_iff.2 fun e => by rw [List.all_eq_true.1 e _ (getD_mem (d := ([] : Bs)) (by omega))] at h9; cases h9]
    simp
  · have h9 : tagOk (l.getD k []) = true := by
      unfold tagOk
      by_cases e : l.getD k [] = [42]
      · rw [decide_eq_true e]; rfl
      · rw [h (decide_eq_false e)]; simp
    refine ⟨k + 1, [], [], ⟨by omega, fun j hjl => ?_⟩, by omega, by iterate 2 ((all_goals (conv=>whnf));(repeat' (first|exact trivial|rfl|(refine nilEq ?_;first|rfl|(simp only [*];done)|(simp [*];done)|grind)|apply And.intro|((first|apply intEq|apply boolEq|apply strEq|apply psEq|apply nilEq|apply arrEq);(try simp only [Int.toNat_natCast,etas,elDef]);first | done | omega | grind | (simp only [*]; done) | (simp [*]; done)))));(all_goals ((try simp only [Int.toNat_natCast,etas,elDef]);first | done | omega | grind | (simp only [*]; done) | (simp [*]; done))), (by exact sgOk_of (by rfl))⟩
    rcases Nat.lt_succ_iff_lt_or_eq.1 hjl with h2 | h2
    · exact hj j h2
    · rw [h2]; exact h9
  · have h9 : l.all tagOk = true := List.all_eq_true.2 fun x hx => by
      obtain ⟨j, hjl, rfl⟩ := List.getElem_of_mem hx
      have := hj j (by omega)
      rwa [getD_get hjl] at this
    exact leafB hK (by unfold areTagsM; rw [h9]; simp; omega)
theorem s46 : (CtrOK Tryd.prog 46 (.pure F46) ∧ Callable Tryd.prog 46) := by
  refine pure_ok (E := E46) (mkE_cons s65 (mkE_nil tab_ok)) mix (O := O46) (F := F46) Tryd.func46 rfl (by rfl) (by kernel_rfl) (fun args o v h => ?_) (fun args o v h => ?_) (fun args o v h hbd hp K hK => ?_)
  · unfold F46 at h; split at h <;> cases h; first | trivial | (simp [v46, Scalar, Scalar2, Scalar1, stC, ndC, itC, chC, nwC])
  · unfold F46 at h; split at h <;> cases h; exact Nat.le_of_ble_eq_true rfl
  · unfold F46 at h; split at h
    case h_2 => cases h
    cases h
    exact a46 _ (by exact hbd) trivial K hK
end Go.Rs

