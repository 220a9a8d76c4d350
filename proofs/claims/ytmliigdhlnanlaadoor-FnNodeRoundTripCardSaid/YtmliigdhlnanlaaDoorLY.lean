import Derived.Test.YtmliigdhlnanlaaDoorCP
import Derived.Test.YtmliigdhlnanlaaDoorMC
import Derived.Test.YtmliigdhlnanlaaDoorPA
import Derived.Test.YtmliigdhlnanlaaDoorPD
import Derived.Test.YtmliigdhlnanlaaDoorPG
import Derived.Test.YtmliigdhlnanlaaDoorPC
import Derived.Test.YtmliigdhlnanlaaDoorCD
import Derived.Test.YtmliigdhlnanlaaDoorMB
import Derived.Test.YtmliigdhlnanlaaDoorEA
import Derived.Test.YtmliigdhlnanlaaDoorCL
import Derived.Test.YtmliigdhlnanlaaDoorCG
import Derived.Test.YtmliigdhlnanlaaDoorCJ
import Derived.Test.YtmliigdhlnanlaaDoorMF
set_option linter.all false
section
set_option linter.unusedSimpArgs false
set_option linter.unusedVariables false
namespace Go.Rs
open Go.Proofs
set_option maxRecDepth 100000
structure Gx (P Q : Prop) : Prop where
  o : P
  k : Q
end Go.Rs
end
section
set_option linter.unusedSimpArgs false
set_option linter.unusedVariables false
namespace Go.Rs
open Go.Proofs
set_option maxRecDepth 100000
set_option maxHeartbeats 4000000
theorem text_val {n : Nd} (h : ¬ textM n = []) : validM n = true ∧ textM n = fmtM n := by
  unfold textM at h ⊢
  split
  · rename_i hv; exact ⟨hv, rfl⟩
  · rename_i hv; rw [if_neg hv] at h; exact absurd rfl h
theorem eqD_self {α : Type} (a : α) : eqD a a = true := eqD_iff.2 rfl
noncomputable def c3 (code : List Int) (K : AV → List AV → Prop) : Prop :=
    Obl (byOk code) (K (.bool true) [])
noncomputable def C3 : List AV → (AV → List AV → Prop) → Prop
  | [.ps .u8 code], K => c3 code K
  | _, _ => False
noncomputable def E3 : Ctx := mkE tab [(8, .gen .ps C8), (9, .pure F9), (10, .pure F10), (11, .gen .ps C11), (12, .pure F12)]
noncomputable def O3 : Nat → List DI := ordL []
theorem a3 (code : List Int) (hb : BdAs [.ps .u8 code]) (K : AV → List AV → Prop) (h : c3 code K) : abody E3 O3 .ps Tryd.f3 (Tryd.f3.body.getD .skip) [.ps .u8 code] K := by
  simp only [BdAs, BdA, BdL, BdC, MX, ndC, shC, itC, stC, opC, chC, nwC, flC, rqC, rsC, enc, List.cons_append, List.nil_append, and_true, true_and] at hb
  unfold c3 at h
  obtain ⟨ho, hK⟩ := h
  conv => whnf
  repeat' first|((first|refine Cnd.mk (fun h=>?_) (fun h=>?_)|refine Gd.mk (fun h=>?_))<;>(try simp [etas,elDef,-List.getD_eq_getElem?_getD] at h)<;>conv=>whnf)|((first|refine Obl.mk (by first|omega|rfl|exact inK_byte _|(simp only [inK,Int.toNat_natCast,etas,elDef,o12,m12]<;>first|omega|grind)|grind [inK,o12,m12]) ?_|refine OblG.mk (by ((conv=>whnf);(repeat (first|refine Bx.mk ?_|(intro h;(try simp [etas,elDef,-List.getD_eq_getElem?_getD] at h);conv=>whnf)));(first|omega|rfl|exact inK_byte _|(simp only [inK,Int.toNat_natCast,etas,elDef,o12,m12]<;>first|omega|grind)|grind [inK,o12,m12]))) ?_|refine And.intro ?_ ?_)<;>conv=>whnf)|exact True.intro|(intro;conv=>whnf)
  · exact hK
  · exact leafB hK (by simp)
  · rename_i n1 n2 n3 n4 n5
    obtain ⟨hv, ht⟩ := text_val h.1
    have h2 := h.2
    rw [ht] at h2
    have hp := parse_fmt hv (by omega)
    refine leafB hK ?_
    rw [ht, hp]
    simp [eqD_self, nd_eta]
theorem s3 : (CtrOK Tryd.prog 3 (.gen .ps C3) ∧ Callable Tryd.prog 3) := by
  refine gen_ok (E := E3) (mkE_cons s8 (mkE_cons s9 (mkE_cons s10 (mkE_cons s11 (mkE_cons s12 (mkE_nil tab_ok)))))) mix (O := O3) (C := C3) (own := .ps) Tryd.func3 rfl (by rfl) (by kernel_rfl) (fun args K h hbd => ?_)
  unfold C3 at h; split at h
  case h_2 => exact h.elim
  exact ⟨Nat.le_of_ble_eq_true rfl, a3 _ (by exact hbd) _ h⟩
noncomputable def c4 (code : List Int) (K : AV → List AV → Prop) : Prop :=
    Obl (byOk code) (K (.bool true) [])
noncomputable def C4 : List AV → (AV → List AV → Prop) → Prop
  | [.ps .u8 code], K => c4 code K
  | _, _ => False
noncomputable def E4 : Ctx := mkE tab [(9, .pure F9), (11, .gen .ps C11), (12, .pure F12), (13, .gen .ps C13), (14, .gen .ps C14), (15, .pure F15)]
noncomputable def O4 : Nat → List DI := ordL []
theorem a4 (code : List Int) (hb : BdAs [.ps .u8 code]) (K : AV → List AV → Prop) (h : c4 code K) : abody E4 O4 .ps Tryd.f4 (Tryd.f4.body.getD .skip) [.ps .u8 code] K := by
  simp only [BdAs, BdA, BdL, BdC, MX, ndC, shC, itC, stC, opC, chC, nwC, flC, rqC, rsC, enc, List.cons_append, List.nil_append, and_true, true_and] at hb
  unfold c4 at h
  obtain ⟨ho, hK⟩ := h
  conv => whnf
  repeat' first|((first|refine Cnd.mk (fun h=>?_) (fun h=>?_)|refine Gd.mk (fun h=>?_))<;>(try simp [etas,elDef,-List.getD_eq_getElem?_getD] at h)<;>conv=>whnf)|((first|refine Obl.mk (by first|omega|rfl|exact inK_byte _|(simp only [inK,Int.toNat_natCast,etas,elDef,o12,m12]<;>first|omega|grind)|grind [inK,o12,m12]) ?_|refine OblG.mk (by ((conv=>whnf);(repeat (first|refine Bx.mk ?_|(intro h;(try simp [etas,elDef,-List.getD_eq_getElem?_getD] at h);conv=>whnf)));(first|omega|rfl|exact inK_byte _|(simp only [inK,Int.toNat_natCast,etas,elDef,o12,m12]<;>first|omega|grind)|grind [inK,o12,m12]))) ?_|refine And.intro ?_ ?_)<;>conv=>whnf)|exact True.intro|(intro;conv=>whnf)
  · exact hK
  · rw [eqD_self] at h; cases h
  · rename_i s hs
    refine leafB hK ?_
    cases e : parseM s with
    | none => rfl
    | some n =>
      have hv := (parse_some e).1.1
      have ht : textM n = s := by unfold textM; rw [if_pos hv, (parse_some e).1.2]
      simp [nd_eta, ht, hv]
theorem s4 : (CtrOK Tryd.prog 4 (.gen .ps C4) ∧ Callable Tryd.prog 4) := by
  refine gen_ok (E := E4) (mkE_cons s9 (mkE_cons s11 (mkE_cons s12 (mkE_cons s13 (mkE_cons s14 (mkE_cons s15 (mkE_nil tab_ok))))))) mix (O := O4) (C := C4) (own := .ps) Tryd.func4 rfl (by rfl) (by kernel_rfl) (fun args K h hbd => ?_)
  unfold C4 at h; split at h
  case h_2 => exact h.elim
  exact ⟨Nat.le_of_ble_eq_true rfl, a4 _ (by exact hbd) _ h⟩
noncomputable def c5 (code : List Int) (K : AV → List AV → Prop) : Prop :=
    Obl (byOk code) (K (.bool true) [])
noncomputable def C5 : List AV → (AV → List AV → Prop) → Prop
  | [.ps .u8 code], K => c5 code K
  | _, _ => False
noncomputable def E5 : Ctx := mkE tab [(8, .gen .ps C8), (9, .pure F9), (10, .pure F10), (11, .gen .ps C11)]
noncomputable def O5 : Nat → List DI := ordL []
theorem a5 (code : List Int) (hb : BdAs [.ps .u8 code]) (K : AV → List AV → Prop) (h : c5 code K) : abody E5 O5 .ps Tryd.f5 (Tryd.f5.body.getD .skip) [.ps .u8 code] K := by
  simp only [BdAs, BdA, BdL, BdC, MX, ndC, shC, itC, stC, opC, chC, nwC, flC, rqC, rsC, enc, List.cons_append, List.nil_append, and_true, true_and] at hb
  unfold c5 at h
  obtain ⟨ho, hK⟩ := h
  have hl := fun n => textM_len n
  conv => whnf
  repeat' first|((first|refine Cnd.mk (fun h=>?_) (fun h=>?_)|refine Gd.mk (fun h=>?_))<;>(try simp [etas,elDef,-List.getD_eq_getElem?_getD] at h)<;>conv=>whnf)|((first|refine Obl.mk (by first|omega|rfl|exact inK_byte _|(simp only [inK,Int.toNat_natCast,etas,elDef]<;>first|omega|grind)|grind [inK]) ?_|refine OblG.mk (by ((conv=>whnf);(repeat (first|refine Bx.mk ?_|(intro h;(try simp [etas,elDef,-List.getD_eq_getElem?_getD] at h);conv=>whnf)));(first|omega|rfl|exact inK_byte _|(simp only [inK,Int.toNat_natCast,etas,elDef]<;>first|omega|grind)|grind [inK]))) ?_|refine And.intro ?_ ?_)<;>conv=>whnf)|exact True.intro|(intro;conv=>whnf)
  · exact hK
  · exact leafB hK (by simp)
  · rename_i n1 n2 n3 n4 n5
    obtain ⟨hv, ht⟩ := text_val h
    refine leafB hK ?_
    have e1 : parseM ([32] ++ fmtM ⟨n1, n2, n3, n4, n5⟩) = none := parse_ahead _
    rw [ht, parse_behind hv, e1]; rfl
theorem s5 : (CtrOK Tryd.prog 5 (.gen .ps C5) ∧ Callable Tryd.prog 5) := by
  refine gen_ok (E := E5) (mkE_cons s8 (mkE_cons s9 (mkE_cons s10 (mkE_cons s11 (mkE_nil tab_ok))))) mix (O := O5) (C := C5) (own := .ps) Tryd.func5 rfl (by rfl) (by kernel_rfl) (fun args K h hbd => ?_)
  unfold C5 at h; split at h
  case h_2 => exact h.elim
  exact ⟨Nat.le_of_ble_eq_true rfl, a5 _ (by exact hbd) _ h⟩
end Go.Rs
end
