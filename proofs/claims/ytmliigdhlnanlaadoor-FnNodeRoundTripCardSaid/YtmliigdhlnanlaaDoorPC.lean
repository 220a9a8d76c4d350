import Derived.Test.YtmliigdhlnanlaaDoorEA
import Derived.Test.YtmliigdhlnanlaaDoorCL
import Derived.Test.YtmliigdhlnanlaaDoorMI
set_option linter.all false
set_option linter.unusedSimpArgs false
set_option linter.unusedVariables false
namespace Go.Rs
open Go.Proofs Go.RowKit
set_option maxRecDepth 100000
set_option maxHeartbeats 4000000
noncomputable def c34 (code : List Int) (p : Int) (s : Bs) (K : AV → List AV → Prop) : Prop :=
    Obl ((0 ≤ p ∧ p ≤ 20000000) ∧ byOk code ∧ s.length ≤ 100000) (∀ (x : Bs) (p' : Int), x.length ≤ s.length + 10 → p ≤ p' ∧ p' ≤ p + 5 → K (.str x) [.ref [.ps .u8 code, .int .i64 p']])
noncomputable def C34 : List AV → (AV → List AV → Prop) → Prop
  | [.ref [.ps .u8 code, .int .i64 p], .str s], K => c34 code p s K
  | _, _ => False
noncomputable def E34 : Ctx := mkE tab [(33, .gen .ps C33), (64, .gen .ps C64)]
noncomputable def O34 : Nat → List DI := ordL [(5, [.q 0, .q 1, .q 2, .q 3, .q 7, .q 8, .q 9, .q 10, .l 4 [2, 10], .l 5 [2, 10], .q 6, .q 11, .q 12])]
theorem a34 (code : List Int) (p : Int) (s : Bs) (hb : BdAs [.ref [.ps .u8 code, .int .i64 p], .str s]) (K : AV → List AV → Prop) (h : c34 code p s K) : abody E34 O34 .ps Tryd.f34 (Tryd.f34.body.getD .skip) [.ref [.ps .u8 code, .int .i64 p], .str s] K := by
  simp only [BdAs, BdA, BdL, BdC, MX, ndC, shC, itC, stC, opC, chC, nwC, flC, rqC, rsC, enc, List.cons_append, List.nil_append, and_true, true_and] at hb
  unfold c34 at h
  obtain ⟨⟨hp, ho, hs⟩, hK⟩ := h
  have hm1 : ∀ r ∈ ([[48], [49], [32], [45], [44], [97], [34], [93]] : List Bs), r.length ≤ 4 := by decide
  have hm2 : ∀ r ∈ ([[48], [32], [110, 117, 108, 108], [44, 49], [120], [126]] : List Bs), r.length ≤ 4 := by decide
  conv => whnf
  repeat' first|((first|refine Cnd.mk (fun h=>?_) (fun h=>?_)|refine Gd.mk (fun h=>?_))<;>(try simp [etas,elDef,-List.getD_eq_getElem?_getD] at h)<;>conv=>whnf)|((first|refine Obl.mk (by first|omega|rfl|exact inK_byte _|(simp only [inK,Int.toNat_natCast,etas,elDef]<;>first|omega|grind)|grind [inK]) ?_|refine OblG.mk (by ((conv=>whnf);(repeat (first|refine Bx.mk ?_|(intro h;(try simp [etas,elDef,-List.getD_eq_getElem?_getD] at h);conv=>whnf)));(first|omega|rfl|exact inK_byte _|(simp only [inK,Int.toNat_natCast,etas,elDef]<;>first|omega|grind)|grind [inK]))) ?_|refine And.intro ?_ ?_)<;>conv=>whnf)|exact True.intro|(intro;conv=>whnf)
  · rename_i k hk j hj h0 r hr
    have h1 := hm1 r hr
    exact hK _ _ (by simp; omega) ⟨by omega, by omega⟩
  · exact hK _ _ (by omega) ⟨by omega, by omega⟩
  · exact hK _ _ (by simp; omega) ⟨by omega, by omega⟩
  · rename_i r hr
    have h1 := hm2 r hr
    exact hK _ _ (by simp; omega) ⟨by omega, by omega⟩
  · exact hK _ _ (by omega) ⟨by omega, by omega⟩
theorem s34 : (CtrOK Tryd.prog 34 (.gen .ps C34) ∧ Callable Tryd.prog 34) := by
  refine gen_ok (E := E34) (mkE_cons s33 (mkE_cons s64 (mkE_nil tab_ok))) mix (O := O34) (C := C34) (own := .ps) Tryd.func34 rfl (by rfl) (by kernel_rfl) (fun args K h hbd => ?_)
  unfold C34 at h; split at h
  case h_2 => exact h.elim
  exact ⟨Nat.le_of_ble_eq_true rfl, a34 _ _ _ (by exact hbd) _ h⟩
noncomputable def c8 (code : List Int) (K : AV → List AV → Prop) : Prop :=
    Obl (byOk code) (∀ (n1 n2 : Int) (n3 : Bs) (n4 : List Bs) (n5 : List Nd), K (.st [.int .i64 n1, .int .i64 n2, .str n3, .ps .str n4, .ps .node n5]) [])
noncomputable def C8 : List AV → (AV → List AV → Prop) → Prop
  | [.ps .u8 code], K => c8 code K
  | _, _ => False
noncomputable def E8 : Ctx := mkE tab [(23, .gen .ps C23), (24, .gen .ow C24)]
noncomputable def O8 : Nat → List DI := ordL []
theorem a8 (code : List Int) (hb : BdAs [.ps .u8 code]) (K : AV → List AV → Prop) (h : c8 code K) : abody E8 O8 .ps Tryd.f8 (Tryd.f8.body.getD .skip) [.ps .u8 code] K := by
  simp only [BdAs, BdA, BdL, BdC, MX, ndC, shC, itC, stC, opC, chC, nwC, flC, rqC, rsC, enc, List.cons_append, List.nil_append, and_true, true_and] at hb
  unfold c8 at h
  obtain ⟨ho, hK⟩ := h
  conv => whnf
  repeat' first|((first|refine Cnd.mk (fun h=>?_) (fun h=>?_)|refine Gd.mk (fun h=>?_))<;>(try simp [etas,elDef,-List.getD_eq_getElem?_getD] at h)<;>conv=>whnf)|((first|refine Obl.mk (by first|omega|rfl|exact inK_byte _|(simp only [inK,Int.toNat_natCast,etas,elDef]<;>first|omega|grind)|grind [inK]) ?_|refine OblG.mk (by ((conv=>whnf);(repeat (first|refine Bx.mk ?_|(intro h;(try simp [etas,elDef,-List.getD_eq_getElem?_getD] at h);conv=>whnf)));(first|omega|rfl|exact inK_byte _|(simp only [inK,Int.toNat_natCast,etas,elDef]<;>first|omega|grind)|grind [inK]))) ?_|refine And.intro ?_ ?_)<;>conv=>whnf)|exact True.intro|(intro;conv=>whnf)
  exact hK _ _ _ _ _
theorem s8 : (CtrOK Tryd.prog 8 (.gen .ps C8) ∧ Callable Tryd.prog 8) := by
  refine gen_ok (E := E8) (mkE_cons s23 (mkE_cons s24 (mkE_nil tab_ok))) mix (O := O8) (C := C8) (own := .ps) Tryd.func8 rfl (by rfl) (by kernel_rfl) (fun args K h hbd => ?_)
  unfold C8 at h; split at h
  case h_2 => exact h.elim
  exact ⟨Nat.le_of_ble_eq_true rfl, a8 _ (by exact hbd) _ h⟩
noncomputable def c13 (code : List Int) (K : AV → List AV → Prop) : Prop :=
    Obl (byOk code) (∀ s : Bs, s.length ≤ 100000 → K (.str s) [])
noncomputable def C13 : List AV → (AV → List AV → Prop) → Prop
  | [.ps .u8 code], K => c13 code K
  | _, _ => False
noncomputable def E13 : Ctx := mkE tab [(10, .pure F10), (23, .gen .ps C23), (24, .gen .ow C24), (33, .gen .ps C33), (34, .gen .ps C34)]
noncomputable def O13 : Nat → List DI := ordL []
theorem a13 (code : List Int) (hb : BdAs [.ps .u8 code]) (K : AV → List AV → Prop) (h : c13 code K) : abody E13 O13 .ps Tryd.f13 (Tryd.f13.body.getD .skip) [.ps .u8 code] K := by
  simp only [BdAs, BdA, BdL, BdC, MX, ndC, shC, itC, stC, opC, chC, nwC, flC, rqC, rsC, enc, List.cons_append, List.nil_append, and_true, true_and] at hb
  unfold c13 at h
  obtain ⟨ho, hK⟩ := h
  have hl := fun n => textM_len n
  conv => whnf
  repeat' first|((first|refine Cnd.mk (fun h=>?_) (fun h=>?_)|refine Gd.mk (fun h=>?_))<;>(try simp [etas,elDef,-List.getD_eq_getElem?_getD] at h)<;>conv=>whnf)|((first|refine Obl.mk (by first|omega|rfl|exact inK_byte _|(simp only [inK,Int.toNat_natCast,etas,elDef]<;>first|omega|grind)|grind [inK]) ?_|refine OblG.mk (by ((conv=>whnf);(repeat (first|refine Bx.mk ?_|(intro h;(try simp [etas,elDef,-List.getD_eq_getElem?_getD] at h);conv=>whnf)));(first|omega|rfl|exact inK_byte _|(simp only [inK,Int.toNat_natCast,etas,elDef]<;>first|omega|grind)|grind [inK]))) ?_|refine And.intro ?_ ?_)<;>conv=>whnf)|exact True.intro|(intro;conv=>whnf)
  · rename_i n _ _ _ _ _ x _ hx _
    have := hl ⟨n.kind, n.num, n.text, n.names, n.kids⟩
    exact hK _ (by omega)
  · rename_i n _ _ _ _ _
    have := hl ⟨n.kind, n.num, n.text, n.names, n.kids⟩
    exact hK _ (by omega)
theorem s13 : (CtrOK Tryd.prog 13 (.gen .ps C13) ∧ Callable Tryd.prog 13) := by
  refine gen_ok (E := E13) (mkE_cons s10 (mkE_cons s23 (mkE_cons s24 (mkE_cons s33 (mkE_cons s34 (mkE_nil tab_ok)))))) mix (O := O13) (C := C13) (own := .ps) Tryd.func13 rfl (by rfl) (by kernel_rfl) (fun args K h hbd => ?_)
  unfold C13 at h; split at h
  case h_2 => exact h.elim
  exact ⟨Nat.le_of_ble_eq_true rfl, a13 _ (by exact hbd) _ h⟩
end Go.Rs

