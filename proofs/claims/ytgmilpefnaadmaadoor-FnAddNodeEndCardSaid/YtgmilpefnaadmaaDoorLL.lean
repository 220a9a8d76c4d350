import Derived.Test.YtgmilpefnaadmaaDoorDI
import Derived.Test.YtgmilpefnaadmaaDoorCV
import Derived.Test.YtgmilpefnaadmaaDoorCL
import Derived.Test.YtgmilpefnaadmaaDoorCG
import Derived.Test.YtgmilpefnaadmaaDoorMB
import Derived.Test.YtgmilpefnaadmaaDoorDelB
import Derived.Test.YtgmilpefnaadmaaDoorLB
set_option linter.all false
namespace Go.Rs
open Go.Proofs
set_option maxRecDepth 100000
set_option linter.unusedVariables false
set_option linter.unusedSimpArgs false
theorem add_len {n x : Nd} {p : List Bs} (h : (addNodeM n p x).isSome = true) : p.length ≤ 5 := by
  have := (addNode_some (some_getD h)).2.1
  simp only [pathM, Bool.and_eq_true, decide_eq_true_eq] at this
  exact this.1
theorem add_pos {n x : Nd} {p : List Bs} (h : (addNodeM n p x).isSome = true) (h2 : nodeAtM n p = none) : 0 < p.length :=
  List.length_pos_iff.2 (add_none (some_getD h) h2).1
noncomputable def c3 (code : List Int) (K : AV → List AV → Prop) : Prop :=
    Obl (byOk code) (K (.bool true) [])
noncomputable def C3 : List AV → (AV → List AV → Prop) → Prop
  | [.ps .u8 code], K => c3 code K
  | _, _ => False
noncomputable def E3 : Ctx := mkE tab [(10, .gen .ps C10), (11, .gen .ps C11), (12, .gen .ps C12), (13, .pure F13), (14, .gen .ps C14)]
noncomputable def O3 : Nat → List DI := ordL []
theorem a3 (code : List Int) (hb : BdAs [.ps .u8 code]) (K : AV → List AV → Prop) (h : c3 code K) : abody E3 O3 .ps Tryd.f3 (Tryd.f3.body.getD .skip) [.ps .u8 code] K := by
  simp only [BdAs, BdA, BdL, BdC, MX, ndC, shC, itC, stC, opC, chC, nwC, flC, rqC, rsC, enc, List.cons_append, List.nil_append, and_true, true_and] at hb
  unfold c3 at h
  obtain ⟨ho, hK⟩ := h
  have hnc := ncM_rng
  have hno := nil_or
  have hln : ∀ (n : Nd) (p : List Bs) (x : Nd), (addNodeM n p x).isSome = true → p.length ≤ 5 := fun n p x h => add_len h
  have hps : ∀ (n : Nd) (p : List Bs) (x : Nd), (addNodeM n p x).isSome = true → nodeAtM n p = none → 0 < p.length := fun n p x h h2 => add_pos h h2
  conv => whnf
  repeat' first
    | (refine Cnd.mk (fun h => ?_) (fun h => ?_) <;> (try simp [etas, elDef, -List.getD_eq_getElem?_getD] at h) <;> conv => whnf)
    | (refine Obl.mk (by first | omega | rfl | exact inK_byte _ | (simp only [inK, Int.toNat_natCast, etas, elDef, o13, m13] <;> first | omega | grind) | grind [inK, o13, m13]) ?_ <;> conv => whnf)
    | (refine OblG.mk (by conv => whnf
                          repeat (first | (refine Bx.mk ?_) | (intro h; (try simp [etas, elDef, -List.getD_eq_getElem?_getD] at h); conv => whnf))
                          first | omega | rfl | exact inK_byte _ | (simp only [inK, Int.toNat_natCast, etas, elDef, o13, m13] <;> first | omega | grind) | grind [inK, o13, m13]) ?_ <;> conv => whnf)
    | (refine Gd.mk (fun h => ?_) <;> (try simp [etas, elDef, -List.getD_eq_getElem?_getD] at h) <;> conv => whnf)
    | (refine And.intro ?_ ?_ <;> conv => whnf)
    | exact True.intro
    | (intro; conv => whnf)
  · exact hK
  · exfalso; rw [eqD_iff.2 rfl] at h; cases h
  · refine leafB hK ?_
    simp only [nd_eta, rem_isSome]
    cases h1 : (nodeAtM _ _).isSome <;> simp [List.length_pos_iff]
theorem s3 : (CtrOK Tryd.prog 3 (.gen .ps C3) ∧ Callable Tryd.prog 3) := by
  refine gen_ok (E := E3) (mkE_cons s10 (mkE_cons s11 (mkE_cons s12 (mkE_cons s13 (mkE_cons s14 (mkE_nil tab_ok)))))) mix (O := O3) (C := C3) (own := .ps) Tryd.func3 rfl (by rfl) (by kernel_rfl) (fun args K h hbd => ?_)
  unfold C3 at h; split at h
  case h_2 => exact h.elim
  exact ⟨Nat.le_of_ble_eq_true rfl, a3 _ (by exact hbd) _ h⟩
noncomputable def c4 (code : List Int) (K : AV → List AV → Prop) : Prop :=
    Obl (byOk code) (K (.bool true) [])
noncomputable def C4 : List AV → (AV → List AV → Prop) → Prop
  | [.ps .u8 code], K => c4 code K
  | _, _ => False
noncomputable def E4 : Ctx := mkE tab [(10, .gen .ps C10), (11, .gen .ps C11), (12, .gen .ps C12), (13, .pure F13), (14, .gen .ps C14), (15, .gen .ps C15), (16, .pure F16)]
noncomputable def O4 : Nat → List DI := ordL [(10, [.q 0, .q 1, .q 2, .q 3, .q 4, .q 5, .q 6, .q 7, .q 8, .q 9, .q 10, .q 11, .q 12, .q 13, .q 14, .q 15, .q 16, .q 17, .q 18, .q 19])]
theorem a4 (code : List Int) (hb : BdAs [.ps .u8 code]) (K : AV → List AV → Prop) (h : c4 code K) : abody E4 O4 .ps Tryd.f4 (Tryd.f4.body.getD .skip) [.ps .u8 code] K := by
  simp only [BdAs, BdA, BdL, BdC, MX, ndC, shC, itC, stC, opC, chC, nwC, flC, rqC, rsC, enc, List.cons_append, List.nil_append, and_true, true_and] at hb
  unfold c4 at h
  obtain ⟨ho, hK⟩ := h
  have hnc := ncM_rng
  have hno := nil_or
  have hln : ∀ (n : Nd) (p : List Bs) (x : Nd), (addNodeM n p x).isSome = true → p.length ≤ 5 := fun n p x h => add_len h
  have hps : ∀ (n : Nd) (p : List Bs) (x : Nd), (addNodeM n p x).isSome = true → nodeAtM n p = none → 0 < p.length := fun n p x h h2 => add_pos h h2
  conv => whnf
  repeat' first
    | (refine Cnd.mk (fun h => ?_) (fun h => ?_) <;> (try simp [etas, elDef, -List.getD_eq_getElem?_getD] at h) <;> conv => whnf)
    | (refine Obl.mk (by first | omega | rfl | exact inK_byte _ | (simp only [inK, Int.toNat_natCast, etas, elDef, o13, m13] <;> first | omega | grind) | grind [inK, o13, m13]) ?_ <;> conv => whnf)
    | (refine OblG.mk (by conv => whnf
                          repeat (first | (refine Bx.mk ?_) | (intro h; (try simp [etas, elDef, -List.getD_eq_getElem?_getD] at h); conv => whnf))
                          first | omega | rfl | exact inK_byte _ | (simp only [inK, Int.toNat_natCast, etas, elDef, o13, m13] <;> first | omega | grind) | grind [inK, o13, m13]) ?_ <;> conv => whnf)
    | (refine Gd.mk (fun h => ?_) <;> (try simp [etas, elDef, -List.getD_eq_getElem?_getD] at h) <;> conv => whnf)
    | (refine And.intro ?_ ?_ <;> conv => whnf)
    | exact True.intro
    | (intro; conv => whnf)
  · exact hK
  · refine leafB hK ?_
    simp only [nd_eta, eqD_iff.2 rfl]
    simp
  · obtain ⟨old, h1, h2, h3, h4, h5, h6⟩ := rem_law (some_getD h.2)
    refine leafB hK ?_
    simp only [nd_eta, h1, Option.getD_some, Option.isSome_some, Bool.true_and, ncM_eq h2, ncM_eq h3, ncM_eq h4, h6, eqD_iff.2 rfl]
    simp
    omega
theorem s4 : (CtrOK Tryd.prog 4 (.gen .ps C4) ∧ Callable Tryd.prog 4) := by
  refine gen_ok (E := E4) (mkE_cons s10 (mkE_cons s11 (mkE_cons s12 (mkE_cons s13 (mkE_cons s14 (mkE_cons s15 (mkE_cons s16 (mkE_nil tab_ok)))))))) mix (O := O4) (C := C4) (own := .ps) Tryd.func4 rfl (by rfl) (by kernel_rfl) (fun args K h hbd => ?_)
  unfold C4 at h; split at h
  case h_2 => exact h.elim
  exact ⟨Nat.le_of_ble_eq_true rfl, a4 _ (by exact hbd) _ h⟩
noncomputable def c5 (code : List Int) (K : AV → List AV → Prop) : Prop :=
    Obl (byOk code) (K (.bool true) [])
noncomputable def C5 : List AV → (AV → List AV → Prop) → Prop
  | [.ps .u8 code], K => c5 code K
  | _, _ => False
noncomputable def E5 : Ctx := mkE tab [(13, .pure F13), (14, .gen .ps C14), (15, .gen .ps C15), (17, .gen .ps C17), (18, .gen .ps C18), (19, .pure F19)]
noncomputable def O5 : Nat → List DI := ordL []
theorem a5 (code : List Int) (hb : BdAs [.ps .u8 code]) (K : AV → List AV → Prop) (h : c5 code K) : abody E5 O5 .ps Tryd.f5 (Tryd.f5.body.getD .skip) [.ps .u8 code] K := by
  simp only [BdAs, BdA, BdL, BdC, MX, ndC, shC, itC, stC, opC, chC, nwC, flC, rqC, rsC, enc, List.cons_append, List.nil_append, and_true, true_and] at hb
  unfold c5 at h
  obtain ⟨ho, hK⟩ := h
  have hnc := ncM_rng
  have hno := nil_or
  have hln : ∀ (n : Nd) (p : List Bs) (x : Nd), (addNodeM n p x).isSome = true → p.length ≤ 5 := fun n p x h => add_len h
  have hps : ∀ (n : Nd) (p : List Bs) (x : Nd), (addNodeM n p x).isSome = true → nodeAtM n p = none → 0 < p.length := fun n p x h h2 => add_pos h h2
  conv => whnf
  repeat' first
    | (refine Cnd.mk (fun h => ?_) (fun h => ?_) <;> (try simp [etas, elDef, -List.getD_eq_getElem?_getD] at h) <;> conv => whnf)
    | (refine Obl.mk (by first | omega | rfl | exact inK_byte _ | (simp only [inK, Int.toNat_natCast, etas, elDef, o13, m13] <;> first | omega | grind) | grind [inK, o13, m13]) ?_ <;> conv => whnf)
    | (refine OblG.mk (by conv => whnf
                          repeat (first | (refine Bx.mk ?_) | (intro h; (try simp [etas, elDef, -List.getD_eq_getElem?_getD] at h); conv => whnf))
                          first | omega | rfl | exact inK_byte _ | (simp only [inK, Int.toNat_natCast, etas, elDef, o13, m13] <;> first | omega | grind) | grind [inK, o13, m13]) ?_ <;> conv => whnf)
    | (refine Gd.mk (fun h => ?_) <;> (try simp [etas, elDef, -List.getD_eq_getElem?_getD] at h) <;> conv => whnf)
    | (refine And.intro ?_ ?_ <;> conv => whnf)
    | exact True.intro
    | (intro; conv => whnf)
  · exact hK
  · refine leafB hK ?_
    simp only [nd_eta, eqD_iff.2 rfl]
    simp
  · rename_i h9
    obtain ⟨v1, -, v2, v3, -⟩ := addNode_some (some_getD h9.2)
    exact leafB hK (by simp only [nd_eta]; exact v3.symm)
  · rename_i h9
    have hl := add_law (some_getD h9.2) (fun hp => h (List.length_pos_iff.2 hp))
    refine leafB hK ?_
    simp only [nd_eta, hl, Option.getD_some, Option.isSome_some, eqD_iff.2 rfl]
    rfl
theorem s5 : (CtrOK Tryd.prog 5 (.gen .ps C5) ∧ Callable Tryd.prog 5) := by
  refine gen_ok (E := E5) (mkE_cons s13 (mkE_cons s14 (mkE_cons s15 (mkE_cons s17 (mkE_cons s18 (mkE_cons s19 (mkE_nil tab_ok))))))) mix (O := O5) (C := C5) (own := .ps) Tryd.func5 rfl (by rfl) (by kernel_rfl) (fun args K h hbd => ?_)
  unfold C5 at h; split at h
  case h_2 => exact h.elim
  exact ⟨Nat.le_of_ble_eq_true rfl, a5 _ (by exact hbd) _ h⟩
noncomputable def c6 (code : List Int) (K : AV → List AV → Prop) : Prop :=
    Obl (byOk code) (K (.bool true) [])
noncomputable def C6 : List AV → (AV → List AV → Prop) → Prop
  | [.ps .u8 code], K => c6 code K
  | _, _ => False
noncomputable def E6 : Ctx := mkE tab [(13, .pure F13), (14, .gen .ps C14), (15, .gen .ps C15), (16, .pure F16), (17, .gen .ps C17), (18, .gen .ps C18)]
noncomputable def O6 : Nat → List DI := ordL [(9, [.q 0, .q 1, .q 2, .q 3, .q 4, .q 5, .q 6, .q 7, .q 8, .q 9, .q 10, .q 11])]
theorem a6 (code : List Int) (hb : BdAs [.ps .u8 code]) (K : AV → List AV → Prop) (h : c6 code K) : abody E6 O6 .ps Tryd.f6 (Tryd.f6.body.getD .skip) [.ps .u8 code] K := by
  simp only [BdAs, BdA, BdL, BdC, MX, ndC, shC, itC, stC, opC, chC, nwC, flC, rqC, rsC, enc, List.cons_append, List.nil_append, and_true, true_and] at hb
  unfold c6 at h
  obtain ⟨ho, hK⟩ := h
  have hnc := ncM_rng
  have hno := nil_or
  have hln : ∀ (n : Nd) (p : List Bs) (x : Nd), (addNodeM n p x).isSome = true → p.length ≤ 5 := fun n p x h => add_len h
  have hps : ∀ (n : Nd) (p : List Bs) (x : Nd), (addNodeM n p x).isSome = true → nodeAtM n p = none → 0 < p.length := fun n p x h h2 => add_pos h h2
  conv => whnf
  repeat' first
    | (refine Cnd.mk (fun h => ?_) (fun h => ?_) <;> (try simp [etas, elDef, -List.getD_eq_getElem?_getD] at h) <;> conv => whnf)
    | (refine Obl.mk (by first | omega | rfl | exact inK_byte _ | (simp only [inK, Int.toNat_natCast, etas, elDef, o13, m13] <;> first | omega | grind) | grind [inK, o13, m13]) ?_ <;> conv => whnf)
    | (refine OblG.mk (by conv => whnf
                          repeat (first | (refine Bx.mk ?_) | (intro h; (try simp [etas, elDef, -List.getD_eq_getElem?_getD] at h); conv => whnf))
                          first | omega | rfl | exact inK_byte _ | (simp only [inK, Int.toNat_natCast, etas, elDef, o13, m13] <;> first | omega | grind) | grind [inK, o13, m13]) ?_ <;> conv => whnf)
    | (refine Gd.mk (fun h => ?_) <;> (try simp [etas, elDef, -List.getD_eq_getElem?_getD] at h) <;> conv => whnf)
    | (refine And.intro ?_ ?_ <;> conv => whnf)
    | exact True.intro
    | (intro; conv => whnf)
  · exact hK
  · refine leafB hK ?_
    simp only [nd_eta, eqD_iff.2 rfl]
    simp
  · have hs := some_getD h.2
    obtain ⟨v1, -, v2, v3, -⟩ := addNode_some hs
    refine leafB hK ?_
    simp only [nd_eta]
    rename_i n p x
    cases h1 : nodeAtM n p with
    | some y => rfl
    | none =>
      have h2 := add_count_law hs h1
      rw [ncM_eq v1, ncM_eq v2, ncM_eq v3]
      simp
      omega
theorem s6 : (CtrOK Tryd.prog 6 (.gen .ps C6) ∧ Callable Tryd.prog 6) := by
  refine gen_ok (E := E6) (mkE_cons s13 (mkE_cons s14 (mkE_cons s15 (mkE_cons s16 (mkE_cons s17 (mkE_cons s18 (mkE_nil tab_ok))))))) mix (O := O6) (C := C6) (own := .ps) Tryd.func6 rfl (by rfl) (by kernel_rfl) (fun args K h hbd => ?_)
  unfold C6 at h; split at h
  case h_2 => exact h.elim
  exact ⟨Nat.le_of_ble_eq_true rfl, a6 _ (by exact hbd) _ h⟩
noncomputable def c7 (code : List Int) (K : AV → List AV → Prop) : Prop :=
    Obl (byOk code) (K (.bool true) [])
noncomputable def C7 : List AV → (AV → List AV → Prop) → Prop
  | [.ps .u8 code], K => c7 code K
  | _, _ => False
noncomputable def E7 : Ctx := mkE tab [(11, .gen .ps C11), (13, .pure F13), (14, .gen .ps C14), (15, .gen .ps C15), (17, .gen .ps C17), (18, .gen .ps C18)]
noncomputable def O7 : Nat → List DI := ordL []
theorem a7 (code : List Int) (hb : BdAs [.ps .u8 code]) (K : AV → List AV → Prop) (h : c7 code K) : abody E7 O7 .ps Tryd.f7 (Tryd.f7.body.getD .skip) [.ps .u8 code] K := by
  simp only [BdAs, BdA, BdL, BdC, MX, ndC, shC, itC, stC, opC, chC, nwC, flC, rqC, rsC, enc, List.cons_append, List.nil_append, and_true, true_and] at hb
  unfold c7 at h
  obtain ⟨ho, hK⟩ := h
  have hnc := ncM_rng
  have hno := nil_or
  have hln : ∀ (n : Nd) (p : List Bs) (x : Nd), (addNodeM n p x).isSome = true → p.length ≤ 5 := fun n p x h => add_len h
  have hps : ∀ (n : Nd) (p : List Bs) (x : Nd), (addNodeM n p x).isSome = true → nodeAtM n p = none → 0 < p.length := fun n p x h h2 => add_pos h h2
  conv => whnf
  repeat' first
    | (refine Cnd.mk (fun h => ?_) (fun h => ?_) <;> (try simp [etas, elDef, -List.getD_eq_getElem?_getD] at h) <;> conv => whnf)
    | (refine Obl.mk (by first | omega | rfl | exact inK_byte _ | (simp only [inK, Int.toNat_natCast, etas, elDef, o13, m13] <;> first | omega | grind) | grind [inK, o13, m13]) ?_ <;> conv => whnf)
    | (refine OblG.mk (by conv => whnf
                          repeat (first | (refine Bx.mk ?_) | (intro h; (try simp [etas, elDef, -List.getD_eq_getElem?_getD] at h); conv => whnf))
                          first | omega | rfl | exact inK_byte _ | (simp only [inK, Int.toNat_natCast, etas, elDef, o13, m13] <;> first | omega | grind) | grind [inK, o13, m13]) ?_ <;> conv => whnf)
    | (refine Gd.mk (fun h => ?_) <;> (try simp [etas, elDef, -List.getD_eq_getElem?_getD] at h) <;> conv => whnf)
    | (refine And.intro ?_ ?_ <;> conv => whnf)
    | exact True.intro
    | (intro; conv => whnf)
  · exact hK
  · refine leafB hK ?_
    simp only [nd_eta, eqD_iff.2 rfl]
    simp
  · exact hK
  · rename_i h9
    have hl := add_remove_law (some_getD h9.2) h.1 h.2
    refine leafB hK ?_
    simp only [nd_eta, hl, Option.getD_some, Option.isSome_some, eqD_iff.2 rfl]
    rfl
theorem s7 : (CtrOK Tryd.prog 7 (.gen .ps C7) ∧ Callable Tryd.prog 7) := by
  refine gen_ok (E := E7) (mkE_cons s11 (mkE_cons s13 (mkE_cons s14 (mkE_cons s15 (mkE_cons s17 (mkE_cons s18 (mkE_nil tab_ok))))))) mix (O := O7) (C := C7) (own := .ps) Tryd.func7 rfl (by rfl) (by kernel_rfl) (fun args K h hbd => ?_)
  unfold C7 at h; split at h
  case h_2 => exact h.elim
  exact ⟨Nat.le_of_ble_eq_true rfl, a7 _ (by exact hbd) _ h⟩
noncomputable def c8 (code : List Int) (K : AV → List AV → Prop) : Prop :=
    Obl (byOk code) (K (.bool true) [])
noncomputable def C8 : List AV → (AV → List AV → Prop) → Prop
  | [.ps .u8 code], K => c8 code K
  | _, _ => False
noncomputable def E8 : Ctx := mkE tab [(13, .pure F13), (15, .gen .ps C15), (17, .gen .ps C17), (18, .gen .ps C18), (19, .pure F19)]
noncomputable def O8 : Nat → List DI := ordL [(9, [.q 0, .q 2, .q 3, .q 4, .q 8, .l 1 [0, 3, 4, 8], .q 5, .q 6, .l 7 [0, 8], .l 9 [], .q 10, .q 11, .q 12, .a 13, .l 14 [], .q 15])]
theorem a8 (code : List Int) (hb : BdAs [.ps .u8 code]) (K : AV → List AV → Prop) (h : c8 code K) : abody E8 O8 .ps Tryd.f8 (Tryd.f8.body.getD .skip) [.ps .u8 code] K := by
  simp only [BdAs, BdA, BdL, BdC, MX, ndC, shC, itC, stC, opC, chC, nwC, flC, rqC, rsC, enc, List.cons_append, List.nil_append, and_true, true_and] at hb
  unfold c8 at h
  obtain ⟨ho, hK⟩ := h
  have hnc := ncM_rng
  have hno := nil_or
  have hln : ∀ (n : Nd) (p : List Bs) (x : Nd), (addNodeM n p x).isSome = true → p.length ≤ 5 := fun n p x h => add_len h
  have hps : ∀ (n : Nd) (p : List Bs) (x : Nd), (addNodeM n p x).isSome = true → nodeAtM n p = none → 0 < p.length := fun n p x h h2 => add_pos h h2
  conv => whnf
  repeat' first
    | (refine Cnd.mk (fun h => ?_) (fun h => ?_) <;> (try simp [etas, elDef, -List.getD_eq_getElem?_getD] at h) <;> conv => whnf)
    | (refine Obl.mk (by first | omega | rfl | exact inK_byte _ | (simp only [inK, Int.toNat_natCast, etas, elDef, o13, m13] <;> first | omega | grind) | grind [inK, o13, m13]) ?_ <;> conv => whnf)
    | (refine OblG.mk (by conv => whnf
                          repeat (first | (refine Bx.mk ?_) | (intro h; (try simp [etas, elDef, -List.getD_eq_getElem?_getD] at h); conv => whnf))
                          first | omega | rfl | exact inK_byte _ | (simp only [inK, Int.toNat_natCast, etas, elDef, o13, m13] <;> first | omega | grind) | grind [inK, o13, m13]) ?_ <;> conv => whnf)
    | (refine Gd.mk (fun h => ?_) <;> (try simp [etas, elDef, -List.getD_eq_getElem?_getD] at h) <;> conv => whnf)
    | (refine And.intro ?_ ?_ <;> conv => whnf)
    | exact True.intro
    | (intro; conv => whnf)
  · exact hK
  · refine leafB hK ?_
    simp only [nd_eta, eqD_iff.2 rfl]
    simp
  · rename_i n p x
    refine leafB hK ?_
    simp only [nd_eta]
    have h6 := h.2
    have e := add_end_law (v := x) h.1.2 h.1.1.2
    rw [← dig_dec (by omega)] at e
    simp only [elDef]
    rw [← e]
    simp [eqD_iff.2 rfl]
theorem s8 : (CtrOK Tryd.prog 8 (.gen .ps C8) ∧ Callable Tryd.prog 8) := by
  refine gen_ok (E := E8) (mkE_cons s13 (mkE_cons s15 (mkE_cons s17 (mkE_cons s18 (mkE_cons s19 (mkE_nil tab_ok)))))) mix (O := O8) (C := C8) (own := .ps) Tryd.func8 rfl (by rfl) (by kernel_rfl) (fun args K h hbd => ?_)
  unfold C8 at h; split at h
  case h_2 => exact h.elim
  exact ⟨Nat.le_of_ble_eq_true rfl, a8 _ (by exact hbd) _ h⟩
end Go.Rs

