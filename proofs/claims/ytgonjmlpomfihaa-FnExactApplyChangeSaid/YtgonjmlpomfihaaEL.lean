import Derived.Test.YtgonjmlpomfihaaEK
import Derived.Test.YtgonjmlpomfihaaInG
import Derived.Test.YtgonjmlpomfihaaDeG
import Derived.Test.YtgonjmlpomfihaaCM
set_option linter.all false
set_option linter.unusedSimpArgs false
set_option linter.unusedVariables false
namespace Go.Rs
open Go.Proofs
set_option maxRecDepth 100000
def stD (s : Sto) : List AV := [.dp .item s.items, .int .i64 s.clock]
def optSD (o : Option Sto) : AV := .tup [.st (stD (o.getD ⟨[], 0⟩)), .bool o.isSome]
noncomputable def c72d (l : List It) (a : Bs) (v : Int) (kd : Int) (m : Int) (t : Bs) (ns : List Bs) (ks : List Nd) (K : AV → List AV → Prop) : Prop :=
    Obl (sortedI l ∧ l.length ≤ 2097152) (K (.dp .item (putL l ⟨a, v, ⟨kd, m, t, ns, ks⟩⟩)) [])
noncomputable def D72d : List AV → (AV → List AV → Prop) → Prop
  | [.dp .item l, .st [.str a, .int .i64 v, .int .i64 kd, .int .i64 m, .str t, .own .str ns, .dp .node ks]], K => c72d l a v kd m t ns ks K
  | _, _ => False
noncomputable def C72d (args : List AV) (K : AV → List AV → Prop) : Prop := D72d (fixAs args) K
noncomputable def E72d : Ctx := mkE tab [(70, .pure F70), (86, .gen .ow C86d)]
noncomputable def O72d : Nat → List DI := ordL []
theorem a72d (l : List It) (a : Bs) (v : Int) (kd : Int) (m : Int) (t : Bs) (ns : List Bs) (ks : List Nd) (hb : BdAs [.dp .item l, .st [.str a, .int .i64 v, .int .i64 kd, .int .i64 m, .str t, .own .str ns, .dp .node ks]]) (K : AV → List AV → Prop) (h : c72d l a v kd m t ns ks K) : abodyD E72d O72d .ow Try.f72 (Try.f72.body.getD .skip) [.dp .item l, .st [.str a, .int .i64 v, .int .i64 kd, .int .i64 m, .str t, .own .str ns, .dp .node ks]] (fun r rs => K (fixR r) (fixAs rs)) := by
  simp only [BdAs, BdA, BdL, BdC, MX, ndC, shC, itC, stC, opC, chC, nwC, flC, rqC, rsC, enc, List.cons_append, List.nil_append, and_true, true_and] at hb
  unfold c72d at h
  obtain ⟨it, eit⟩ : ∃ it : It, it = ⟨a, v, ⟨kd, m, t, ns, ks⟩⟩ := ⟨_, rfl⟩
  have en : a = it.name := by rw [eit]
  rw [← eit] at h
  obtain ⟨⟨ho, hl⟩, hK⟩ := h
  have hle := lbI_le l it.name
  have hfl : foundI l it.name = true → lbI l it.name < l.length := fun h => by simp only [foundI, Bool.and_eq_true, decide_eq_true_eq] at h; exact h.1
  have hp1 := fun h => putL_found (it := it) (ascI_sorted.2 ho) h
  have hp2 := fun h => putL_new (it := it) (ascI_sorted.2 ho) h
  subst en
  conv => whnf
  repeat' first
    | (refine Cnd.mk (fun h => ?_) (fun h => ?_) <;> (try simp [etas, elDef, -List.getD_eq_getElem?_getD] at h) <;> conv => whnf)
    | (refine Obl.mk (by first | omega | rfl | exact inK_byte _ | (simp only [inK, Int.toNat_natCast, etas, elDef, o70] <;> first | omega | grind) | grind [inK, o70]) ?_ <;> conv => whnf)
    | (refine OblG.mk (by conv => whnf
                          repeat (first | (refine Bx.mk ?_) | (intro h; (try simp [etas, elDef, -List.getD_eq_getElem?_getD] at h); conv => whnf))
                          first | omega | rfl | exact inK_byte _ | (simp only [inK, Int.toNat_natCast, etas, elDef, o70] <;> first | omega | grind) | grind [inK, o70]) ?_ <;> conv => whnf)
    | (refine Gd.mk (fun h => ?_) <;> (try simp [etas, elDef, -List.getD_eq_getElem?_getD] at h) <;> conv => whnf)
    | (refine And.intro ?_ ?_ <;> conv => whnf)
    | exact True.intro
    | (intro; conv => whnf)
  · exact leafV hK (by rw [hp1 h]; simp only [fixR, fixV, fix1, etas, elDef, Int.toNat_natCast]; rw [← eit]; first | done | rfl | simp)
  · exact leafV hK (by rw [hp2 h]; simp only [fixR, fixV, fix1, etas, elDef, Int.toNat_natCast]; rw [← eit]; first | done | rfl | simp)
theorem s72d : (CtrOK Try.prog 72 (.gen .ow C72d) ∧ Callable Try.prog 72) := by
  refine gen_okD (E := E72d) (mkE_cons s70 (mkE_cons s86d (mkE_nil tab_ok))) mix (O := O72d) (D := D72d) (own := .ow) Try.func72 rfl (by rfl) (by kernel_rfl) (fun args K h hbd => ?_)
  unfold D72d at h; split at h
  case h_2 => exact h.elim
  exact ⟨Nat.le_of_ble_eq_true rfl, a72d _ _ _ _ _ _ _ _ (by exact hbd) _ h⟩
noncomputable def c51d (s : Sto) (b : Bs) (n : Nd) (K : AV → List AV → Prop) : Prop :=
    K (optSD (putItemM s b n)) []
noncomputable def D51d : List AV → (AV → List AV → Prop) → Prop
  | [.st [.ps .item s_0, .int .i64 s_1], .str b, .st [.int .i64 n_0, .int .i64 n_1, .str n_2, .ps .str n_3, .ps .node n_4]], K => c51d ⟨s_0, s_1⟩ b ⟨n_0, n_1, n_2, n_3, n_4⟩ K
  | _, _ => False
noncomputable def C51d (args : List AV) (K : AV → List AV → Prop) : Prop := D51d (fixAs args) K
noncomputable def E51d : Ctx := mkE tab [(48, .pure F48), (54, .gen .ow C54d), (68, .pure F68), (69, .pure F69), (72, .gen .ow C72d), (73, .gen .ow C73d)]
noncomputable def O51d : Nat → List DI := ordL [(5, [.q 0, .q 1, .q 2, .q 3, .q 4, .q 5, .l 6 [1, 4], .q 7, .l 8 [], .q 9, .l 10 []])]
theorem a51d (s : Sto) (b : Bs) (n : Nd) (hb : BdAs [.st (stC s), .str b, .st (ndC n)]) (K : AV → List AV → Prop) (h : c51d s b n K) : abodyD E51d O51d .ow Try.f51 (Try.f51.body.getD .skip) [.st (stC s), .str b, .st (ndC n)] (fun r rs => K (fixR r) (fixAs rs)) := by
  simp only [BdAs, BdA, BdL, BdC, MX, ndC, shC, itC, stC, opC, chC, nwC, flC, rqC, rsC, enc, List.cons_append, List.nil_append, and_true, true_and] at hb
  unfold c51d at h
  have hK := h
  have h9 : storeM s = true → smS s ∧ sortedI s.items := fun h => ⟨storeM_sm h, storeM_sorted h⟩
  have h8 : storeM s = true → 0 ≤ s.clock ∧ s.clock ≤ 999 ∧ s.items.length ≤ 10 := storeM_clock
  have h7 : validM n = true → smN n := validM_sm
  conv => whnf
  repeat' first
    | (refine Cnd.mk (fun h => ?_) (fun h => ?_) <;> (try simp [etas, elDef, -List.getD_eq_getElem?_getD] at h) <;> conv => whnf)
    | (refine Obl.mk (by first | omega | rfl | exact inK_byte _ | (simp only [inK, Int.toNat_natCast, etas, elDef, m73d] <;> first | omega | grind) | grind [inK, m73d]) ?_ <;> conv => whnf)
    | (refine OblG.mk (by conv => whnf
                          repeat (first | (refine Bx.mk ?_) | (intro h; (try simp [etas, elDef, -List.getD_eq_getElem?_getD] at h); conv => whnf))
                          first | omega | rfl | exact inK_byte _ | (simp only [inK, Int.toNat_natCast, etas, elDef, m73d] <;> first | omega | grind) | grind [inK, m73d]) ?_ <;> conv => whnf)
    | (refine Gd.mk (fun h => ?_) <;> (try simp [etas, elDef, -List.getD_eq_getElem?_getD] at h) <;> conv => whnf)
    | (refine And.intro ?_ ?_ <;> conv => whnf)
    | exact True.intro
    | (intro; conv => whnf)
  · have e : putItemM s b n = none := by grind [putItemM]
    exact leafV hK (by rw [e]; rfl)
  · have e : putItemM s b n = none := by grind [putItemM, putS]
    exact leafV hK (by rw [e]; rfl)
  · have e : putItemM s b n = some (putS s b n) := by grind [putItemM, putS]
    exact leafV hK (by rw [e]; simp only [optSD, stD, putS, Option.getD_some, Option.isSome_some, etas]; rfl)
theorem s51d : (CtrOK Try.prog 51 (.gen .ow C51d) ∧ Callable Try.prog 51) := by
  refine gen_okD (E := E51d) (mkE_cons s48 (mkE_cons s54d (mkE_cons s68 (mkE_cons s69 (mkE_cons s72d (mkE_cons s73d (mkE_nil tab_ok))))))) mix (O := O51d) (D := D51d) (own := .ow) Try.func51 rfl (by rfl) (by kernel_rfl) (fun args K h hbd => ?_)
  unfold D51d at h; split at h
  case h_2 => exact h.elim
  exact ⟨Nat.le_of_ble_eq_true rfl, a51d ⟨_, _⟩ _ ⟨_, _, _, _, _⟩ (by exact hbd) _ h⟩
noncomputable def c50d (s : Sto) (b : Bs) (K : AV → List AV → Prop) : Prop :=
    K (optSD (dropItemM s b)) []
noncomputable def D50d : List AV → (AV → List AV → Prop) → Prop
  | [.st [.ps .item s_0, .int .i64 s_1], .str b], K => c50d ⟨s_0, s_1⟩ b K
  | _, _ => False
noncomputable def C50d (args : List AV) (K : AV → List AV → Prop) : Prop := D50d (fixAs args) K
noncomputable def E50d : Ctx := mkE tab [(48, .pure F48), (54, .gen .ow C54d), (70, .pure F70), (71, .gen .ow C71d)]
noncomputable def O50d : Nat → List DI := ordL []
theorem a50d (s : Sto) (b : Bs) (hb : BdAs [.st (stC s), .str b]) (K : AV → List AV → Prop) (h : c50d s b K) : abodyD E50d O50d .ow Try.f50 (Try.f50.body.getD .skip) [.st (stC s), .str b] (fun r rs => K (fixR r) (fixAs rs)) := by
  simp only [BdAs, BdA, BdL, BdC, MX, ndC, shC, itC, stC, opC, chC, nwC, flC, rqC, rsC, enc, List.cons_append, List.nil_append, and_true, true_and] at hb
  unfold c50d at h
  have hK := h
  have h9 : storeM s = true → smS s ∧ sortedI s.items := fun h => ⟨storeM_sm h, storeM_sorted h⟩
  have h8 : storeM s = true → 0 ≤ s.clock ∧ s.clock ≤ 999 ∧ s.items.length ≤ 10 := storeM_clock
  have hfl : foundI s.items b = true → lbI s.items b < s.items.length := fun h => by simp only [foundI, Bool.and_eq_true, decide_eq_true_eq] at h; exact h.1
  conv => whnf
  repeat' first
    | (refine Cnd.mk (fun h => ?_) (fun h => ?_) <;> (try simp [etas, elDef, -List.getD_eq_getElem?_getD] at h) <;> conv => whnf)
    | (refine Obl.mk (by first | omega | rfl | exact inK_byte _ | (simp only [inK, Int.toNat_natCast, etas, elDef, o70] <;> first | omega | grind) | grind [inK, o70]) ?_ <;> conv => whnf)
    | (refine OblG.mk (by conv => whnf
                          repeat (first | (refine Bx.mk ?_) | (intro h; (try simp [etas, elDef, -List.getD_eq_getElem?_getD] at h); conv => whnf))
                          first | omega | rfl | exact inK_byte _ | (simp only [inK, Int.toNat_natCast, etas, elDef, o70] <;> first | omega | grind) | grind [inK, o70]) ?_ <;> conv => whnf)
    | (refine Gd.mk (fun h => ?_) <;> (try simp [etas, elDef, -List.getD_eq_getElem?_getD] at h) <;> conv => whnf)
    | (refine And.intro ?_ ?_ <;> conv => whnf)
    | exact True.intro
    | (intro; conv => whnf)
  · have e : dropItemM s b = none := by grind [dropItemM]
    exact leafV hK (by rw [e]; rfl)
  · have e1 := findI_new (ascI_sorted.2 (h9 (by assumption : _ ∧ _).1).2) h
    have e : dropItemM s b = none := by grind [dropItemM]
    exact leafV hK (by rw [e]; rfl)
  · have e1 := findI_found h
    have e2 := dropL_found (ascI_sorted.2 (h9 (by assumption : _ ∧ _).1).2) h
    have e : dropItemM s b = some (dropS s b) := by grind [dropItemM]
    exact leafV hK (by rw [e, dropS, e2]; simp only [optSD, stD, Option.getD_some, Option.isSome_some, Int.toNat_natCast]; rfl)
theorem s50d : (CtrOK Try.prog 50 (.gen .ow C50d) ∧ Callable Try.prog 50) := by
  refine gen_okD (E := E50d) (mkE_cons s48 (mkE_cons s54d (mkE_cons s70 (mkE_cons s71d (mkE_nil tab_ok))))) mix (O := O50d) (D := D50d) (own := .ow) Try.func50 rfl (by rfl) (by kernel_rfl) (fun args K h hbd => ?_)
  unfold D50d at h; split at h
  case h_2 => exact h.elim
  exact ⟨Nat.le_of_ble_eq_true rfl, a50d ⟨_, _⟩ _ (by exact hbd) _ h⟩
noncomputable def c28d (s : Sto) (c : Chg) (K : AV → List AV → Prop) : Prop :=
    K (optSD (applyCM s c)) []
noncomputable def D28d : List AV → (AV → List AV → Prop) → Prop
  | [.st [.ps .item s_0, .int .i64 s_1], .st [.str c_0, .bool c_1, .int .i64 c_2_0, .int .i64 c_2_1, .str c_2_2, .ps .str c_2_3, .ps .node c_2_4]], K => c28d ⟨s_0, s_1⟩ ⟨c_0, c_1, ⟨c_2_0, c_2_1, c_2_2, c_2_3, c_2_4⟩⟩ K
  | _, _ => False
noncomputable def C28d (args : List AV) (K : AV → List AV → Prop) : Prop := D28d (fixAs args) K
noncomputable def E28d : Ctx := mkE tab [(48, .pure F48), (49, .pure F49), (50, .gen .ow C50d), (51, .gen .ow C51d)]
noncomputable def O28d : Nat → List DI := ordL []
theorem a28d (s : Sto) (c : Chg) (hb : BdAs [.st (stC s), .st (chC c)]) (K : AV → List AV → Prop) (h : c28d s c K) : abodyD E28d O28d .ow Try.f28 (Try.f28.body.getD .skip) [.st (stC s), .st (chC c)] (fun r rs => K (fixR r) (fixAs rs)) := by
  simp only [BdAs, BdA, BdL, BdC, MX, ndC, shC, itC, stC, opC, chC, nwC, flC, rqC, rsC, enc, List.cons_append, List.nil_append, and_true, true_and] at hb
  unfold c28d at h
  have hK := h
  conv => whnf
  repeat' first
    | (refine Cnd.mk (fun h => ?_) (fun h => ?_) <;> (try simp [etas, elDef, -List.getD_eq_getElem?_getD] at h) <;> conv => whnf)
    | (refine Obl.mk (by first | omega | rfl | exact inK_byte _ | (simp only [inK, Int.toNat_natCast, etas, elDef] <;> first | omega | grind) | grind [inK]) ?_ <;> conv => whnf)
    | (refine OblG.mk (by conv => whnf
                          repeat (first | (refine Bx.mk ?_) | (intro h; (try simp [etas, elDef, -List.getD_eq_getElem?_getD] at h); conv => whnf))
                          first | omega | rfl | exact inK_byte _ | (simp only [inK, Int.toNat_natCast, etas, elDef] <;> first | omega | grind) | grind [inK]) ?_ <;> conv => whnf)
    | (refine Gd.mk (fun h => ?_) <;> (try simp [etas, elDef, -List.getD_eq_getElem?_getD] at h) <;> conv => whnf)
    | (refine And.intro ?_ ?_ <;> conv => whnf)
    | exact True.intro
    | (intro; conv => whnf)
  · have e : applyCM s c = none := by grind [applyCM]
    exact leafV hK (by rw [e]; rfl)
  · have e : applyCM s c = dropItemM s c.name := by grind [applyCM, applyM]
    exact leafV hK (by rw [e]; simp only [optSD, stD, etas]; rfl)
  · have e : applyCM s c = putItemM s c.name c.node := by grind [applyCM, applyM]
    exact leafV hK (by rw [e]; simp only [optSD, stD, etas]; rfl)
theorem s28d : (CtrOK Try.prog 28 (.gen .ow C28d) ∧ Callable Try.prog 28) := by
  refine gen_okD (E := E28d) (mkE_cons s48 (mkE_cons s49 (mkE_cons s50d (mkE_cons s51d (mkE_nil tab_ok))))) mix (O := O28d) (D := D28d) (own := .ow) Try.func28 rfl (by rfl) (by kernel_rfl) (fun args K h hbd => ?_)
  unfold D28d at h; split at h
  case h_2 => exact h.elim
  exact ⟨Nat.le_of_ble_eq_true rfl, a28d ⟨_, _⟩ ⟨_, _, ⟨_, _, _, _, _⟩⟩ (by exact hbd) _ h⟩
end Go.Rs

