import Derived.Test.YtgonjmlpomfihaaCG
import Derived.Test.YtgonjmlpomfihaaMB
import Derived.Test.YtgonjmlpomfihaaDelC
set_option linter.all false
set_option linter.unusedSimpArgs false
set_option linter.unusedVariables false
namespace Go.Rs
open Go.Proofs
set_option maxRecDepth 100000
noncomputable def c86 (l : List It) (i : Int) (v : List It) (K : AV → List AV → Prop) : Prop :=
    Obl ((0 ≤ i ∧ i ≤ l.length) ∧ v.length = 1 ∧ l.length ≤ 2097152) (K (.own .item (l.take i.toNat ++ v ++ l.drop i.toNat)) [])
noncomputable def C86 : List AV → (AV → List AV → Prop) → Prop
  | [.own .item l, .int .i64 i, .own .item v], K => c86 l i v K
  | _, _ => False
theorem s86 : CtrOK Try.prog 86 (.gen .ow C86) ∧ Callable Try.prog 86 := by
  refine ⟨fun args K h => ?_, callable Try.func86 (by kernel_rfl) (by kernel_rfl)⟩
  unfold C86 at h
  split at h
  case h_2 => exact h.elim
  unfold c86 at h
  obtain ⟨h1, h2⟩ := h
  exact fun w γ S xs hi hn hf _ _ => insert_snd h1.1 h1.2.1 h1.2.2 h2 w γ S xs hi hn hf
noncomputable def c71 (l : List It) (i : Int) (j : Int) (K : AV → List AV → Prop) : Prop :=
    Obl (0 ≤ i ∧ j = i + 1 ∧ j ≤ l.length ∧ l.length ≤ 2097152) (K (.own .item (l.eraseIdx i.toNat)) [])
noncomputable def C71 : List AV → (AV → List AV → Prop) → Prop
  | [.own .item l, .int .i64 i, .int .i64 j], K => c71 l i j K
  | _, _ => False
theorem s71 : CtrOK Try.prog 71 (.gen .ow C71) ∧ Callable Try.prog 71 := by
  refine ⟨fun args K h => ?_, callable Try.func71 (by kernel_rfl) (by kernel_rfl)⟩
  unfold C71 at h
  split at h
  case h_2 => exact h.elim
  unfold c71 at h
  obtain ⟨h1, h2⟩ := h
  exact fun w γ S xs hi hn hf _ _ => delete_snd h1.1 h1.2.1 h1.2.2.1 h1.2.2.2 h2 w γ S xs hi hn hf
noncomputable def c72 (l : List It) (a : Bs) (v : Int) (kd : Int) (m : Int) (t : Bs) (ns : List Bs) (ks : List Nd) (K : AV → List AV → Prop) : Prop :=
    Obl (sortedI l ∧ l.length ≤ 2097152) (K (.own .item (putL l ⟨a, v, ⟨kd, m, t, ns, ks⟩⟩)) [])
noncomputable def C72 : List AV → (AV → List AV → Prop) → Prop
  | [.own .item l, .st [.str a, .int .i64 v, .int .i64 kd, .int .i64 m, .str t, .own .str ns, .own .node ks]], K => c72 l a v kd m t ns ks K
  | _, _ => False
noncomputable def E72 : Ctx := mkE tab [(70, .pure F70), (86, .gen .ow C86)]
noncomputable def O72 : Nat → List DI := ordL []
theorem a72 (l : List It) (a : Bs) (v : Int) (kd : Int) (m : Int) (t : Bs) (ns : List Bs) (ks : List Nd) (hb : BdAs [.own .item l, .st [.str a, .int .i64 v, .int .i64 kd, .int .i64 m, .str t, .own .str ns, .own .node ks]]) (K : AV → List AV → Prop) (h : c72 l a v kd m t ns ks K) : abody E72 O72 .ow Try.f72 (Try.f72.body.getD .skip) [.own .item l, .st [.str a, .int .i64 v, .int .i64 kd, .int .i64 m, .str t, .own .str ns, .own .node ks]] K := by
  simp only [BdAs, BdA, BdL, BdC, MX, ndC, shC, itC, stC, opC, chC, nwC, flC, rqC, rsC, enc, List.cons_append, List.nil_append, and_true, true_and] at hb
  unfold c72 at h
  obtain ⟨it, eit⟩ : ∃ it : It, it = ⟨a, v, ⟨kd, m, t, ns, ks⟩⟩ := ⟨_, rfl⟩
  have en : a = it.name := by rw [eit]
  rw [← eit] at h
  obtain ⟨⟨ho, hl⟩, hK⟩ := h
  have hle := lbI_le l it.name
  have hfl : foundI l it.name = true → lbI l it.name < l.length := fun h => by simp only [foundI, Bool.and_eq_true, decide_eq_true_eq] at h; exact h.1
  have hp1 := fun h => putL_found (it := it) (ascI_sorted.2 ho) h
  have hp2 := fun h => putL_new (it := it) (ascI_sorted.2 ho) h
  subst en
  conv => whnf
  repeat' first
    | (refine Cnd.mk (fun h => ?_) (fun h => ?_) <;> (try simp [etas, elDef, -List.getD_eq_getElem?_getD] at h) <;> conv => whnf)
    | (refine Obl.mk (by first | omega | rfl | exact inK_byte _ | (simp only [inK, Int.toNat_natCast, etas, elDef, o70] <;> first | omega | grind) | grind [inK, o70]) ?_ <;> conv => whnf)
    | (refine OblG.mk (by conv => whnf
                          repeat (first | (refine Bx.mk ?_) | (intro h; (try simp [etas, elDef, -List.getD_eq_getElem?_getD] at h); conv => whnf))
                          first | omega | rfl | exact inK_byte _ | (simp only [inK, Int.toNat_natCast, etas, elDef, o70] <;> first | omega | grind) | grind [inK, o70]) ?_ <;> conv => whnf)
    | (refine Gd.mk (fun h => ?_) <;> (try simp [etas, elDef, -List.getD_eq_getElem?_getD] at h) <;> conv => whnf)
    | (refine And.intro ?_ ?_ <;> conv => whnf)
    | exact True.intro
    | (intro; conv => whnf)
  · exact leafV hK (by rw [hp1 h]; (try simp only [etas, elDef, Int.toNat_natCast]); (first | done | rfl | simp [optS, stC]); rw [← eit])
  · exact leafV hK (by rw [hp2 h]; (try simp only [etas, elDef, Int.toNat_natCast]); (first | done | rfl | simp [optS, stC]); rw [← eit])
theorem s72 : (CtrOK Try.prog 72 (.gen .ow C72) ∧ Callable Try.prog 72) := by
  refine gen_ok (E := E72) (mkE_cons s70 (mkE_cons s86 (mkE_nil tab_ok))) mix (O := O72) (C := C72) (own := .ow) Try.func72 rfl (by rfl) (by kernel_rfl) (fun args K h hbd => ?_)
  unfold C72 at h; split at h
  case h_2 => exact h.elim
  exact ⟨Nat.le_of_ble_eq_true rfl, a72 _ _ _ _ _ _ _ _ (by exact hbd) _ h⟩
noncomputable def c51 (s : Sto) (b : Bs) (n : Nd) (K : AV → List AV → Prop) : Prop :=
    K (optS (putItemM s b n)) []
noncomputable def C51 : List AV → (AV → List AV → Prop) → Prop
  | [.st [.ps .item s_0, .int .i64 s_1], .str b, .st [.int .i64 n_0, .int .i64 n_1, .str n_2, .ps .str n_3, .ps .node n_4]], K => c51 ⟨s_0, s_1⟩ b ⟨n_0, n_1, n_2, n_3, n_4⟩ K
  | _, _ => False
noncomputable def E51 : Ctx := mkE tab [(48, .pure F48), (54, .gen .ow C54), (68, .pure F68), (69, .pure F69), (72, .gen .ow C72), (73, .gen .ow C73)]
noncomputable def O51 : Nat → List DI := ordL [(5, [.q 0, .q 1, .q 2, .q 3, .q 4, .q 5, .l 6 [1, 4], .q 7, .l 8 [], .q 9, .l 10 []])]
theorem a51 (s : Sto) (b : Bs) (n : Nd) (hb : BdAs [.st (stC s), .str b, .st (ndC n)]) (K : AV → List AV → Prop) (h : c51 s b n K) : abody E51 O51 .ps Try.f51 (Try.f51.body.getD .skip) [.st (stC s), .str b, .st (ndC n)] K := by
  simp only [BdAs, BdA, BdL, BdC, MX, ndC, shC, itC, stC, opC, chC, nwC, flC, rqC, rsC, enc, List.cons_append, List.nil_append, and_true, true_and] at hb
  unfold c51 at h
  have hK := h
  have h9 : storeM s = true → smS s ∧ sortedI s.items := fun h => ⟨storeM_sm h, storeM_sorted h⟩
  have h8 : storeM s = true → 0 ≤ s.clock ∧ s.clock ≤ 999 ∧ s.items.length ≤ 10 := storeM_clock
  have h7 : validM n = true → smN n := validM_sm
  conv => whnf
  repeat' first
    | (refine Cnd.mk (fun h => ?_) (fun h => ?_) <;> (try simp [etas, elDef, -List.getD_eq_getElem?_getD] at h) <;> conv => whnf)
    | (refine Obl.mk (by first | omega | rfl | exact inK_byte _ | (simp only [inK, Int.toNat_natCast, etas, elDef, m73] <;> first | omega | grind) | grind [inK, m73]) ?_ <;> conv => whnf)
    | (refine OblG.mk (by conv => whnf
                          repeat (first | (refine Bx.mk ?_) | (intro h; (try simp [etas, elDef, -List.getD_eq_getElem?_getD] at h); conv => whnf))
                          first | omega | rfl | exact inK_byte _ | (simp only [inK, Int.toNat_natCast, etas, elDef, m73] <;> first | omega | grind) | grind [inK, m73]) ?_ <;> conv => whnf)
    | (refine Gd.mk (fun h => ?_) <;> (try simp [etas, elDef, -List.getD_eq_getElem?_getD] at h) <;> conv => whnf)
    | (refine And.intro ?_ ?_ <;> conv => whnf)
    | exact True.intro
    | (intro; conv => whnf)
  · have e : putItemM s b n = none := by grind [putItemM]
    exact leafV hK (by rw [e]; (try simp only [etas, elDef, Int.toNat_natCast]); (first | done | rfl | simp [optS, stC]))
  · have e : putItemM s b n = none := by grind [putItemM, putS]
    exact leafV hK (by rw [e]; (try simp only [etas, elDef, Int.toNat_natCast]); (first | done | rfl | simp [optS, stC]))
  · have e : putItemM s b n = some (putS s b n) := by grind [putItemM, putS]
    exact leafV hK (by rw [e]; (try simp only [etas, elDef, Int.toNat_natCast]); (first | done | rfl | simp [optS, stC]))
theorem s51 : (CtrOK Try.prog 51 (.gen .ps C51) ∧ Callable Try.prog 51) := by
  refine gen_ok (E := E51) (mkE_cons s48 (mkE_cons s54 (mkE_cons s68 (mkE_cons s69 (mkE_cons s72 (mkE_cons s73 (mkE_nil tab_ok))))))) mix (O := O51) (C := C51) (own := .ps) Try.func51 rfl (by rfl) (by kernel_rfl) (fun args K h hbd => ?_)
  unfold C51 at h; split at h
  case h_2 => exact h.elim
  exact ⟨Nat.le_of_ble_eq_true rfl, a51 ⟨_, _⟩ _ ⟨_, _, _, _, _⟩ (by exact hbd) _ h⟩
noncomputable def c50 (s : Sto) (b : Bs) (K : AV → List AV → Prop) : Prop :=
    K (optS (dropItemM s b)) []
noncomputable def C50 : List AV → (AV → List AV → Prop) → Prop
  | [.st [.ps .item s_0, .int .i64 s_1], .str b], K => c50 ⟨s_0, s_1⟩ b K
  | _, _ => False
noncomputable def E50 : Ctx := mkE tab [(48, .pure F48), (54, .gen .ow C54), (70, .pure F70), (71, .gen .ow C71)]
noncomputable def O50 : Nat → List DI := ordL []
theorem a50 (s : Sto) (b : Bs) (hb : BdAs [.st (stC s), .str b]) (K : AV → List AV → Prop) (h : c50 s b K) : abody E50 O50 .ps Try.f50 (Try.f50.body.getD .skip) [.st (stC s), .str b] K := by
  simp only [BdAs, BdA, BdL, BdC, MX, ndC, shC, itC, stC, opC, chC, nwC, flC, rqC, rsC, enc, List.cons_append, List.nil_append, and_true, true_and] at hb
  unfold c50 at h
  have hK := h
  have h9 : storeM s = true → smS s ∧ sortedI s.items := fun h => ⟨storeM_sm h, storeM_sorted h⟩
  have h8 : storeM s = true → 0 ≤ s.clock ∧ s.clock ≤ 999 ∧ s.items.length ≤ 10 := storeM_clock
  have hfl : foundI s.items b = true → lbI s.items b < s.items.length := fun h => by simp only [foundI, Bool.and_eq_true, decide_eq_true_eq] at h; exact h.1
  conv => whnf
  repeat' first
    | (refine Cnd.mk (fun h => ?_) (fun h => ?_) <;> (try simp [etas, elDef, -List.getD_eq_getElem?_getD] at h) <;> conv => whnf)
    | (refine Obl.mk (by first | omega | rfl | exact inK_byte _ | (simp only [inK, Int.toNat_natCast, etas, elDef, o70] <;> first | omega | grind) | grind [inK, o70]) ?_ <;> conv => whnf)
    | (refine OblG.mk (by conv => whnf
                          repeat (first | (refine Bx.mk ?_) | (intro h; (try simp [etas, elDef, -List.getD_eq_getElem?_getD] at h); conv => whnf))
                          first | omega | rfl | exact inK_byte _ | (simp only [inK, Int.toNat_natCast, etas, elDef, o70] <;> first | omega | grind) | grind [inK, o70]) ?_ <;> conv => whnf)
    | (refine Gd.mk (fun h => ?_) <;> (try simp [etas, elDef, -List.getD_eq_getElem?_getD] at h) <;> conv => whnf)
    | (refine And.intro ?_ ?_ <;> conv => whnf)
    | exact True.intro
    | (intro; conv => whnf)
  · have e : dropItemM s b = none := by grind [dropItemM]
    exact leafV hK (by rw [e]; (try simp only [etas, elDef, Int.toNat_natCast]); (first | done | rfl | simp [optS, stC]))
  · have e1 := findI_new (ascI_sorted.2 (h9 (by assumption : _ ∧ _).1).2) h
    have e : dropItemM s b = none := by grind [dropItemM]
    exact leafV hK (by rw [e]; (try simp only [etas, elDef, Int.toNat_natCast]); (first | done | rfl | simp [optS, stC]))
  · have e1 := findI_found h
    have e2 := dropL_found (ascI_sorted.2 (h9 (by assumption : _ ∧ _).1).2) h
    have e : dropItemM s b = some (dropS s b) := by grind [dropItemM]
    exact leafV hK (by rw [e, dropS, e2]; (try simp only [etas, elDef, Int.toNat_natCast]); (first | done | rfl | simp [optS, stC]))
theorem s50 : (CtrOK Try.prog 50 (.gen .ps C50) ∧ Callable Try.prog 50) := by
  refine gen_ok (E := E50) (mkE_cons s48 (mkE_cons s54 (mkE_cons s70 (mkE_cons s71 (mkE_nil tab_ok))))) mix (O := O50) (C := C50) (own := .ps) Try.func50 rfl (by rfl) (by kernel_rfl) (fun args K h hbd => ?_)
  unfold C50 at h; split at h
  case h_2 => exact h.elim
  exact ⟨Nat.le_of_ble_eq_true rfl, a50 ⟨_, _⟩ _ (by exact hbd) _ h⟩
noncomputable def c28 (s : Sto) (c : Chg) (K : AV → List AV → Prop) : Prop :=
    K (optS (applyCM s c)) []
noncomputable def C28 : List AV → (AV → List AV → Prop) → Prop
  | [.st [.ps .item s_0, .int .i64 s_1], .st [.str c_0, .bool c_1, .int .i64 c_2_0, .int .i64 c_2_1, .str c_2_2, .ps .str c_2_3, .ps .node c_2_4]], K => c28 ⟨s_0, s_1⟩ ⟨c_0, c_1, ⟨c_2_0, c_2_1, c_2_2, c_2_3, c_2_4⟩⟩ K
  | _, _ => False
noncomputable def E28 : Ctx := mkE tab [(48, .pure F48), (49, .pure F49), (50, .gen .ps C50), (51, .gen .ps C51)]
noncomputable def O28 : Nat → List DI := ordL []
theorem a28 (s : Sto) (c : Chg) (hb : BdAs [.st (stC s), .st (chC c)]) (K : AV → List AV → Prop) (h : c28 s c K) : abody E28 O28 .ps Try.f28 (Try.f28.body.getD .skip) [.st (stC s), .st (chC c)] K := by
  simp only [BdAs, BdA, BdL, BdC, MX, ndC, shC, itC, stC, opC, chC, nwC, flC, rqC, rsC, enc, List.cons_append, List.nil_append, and_true, true_and] at hb
  unfold c28 at h
  have hK := h
  conv => whnf
  repeat' first
    | (refine Cnd.mk (fun h => ?_) (fun h => ?_) <;> (try simp [etas, elDef, -List.getD_eq_getElem?_getD] at h) <;> conv => whnf)
    | (refine Obl.mk (by first | omega | rfl | exact inK_byte _ | (simp only [inK, Int.toNat_natCast, etas, elDef] <;> first | omega | grind) | grind [inK]) ?_ <;> conv => whnf)
    | (refine OblG.mk (by conv => whnf
                          repeat (first | (refine Bx.mk ?_) | (intro h; (try simp [etas, elDef, -List.getD_eq_getElem?_getD] at h); conv => whnf))
                          first | omega | rfl | exact inK_byte _ | (simp only [inK, Int.toNat_natCast, etas, elDef] <;> first | omega | grind) | grind [inK]) ?_ <;> conv => whnf)
    | (refine Gd.mk (fun h => ?_) <;> (try simp [etas, elDef, -List.getD_eq_getElem?_getD] at h) <;> conv => whnf)
    | (refine And.intro ?_ ?_ <;> conv => whnf)
    | exact True.intro
    | (intro; conv => whnf)
  · have e : applyCM s c = none := by grind [applyCM]
    exact leafV hK (by rw [e]; (try simp only [etas, elDef, Int.toNat_natCast]); (first | done | rfl | simp [optS, stC]))
  · have e : applyCM s c = dropItemM s c.name := by grind [applyCM, applyM]
    exact leafV hK (by rw [e]; (try simp only [etas, elDef, Int.toNat_natCast]); (first | done | rfl | simp [optS, stC]))
  · have e : applyCM s c = putItemM s c.name c.node := by grind [applyCM, applyM]
    exact leafV hK (by rw [e]; (try simp only [etas, elDef, Int.toNat_natCast]); (first | done | rfl | simp [optS, stC]))
theorem s28 : (CtrOK Try.prog 28 (.gen .ps C28) ∧ Callable Try.prog 28) := by
  refine gen_ok (E := E28) (mkE_cons s48 (mkE_cons s49 (mkE_cons s50 (mkE_cons s51 (mkE_nil tab_ok))))) mix (O := O28) (C := C28) (own := .ps) Try.func28 rfl (by rfl) (by kernel_rfl) (fun args K h hbd => ?_)
  unfold C28 at h; split at h
  case h_2 => exact h.elim
  exact ⟨Nat.le_of_ble_eq_true rfl, a28 ⟨_, _⟩ ⟨_, _, ⟨_, _, _, _, _⟩⟩ (by exact hbd) _ h⟩
noncomputable def c36 (l : List Chg) (v : Int) (K : AV → List AV → Prop) : Prop :=
    Obl (0 ≤ v ∧ v ≤ l.length) (K (optS (stoAtM l v)) [])
noncomputable def C36 : List AV → (AV → List AV → Prop) → Prop
  | [.ps .chg l, .int .i64 v], K => c36 l v K
  | _, _ => False
noncomputable def E36 : Ctx := mkE tab [(28, .gen .ps C28), (54, .gen .ow C54)]
noncomputable def O36 : Nat → List DI := ordL []
theorem a36 (l : List Chg) (v : Int) (hb : BdAs [.ps .chg l, .int .i64 v]) (K : AV → List AV → Prop) (h : c36 l v K) : abody E36 O36 .ps Try.f36 (Try.f36.body.getD .skip) [.ps .chg l, .int .i64 v] K := by
  simp only [BdAs, BdA, BdL, BdC, MX, ndC, shC, itC, stC, opC, chC, nwC, flC, rqC, rsC, enc, List.cons_append, List.nil_append, and_true, true_and] at hb
  unfold c36 at h
  obtain ⟨hv, hK⟩ := h
  have h00 : (replayM []).isSome = true := rfl
  have h01 := keptM_zero l v.toNat
  have h02 : stC ⟨[], 0⟩ = [.ps .item [], .int .i64 0] := rfl
  have h03 : (replayM []).getD ⟨[], 0⟩ = ⟨[], 0⟩ := rfl
  conv => whnf
  repeat' first
    | (refine Cnd.mk (fun h => ?_) (fun h => ?_) <;> (try simp [etas, elDef, -List.getD_eq_getElem?_getD] at h) <;> conv => whnf)
    | (refine Obl.mk (by first | omega | rfl | exact inK_byte _ | (simp only [inK, Int.toNat_natCast, etas, elDef] <;> first | omega | grind) | grind [inK]) ?_ <;> conv => whnf)
    | (refine OblG.mk (by conv => whnf
                          repeat (first | (refine Bx.mk ?_) | (intro h; (try simp [etas, elDef, -List.getD_eq_getElem?_getD] at h); conv => whnf))
                          first | omega | rfl | exact inK_byte _ | (simp only [inK, Int.toNat_natCast, etas, elDef] <;> first | omega | grind) | grind [inK]) ?_ <;> conv => whnf)
    | (refine Gd.mk (fun h => ?_) <;> (try simp [etas, elDef, -List.getD_eq_getElem?_getD] at h) <;> conv => whnf)
    | (refine And.intro ?_ ?_ <;> conv => whnf)
    | exact True.intro
    | (intro; conv => whnf)
  · have e : stoAtM l v = none := by grind [stoAtM, logM]
    exact leafV hK (by rw [e]; (try simp only [etas, elDef, Int.toNat_natCast]); (first | done | rfl | simp [optS, stC]))
  refine aloop_intro Nat (fun k => k ≤ l.length ∧ (replayM (l.take k)).isSome = true) (fun k => l.length - k) (fun k => [(18, .int .i64 k)]) (fun k => [(6, .box (stC ((replayM (l.take k)).getD ⟨[], 0⟩))), (7, .box (stC (keptM l v.toNat k)))]) [4] 0 [] [] ?_ ?_ (by exact sgOk_of (by rfl)) ?_
  · first | (simp; done) | (simp; assumption)
  · (conv => whnf); (repeat' (first | exact trivial | rfl | (refine nilEq ?_; first | rfl | (simp only [*]; done) | (simp [*]; done) | grind) | apply And.intro | ((first | refine intEq ?_ | refine boolEq ?_ | refine strEq ?_ | refine psEq ?_ | refine nilEq ?_ | refine arrEq ?_); (try simp only [Int.toNat_natCast, etas, elDef]); first | done | omega | grind | (simp only [*]; done) | (simp [*]; done)))); (all_goals (conv => whnf)); (repeat' (first | exact trivial | rfl | (refine nilEq ?_; first | rfl | (simp only [*]; done) | (simp [*]; done) | grind) | apply And.intro | ((first | refine intEq ?_ | refine boolEq ?_ | refine strEq ?_ | refine psEq ?_ | refine nilEq ?_ | refine arrEq ?_); (try simp only [Int.toNat_natCast, etas, elDef]); first | done | omega | grind | (simp only [*]; done) | (simp [*]; done)) | ((try simp only [Int.toNat_natCast, etas, elDef]); first | done | omega | grind | (simp only [*]; done) | (simp [*]; done))))
  rintro i ⟨hi, hj⟩
  conv => whnf
  have htk := fun h => replayM_next (l := l) (i := i) h hj
  have h9 := fun h => applyCM_sm (s := (replayM (l.take i)).getD ⟨[], 0⟩) (c := l.getD i default) h
  have hks := keptM_succ (l := l) (v := v.toNat) (i := i)
  repeat' first
    | (refine Cnd.mk (fun h => ?_) (fun h => ?_) <;> (try simp [etas, elDef, -List.getD_eq_getElem?_getD] at h) <;> conv => whnf)
    | (refine Obl.mk (by first | omega | rfl | exact inK_byte _ | (simp only [inK, Int.toNat_natCast, etas, elDef] <;> first | omega | grind) | grind [inK]) ?_ <;> conv => whnf)
    | (refine OblG.mk (by conv => whnf
                          repeat (first | (refine Bx.mk ?_) | (intro h; (try simp [etas, elDef, -List.getD_eq_getElem?_getD] at h); conv => whnf))
                          first | omega | rfl | exact inK_byte _ | (simp only [inK, Int.toNat_natCast, etas, elDef] <;> first | omega | grind) | grind [inK]) ?_ <;> conv => whnf)
    | (refine Gd.mk (fun h => ?_) <;> (try simp [etas, elDef, -List.getD_eq_getElem?_getD] at h) <;> conv => whnf)
    | (refine And.intro ?_ ?_ <;> conv => whnf)
    | exact True.intro
    | (intro; conv => whnf)
  · have e := replayM_none ((htk (by assumption)).trans h)
    have e : stoAtM l v = none := by grind [stoAtM, logM]
    exact leafV hK (by rw [e]; (try simp only [etas, elDef, Int.toNat_natCast]); (first | done | rfl | simp [optS, stC]))
  · have e3 := htk (by assumption)
    rw [if_pos (by omega), e3] at hks
    exact ⟨i + 1, [], [39000], ⟨by omega, by rw [e3]; assumption⟩, by omega, by (conv => whnf); (repeat' (first | exact trivial | rfl | (refine nilEq ?_; first | rfl | (simp only [*]; done) | (simp [*]; done) | grind) | apply And.intro | ((first | refine intEq ?_ | refine boolEq ?_ | refine strEq ?_ | refine psEq ?_ | refine nilEq ?_ | refine arrEq ?_); (try simp only [Int.toNat_natCast, etas, elDef]); first | rw [e3] | rw [hks]))); (all_goals (conv => whnf)); (repeat' (first | exact trivial | rfl | (refine nilEq ?_; first | rfl | (simp only [*]; done) | (simp [*]; done) | grind) | apply And.intro | ((first | refine intEq ?_ | refine boolEq ?_ | refine strEq ?_ | refine psEq ?_ | refine nilEq ?_ | refine arrEq ?_); (try simp only [Int.toNat_natCast, etas, elDef]); first | rw [e3] | rw [hks]) | ((try simp only [Int.toNat_natCast, etas, elDef]); first | rw [e3] | rw [hks]))), (by exact sgOk_of (by rfl))⟩
  · have e3 := htk (by assumption)
    rw [if_neg (by omega)] at hks
    exact ⟨i + 1, [], [], ⟨by omega, by rw [e3]; assumption⟩, by omega, by (conv => whnf); (repeat' (first | exact trivial | rfl | (refine nilEq ?_; first | rfl | (simp only [*]; done) | (simp [*]; done) | grind) | apply And.intro | ((first | refine intEq ?_ | refine boolEq ?_ | refine strEq ?_ | refine psEq ?_ | refine nilEq ?_ | refine arrEq ?_); (try simp only [Int.toNat_natCast, etas, elDef]); first | rw [e3] | rw [hks]))); (all_goals (conv => whnf)); (repeat' (first | exact trivial | rfl | (refine nilEq ?_; first | rfl | (simp only [*]; done) | (simp [*]; done) | grind) | apply And.intro | ((first | refine intEq ?_ | refine boolEq ?_ | refine strEq ?_ | refine psEq ?_ | refine nilEq ?_ | refine arrEq ?_); (try simp only [Int.toNat_natCast, etas, elDef]); first | rw [e3] | rw [hks]) | ((try simp only [Int.toNat_natCast, etas, elDef]); first | rw [e3] | rw [hks]))), (by exact sgOk_of (by rfl))⟩
  · have e : i = l.length := by omega
    subst e
    rw [List.take_length] at hj
    have e : stoAtM l v = replayM (l.take v.toNat) := by grind [stoAtM, logM]
    have e2 := replay_take_isSome (i := v.toNat) hj
    exact leafV hK (by rw [e, keptM_end (by omega)]; simp only [optS, e2]; (try simp only [etas, elDef, Int.toNat_natCast]); (first | done | rfl | simp [optS, stC]))
theorem s36 : (CtrOK Try.prog 36 (.gen .ps C36) ∧ Callable Try.prog 36) := by
  refine gen_ok (E := E36) (mkE_cons s28 (mkE_cons s54 (mkE_nil tab_ok))) mix (O := O36) (C := C36) (own := .ps) Try.func36 rfl (by rfl) (by kernel_rfl) (fun args K h hbd => ?_)
  unfold C36 at h; split at h
  case h_2 => exact h.elim
  exact ⟨Nat.le_of_ble_eq_true rfl, a36 _ _ (by exact hbd) _ h⟩
noncomputable def c17 (l : List Chg) (K : AV → List AV → Prop) : Prop :=
    K (optS (logM l)) []
noncomputable def C17 : List AV → (AV → List AV → Prop) → Prop
  | [.ps .chg l], K => c17 l K
  | _, _ => False
noncomputable def E17 : Ctx := mkE tab [(36, .gen .ps C36)]
noncomputable def O17 : Nat → List DI := ordL []
theorem a17 (l : List Chg) (hb : BdAs [.ps .chg l]) (K : AV → List AV → Prop) (h : c17 l K) : abody E17 O17 .ps Try.f17 (Try.f17.body.getD .skip) [.ps .chg l] K := by
  simp only [BdAs, BdA, BdL, BdC, MX, ndC, shC, itC, stC, opC, chC, nwC, flC, rqC, rsC, enc, List.cons_append, List.nil_append, and_true, true_and] at hb
  unfold c17 at h
  have hK := h
  rw [← stoAt_len] at hK
  conv => whnf
  repeat' first
    | (refine Cnd.mk (fun h => ?_) (fun h => ?_) <;> (try simp [etas, elDef, -List.getD_eq_getElem?_getD] at h) <;> conv => whnf)
    | (refine Obl.mk (by first | omega | rfl | exact inK_byte _ | (simp only [inK, Int.toNat_natCast, etas, elDef] <;> first | omega | grind) | grind [inK]) ?_ <;> conv => whnf)
    | (refine OblG.mk (by conv => whnf
                          repeat (first | (refine Bx.mk ?_) | (intro h; (try simp [etas, elDef, -List.getD_eq_getElem?_getD] at h); conv => whnf))
                          first | omega | rfl | exact inK_byte _ | (simp only [inK, Int.toNat_natCast, etas, elDef] <;> first | omega | grind) | grind [inK]) ?_ <;> conv => whnf)
    | (refine Gd.mk (fun h => ?_) <;> (try simp [etas, elDef, -List.getD_eq_getElem?_getD] at h) <;> conv => whnf)
    | (refine And.intro ?_ ?_ <;> conv => whnf)
    | exact True.intro
    | (intro; conv => whnf)
  exact leafV hK (by (try simp only [etas, elDef, Int.toNat_natCast]); (first | done | rfl | simp [optS, stC]))
theorem s17 : (CtrOK Try.prog 17 (.gen .ps C17) ∧ Callable Try.prog 17) := by
  refine gen_ok (E := E17) (mkE_cons s36 (mkE_nil tab_ok)) mix (O := O17) (C := C17) (own := .ps) Try.func17 rfl (by rfl) (by kernel_rfl) (fun args K h hbd => ?_)
  unfold C17 at h; split at h
  case h_2 => exact h.elim
  exact ⟨Nat.le_of_ble_eq_true rfl, a17 _ (by exact hbd) _ h⟩
end Go.Rs

