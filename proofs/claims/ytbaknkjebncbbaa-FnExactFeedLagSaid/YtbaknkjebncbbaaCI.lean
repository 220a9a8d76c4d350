import Derived.Test.YtbaknkjebncbbaaCG
import Derived.Test.YtbaknkjebncbbaaMB
import Derived.Test.YtbaknkjebncbbaaDelC
set_option linter.all false
namespace Go.Rs
open Go.Proofs
set_option maxRecDepth 100000
set_option linter.unusedVariables false
set_option linter.unusedSimpArgs false
noncomputable def c72 (l : List It) (i : Int) (v : List It) (K : AV → List AV → Prop) : Prop :=
    Obl ((0 ≤ i ∧ i ≤ l.length) ∧ v.length = 1 ∧ l.length ≤ 2097152) (K (.own .item (l.take i.toNat ++ v ++ l.drop i.toNat)) [])
noncomputable def C72 : List AV → (AV → List AV → Prop) → Prop
  | [.own .item l, .int .i64 i, .own .item v], K => c72 l i v K
  | _, _ => False
theorem s72 : CtrOK Try.prog 72 (.gen .ow C72) ∧ Callable Try.prog 72 := by
  refine ⟨fun args K h => ?_, callable Try.func72 (by kernel_rfl) (by kernel_rfl)⟩
  unfold C72 at h
  split at h
  case h_2 => exact h.elim
  unfold c72 at h
  obtain ⟨h1, h2⟩ := h
  exact fun w γ S xs hi hn hf _ _ => insert_snd h1.1 h1.2.1 h1.2.2 h2 w γ S xs hi hn hf
noncomputable def c62 (l : List It) (i : Int) (j : Int) (K : AV → List AV → Prop) : Prop :=
    Obl (0 ≤ i ∧ j = i + 1 ∧ j ≤ l.length ∧ l.length ≤ 2097152) (K (.own .item (l.eraseIdx i.toNat)) [])
noncomputable def C62 : List AV → (AV → List AV → Prop) → Prop
  | [.own .item l, .int .i64 i, .int .i64 j], K => c62 l i j K
  | _, _ => False
theorem s62 : CtrOK Try.prog 62 (.gen .ow C62) ∧ Callable Try.prog 62 := by
  refine ⟨fun args K h => ?_, callable Try.func62 (by kernel_rfl) (by kernel_rfl)⟩
  unfold C62 at h
  split at h
  case h_2 => exact h.elim
  unfold c62 at h
  obtain ⟨h1, h2⟩ := h
  exact fun w γ S xs hi hn hf _ _ => delete_snd h1.1 h1.2.1 h1.2.2.1 h1.2.2.2 h2 w γ S xs hi hn hf
noncomputable def c63 (l : List It) (a : Bs) (v : Int) (kd : Int) (m : Int) (t : Bs) (ns : List Bs) (ks : List Nd) (K : AV → List AV → Prop) : Prop :=
    Obl (sortedI l ∧ l.length ≤ 2097152) (K (.own .item (putL l ⟨a, v, ⟨kd, m, t, ns, ks⟩⟩)) [])
noncomputable def C63 : List AV → (AV → List AV → Prop) → Prop
  | [.own .item l, .st [.str a, .int .i64 v, .int .i64 kd, .int .i64 m, .str t, .own .str ns, .own .node ks]], K => c63 l a v kd m t ns ks K
  | _, _ => False
noncomputable def E63 : Ctx := mkE tab [(61, .pure F61), (72, .gen .ow C72)]
noncomputable def O63 : Nat → List DI := ordL []
theorem a63 (l : List It) (a : Bs) (v : Int) (kd : Int) (m : Int) (t : Bs) (ns : List Bs) (ks : List Nd) (hb : BdAs [.own .item l, .st [.str a, .int .i64 v, .int .i64 kd, .int .i64 m, .str t, .own .str ns, .own .node ks]]) (K : AV → List AV → Prop) (h : c63 l a v kd m t ns ks K) : abody E63 O63 .ow Try.f63 (Try.f63.body.getD .skip) [.own .item l, .st [.str a, .int .i64 v, .int .i64 kd, .int .i64 m, .str t, .own .str ns, .own .node ks]] K := by
  simp only [BdAs, BdA, BdL, BdC, MX, ndC, shC, itC, stC, opC, chC, nwC, flC, rqC, rsC, enc, List.cons_append, List.nil_append, and_true, true_and] at hb
  unfold c63 at h
  obtain ⟨it, eit⟩ : ∃ it : It, it = ⟨a, v, ⟨kd, m, t, ns, ks⟩⟩ := ⟨_, rfl⟩
  have en : a = it.name := by rw [eit]
  rw [← eit] at h
  obtain ⟨⟨ho, hl⟩, hK⟩ := h
  have hle := lbI_le l it.name
  have hfl : foundI l it.name = true → lbI l it.name < l.length := fun h => by simp only [foundI, Bool.and_eq_true, decide_eq_true_eq] at h; exact h.1
  have hp1 := fun h => putL_found (it := it) (ascI_sorted.2 ho) h
  have hp2 := fun h => putL_new (it := it) (ascI_sorted.2 ho) h
  subst en
  conv => whnf
  repeat' first
    | (refine Cnd.mk (fun h => ?_) (fun h => ?_) <;> (try simp [etas, elDef, -List.getD_eq_getElem?_getD] at h) <;> conv => whnf)
    | (refine Obl.mk (by first | omega | rfl | exact inK_byte _ | (simp only [inK, Int.toNat_natCast, etas, elDef, o61] <;> first | omega | grind) | grind [inK, o61]) ?_ <;> conv => whnf)
    | (refine OblG.mk (by conv => whnf
                          repeat (first | (refine Bx.mk ?_) | (intro h; (try simp [etas, elDef, -List.getD_eq_getElem?_getD] at h); conv => whnf))
                          first | omega | rfl | exact inK_byte _ | (simp only [inK, Int.toNat_natCast, etas, elDef, o61] <;> first | omega | grind) | grind [inK, o61]) ?_ <;> conv => whnf)
    | (refine Gd.mk (fun h => ?_) <;> (try simp [etas, elDef, -List.getD_eq_getElem?_getD] at h) <;> conv => whnf)
    | (refine And.intro ?_ ?_ <;> conv => whnf)
    | exact True.intro
    | (intro; conv => whnf)
  · exact leafV hK (by rw [hp1 h]; (try simp only [etas, elDef, Int.toNat_natCast]); (first | done | rfl | simp [optS, stC]); rw [← eit])
  · exact leafV hK (by rw [hp2 h]; (try simp only [etas, elDef, Int.toNat_natCast]); (first | done | rfl | simp [optS, stC]); rw [← eit])
theorem s63 : (CtrOK Try.prog 63 (.gen .ow C63) ∧ Callable Try.prog 63) := by
  refine gen_ok (E := E63) (mkE_cons s61 (mkE_cons s72 (mkE_nil tab_ok))) mix (O := O63) (C := C63) (own := .ow) Try.func63 rfl (by rfl) (by kernel_rfl) (fun args K h hbd => ?_)
  unfold C63 at h; split at h
  case h_2 => exact h.elim
  exact ⟨Nat.le_of_ble_eq_true rfl, a63 _ _ _ _ _ _ _ _ (by exact hbd) _ h⟩
noncomputable def c55 (s : Sto) (b : Bs) (n : Nd) (K : AV → List AV → Prop) : Prop :=
    K (optS (putItemM s b n)) []
noncomputable def C55 : List AV → (AV → List AV → Prop) → Prop
  | [.st [.ps .item s_0, .int .i64 s_1], .str b, .st [.int .i64 n_0, .int .i64 n_1, .str n_2, .ps .str n_3, .ps .node n_4]], K => c55 ⟨s_0, s_1⟩ b ⟨n_0, n_1, n_2, n_3, n_4⟩ K
  | _, _ => False
noncomputable def E55 : Ctx := mkE tab [(19, .pure F19), (31, .pure F31), (32, .pure F32), (44, .gen .ow C44), (63, .gen .ow C63), (64, .gen .ow C64)]
noncomputable def O55 : Nat → List DI := ordL [(5, [.q 0, .q 1, .q 2, .q 3, .q 4, .q 5, .l 6 [1, 4], .q 7, .l 8 [], .q 9, .l 10 []])]
theorem a55 (s : Sto) (b : Bs) (n : Nd) (hb : BdAs [.st (stC s), .str b, .st (ndC n)]) (K : AV → List AV → Prop) (h : c55 s b n K) : abody E55 O55 .ps Try.f55 (Try.f55.body.getD .skip) [.st (stC s), .str b, .st (ndC n)] K := by
  simp only [BdAs, BdA, BdL, BdC, MX, ndC, shC, itC, stC, opC, chC, nwC, flC, rqC, rsC, enc, List.cons_append, List.nil_append, and_true, true_and] at hb
  unfold c55 at h
  have hK := h
  have h9 : storeM s = true → smS s ∧ sortedI s.items := fun h => ⟨storeM_sm h, storeM_sorted h⟩
  have h8 : storeM s = true → 0 ≤ s.clock ∧ s.clock ≤ 999 ∧ s.items.length ≤ 10 := storeM_clock
  have h7 : validM n = true → smN n := validM_sm
  conv => whnf
  repeat' first
    | (refine Cnd.mk (fun h => ?_) (fun h => ?_) <;> (try simp [etas, elDef, -List.getD_eq_getElem?_getD] at h) <;> conv => whnf)
    | (refine Obl.mk (by first | omega | rfl | exact inK_byte _ | (simp only [inK, Int.toNat_natCast, etas, elDef, m64] <;> first | omega | grind) | grind [inK, m64]) ?_ <;> conv => whnf)
    | (refine OblG.mk (by conv => whnf
                          repeat (first | (refine Bx.mk ?_) | (intro h; (try simp [etas, elDef, -List.getD_eq_getElem?_getD] at h); conv => whnf))
                          first | omega | rfl | exact inK_byte _ | (simp only [inK, Int.toNat_natCast, etas, elDef, m64] <;> first | omega | grind) | grind [inK, m64]) ?_ <;> conv => whnf)
    | (refine Gd.mk (fun h => ?_) <;> (try simp [etas, elDef, -List.getD_eq_getElem?_getD] at h) <;> conv => whnf)
    | (refine And.intro ?_ ?_ <;> conv => whnf)
    | exact True.intro
    | (intro; conv => whnf)
  · have e : putItemM s b n = none := by grind [putItemM]
    exact leafV hK (by rw [e]; (try simp only [etas, elDef, Int.toNat_natCast]); (first | done | rfl | simp [optS, stC]))
  · have e : putItemM s b n = none := by grind [putItemM, putS]
    exact leafV hK (by rw [e]; (try simp only [etas, elDef, Int.toNat_natCast]); (first | done | rfl | simp [optS, stC]))
  · have e : putItemM s b n = some (putS s b n) := by grind [putItemM, putS]
    exact leafV hK (by rw [e]; (try simp only [etas, elDef, Int.toNat_natCast]); (first | done | rfl | simp [optS, stC]))
theorem s55 : (CtrOK Try.prog 55 (.gen .ps C55) ∧ Callable Try.prog 55) := by
  refine gen_ok (E := E55) (mkE_cons s19 (mkE_cons s31 (mkE_cons s32 (mkE_cons s44 (mkE_cons s63 (mkE_cons s64 (mkE_nil tab_ok))))))) mix (O := O55) (C := C55) (own := .ps) Try.func55 rfl (by rfl) (by kernel_rfl) (fun args K h hbd => ?_)
  unfold C55 at h; split at h
  case h_2 => exact h.elim
  exact ⟨Nat.le_of_ble_eq_true rfl, a55 ⟨_, _⟩ _ ⟨_, _, _, _, _⟩ (by exact hbd) _ h⟩
noncomputable def c54 (s : Sto) (b : Bs) (K : AV → List AV → Prop) : Prop :=
    K (optS (dropItemM s b)) []
noncomputable def C54 : List AV → (AV → List AV → Prop) → Prop
  | [.st [.ps .item s_0, .int .i64 s_1], .str b], K => c54 ⟨s_0, s_1⟩ b K
  | _, _ => False
noncomputable def E54 : Ctx := mkE tab [(19, .pure F19), (44, .gen .ow C44), (61, .pure F61), (62, .gen .ow C62)]
noncomputable def O54 : Nat → List DI := ordL []
theorem a54 (s : Sto) (b : Bs) (hb : BdAs [.st (stC s), .str b]) (K : AV → List AV → Prop) (h : c54 s b K) : abody E54 O54 .ps Try.f54 (Try.f54.body.getD .skip) [.st (stC s), .str b] K := by
  simp only [BdAs, BdA, BdL, BdC, MX, ndC, shC, itC, stC, opC, chC, nwC, flC, rqC, rsC, enc, List.cons_append, List.nil_append, and_true, true_and] at hb
  unfold c54 at h
  have hK := h
  have h9 : storeM s = true → smS s ∧ sortedI s.items := fun h => ⟨storeM_sm h, storeM_sorted h⟩
  have h8 : storeM s = true → 0 ≤ s.clock ∧ s.clock ≤ 999 ∧ s.items.length ≤ 10 := storeM_clock
  have hfl : foundI s.items b = true → lbI s.items b < s.items.length := fun h => by simp only [foundI, Bool.and_eq_true, decide_eq_true_eq] at h; exact h.1
  conv => whnf
  repeat' first
    | (refine Cnd.mk (fun h => ?_) (fun h => ?_) <;> (try simp [etas, elDef, -List.getD_eq_getElem?_getD] at h) <;> conv => whnf)
    | (refine Obl.mk (by first | omega | rfl | exact inK_byte _ | (simp only [inK, Int.toNat_natCast, etas, elDef, o61] <;> first | omega | grind) | grind [inK, o61]) ?_ <;> conv => whnf)
    | (refine OblG.mk (by conv => whnf
                          repeat (first | (refine Bx.mk ?_) | (intro h; (try simp [etas, elDef, -List.getD_eq_getElem?_getD] at h); conv => whnf))
                          first | omega | rfl | exact inK_byte _ | (simp only [inK, Int.toNat_natCast, etas, elDef, o61] <;> first | omega | grind) | grind [inK, o61]) ?_ <;> conv => whnf)
    | (refine Gd.mk (fun h => ?_) <;> (try simp [etas, elDef, -List.getD_eq_getElem?_getD] at h) <;> conv => whnf)
    | (refine And.intro ?_ ?_ <;> conv => whnf)
    | exact True.intro
    | (intro; conv => whnf)
  · have e : dropItemM s b = none := by grind [dropItemM]
    exact leafV hK (by rw [e]; (try simp only [etas, elDef, Int.toNat_natCast]); (first | done | rfl | simp [optS, stC]))
  · have e1 := findI_new (ascI_sorted.2 (h9 (by assumption : _ ∧ _).1).2) h
    have e : dropItemM s b = none := by grind [dropItemM]
    exact leafV hK (by rw [e]; (try simp only [etas, elDef, Int.toNat_natCast]); (first | done | rfl | simp [optS, stC]))
  · have e1 := findI_found h
    have e2 := dropL_found (ascI_sorted.2 (h9 (by assumption : _ ∧ _).1).2) h
    have e : dropItemM s b = some (dropS s b) := by grind [dropItemM]
    exact leafV hK (by rw [e, dropS, e2]; (try simp only [etas, elDef, Int.toNat_natCast]); (first | done | rfl | simp [optS, stC]))
theorem s54 : (CtrOK Try.prog 54 (.gen .ps C54) ∧ Callable Try.prog 54) := by
  refine gen_ok (E := E54) (mkE_cons s19 (mkE_cons s44 (mkE_cons s61 (mkE_cons s62 (mkE_nil tab_ok))))) mix (O := O54) (C := C54) (own := .ps) Try.func54 rfl (by rfl) (by kernel_rfl) (fun args K h hbd => ?_)
  unfold C54 at h; split at h
  case h_2 => exact h.elim
  exact ⟨Nat.le_of_ble_eq_true rfl, a54 ⟨_, _⟩ _ (by exact hbd) _ h⟩
noncomputable def c43 (s : Sto) (c : Chg) (K : AV → List AV → Prop) : Prop :=
    K (optS (applyCM s c)) []
noncomputable def C43 : List AV → (AV → List AV → Prop) → Prop
  | [.st [.ps .item s_0, .int .i64 s_1], .st [.str c_0, .bool c_1, .int .i64 c_2_0, .int .i64 c_2_1, .str c_2_2, .ps .str c_2_3, .ps .node c_2_4]], K => c43 ⟨s_0, s_1⟩ ⟨c_0, c_1, ⟨c_2_0, c_2_1, c_2_2, c_2_3, c_2_4⟩⟩ K
  | _, _ => False
noncomputable def E43 : Ctx := mkE tab [(19, .pure F19), (53, .pure F53), (54, .gen .ps C54), (55, .gen .ps C55)]
noncomputable def O43 : Nat → List DI := ordL []
theorem a43 (s : Sto) (c : Chg) (hb : BdAs [.st (stC s), .st (chC c)]) (K : AV → List AV → Prop) (h : c43 s c K) : abody E43 O43 .ps Try.f43 (Try.f43.body.getD .skip) [.st (stC s), .st (chC c)] K := by
  simp only [BdAs, BdA, BdL, BdC, MX, ndC, shC, itC, stC, opC, chC, nwC, flC, rqC, rsC, enc, List.cons_append, List.nil_append, and_true, true_and] at hb
  unfold c43 at h
  have hK := h
  conv => whnf
  repeat' first
    | (refine Cnd.mk (fun h => ?_) (fun h => ?_) <;> (try simp [etas, elDef, -List.getD_eq_getElem?_getD] at h) <;> conv => whnf)
    | (refine Obl.mk (by first | omega | rfl | exact inK_byte _ | (simp only [inK, Int.toNat_natCast, etas, elDef] <;> first | omega | grind) | grind [inK]) ?_ <;> conv => whnf)
    | (refine OblG.mk (by conv => whnf
                          repeat (first | (refine Bx.mk ?_) | (intro h; (try simp [etas, elDef, -List.getD_eq_getElem?_getD] at h); conv => whnf))
                          first | omega | rfl | exact inK_byte _ | (simp only [inK, Int.toNat_natCast, etas, elDef] <;> first | omega | grind) | grind [inK]) ?_ <;> conv => whnf)
    | (refine Gd.mk (fun h => ?_) <;> (try simp [etas, elDef, -List.getD_eq_getElem?_getD] at h) <;> conv => whnf)
    | (refine And.intro ?_ ?_ <;> conv => whnf)
    | exact True.intro
    | (intro; conv => whnf)
  · have e : applyCM s c = none := by grind [applyCM]
    exact leafV hK (by rw [e]; (try simp only [etas, elDef, Int.toNat_natCast]); (first | done | rfl | simp [optS, stC]))
  · have e : applyCM s c = dropItemM s c.name := by grind [applyCM, applyM]
    exact leafV hK (by rw [e]; (try simp only [etas, elDef, Int.toNat_natCast]); (first | done | rfl | simp [optS, stC]))
  · have e : applyCM s c = putItemM s c.name c.node := by grind [applyCM, applyM]
    exact leafV hK (by rw [e]; (try simp only [etas, elDef, Int.toNat_natCast]); (first | done | rfl | simp [optS, stC]))
theorem s43 : (CtrOK Try.prog 43 (.gen .ps C43) ∧ Callable Try.prog 43) := by
  refine gen_ok (E := E43) (mkE_cons s19 (mkE_cons s53 (mkE_cons s54 (mkE_cons s55 (mkE_nil tab_ok))))) mix (O := O43) (C := C43) (own := .ps) Try.func43 rfl (by rfl) (by kernel_rfl) (fun args K h hbd => ?_)
  unfold C43 at h; split at h
  case h_2 => exact h.elim
  exact ⟨Nat.le_of_ble_eq_true rfl, a43 ⟨_, _⟩ ⟨_, _, ⟨_, _, _, _, _⟩⟩ (by exact hbd) _ h⟩
noncomputable def c30 (l : List Chg) (v : Int) (K : AV → List AV → Prop) : Prop :=
    Obl (0 ≤ v ∧ v ≤ l.length) (K (optS (stoAtM l v)) [])
noncomputable def C30 : List AV → (AV → List AV → Prop) → Prop
  | [.ps .chg l, .int .i64 v], K => c30 l v K
  | _, _ => False
noncomputable def E30 : Ctx := mkE tab [(43, .gen .ps C43), (44, .gen .ow C44)]
noncomputable def O30 : Nat → List DI := ordL []
theorem a30 (l : List Chg) (v : Int) (hb : BdAs [.ps .chg l, .int .i64 v]) (K : AV → List AV → Prop) (h : c30 l v K) : abody E30 O30 .ps Try.f30 (Try.f30.body.getD .skip) [.ps .chg l, .int .i64 v] K := by
  simp only [BdAs, BdA, BdL, BdC, MX, ndC, shC, itC, stC, opC, chC, nwC, flC, rqC, rsC, enc, List.cons_append, List.nil_append, and_true, true_and] at hb
  unfold c30 at h
  obtain ⟨hv, hK⟩ := h
  have h00 : (replayM []).isSome = true := rfl
  have h01 := keptM_zero l v.toNat
  have h02 : stC ⟨[], 0⟩ = [.ps .item [], .int .i64 0] := rfl
  have h03 : (replayM []).getD ⟨[], 0⟩ = ⟨[], 0⟩ := rfl
  conv => whnf
  repeat' first
    | (refine Cnd.mk (fun h => ?_) (fun h => ?_) <;> (try simp [etas, elDef, -List.getD_eq_getElem?_getD] at h) <;> conv => whnf)
    | (refine Obl.mk (by first | omega | rfl | exact inK_byte _ | (simp only [inK, Int.toNat_natCast, etas, elDef] <;> first | omega | grind) | grind [inK]) ?_ <;> conv => whnf)
    | (refine OblG.mk (by conv => whnf
                          repeat (first | (refine Bx.mk ?_) | (intro h; (try simp [etas, elDef, -List.getD_eq_getElem?_getD] at h); conv => whnf))
                          first | omega | rfl | exact inK_byte _ | (simp only [inK, Int.toNat_natCast, etas, elDef] <;> first | omega | grind) | grind [inK]) ?_ <;> conv => whnf)
    | (refine Gd.mk (fun h => ?_) <;> (try simp [etas, elDef, -List.getD_eq_getElem?_getD] at h) <;> conv => whnf)
    | (refine And.intro ?_ ?_ <;> conv => whnf)
    | exact True.intro
    | (intro; conv => whnf)
  · have e : stoAtM l v = none := by grind [stoAtM, logM]
    exact leafV hK (by rw [e]; (try simp only [etas, elDef, Int.toNat_natCast]); (first | done | rfl | simp [optS, stC]))
  refine aloop_intro Nat (fun k => k ≤ l.length ∧ (replayM (l.take k)).isSome = true) (fun k => l.length - k) (fun k => [(18, .int .i64 k)]) (fun k => [(6, .box (stC ((replayM (l.take k)).getD ⟨[], 0⟩))), (7, .box (stC (keptM l v.toNat k)))]) [4] 0 [] [] ?_ ?_ (by exact sgOk_of (by rfl)) ?_
  · first | (simp; done) | (simp; assumption)
  · (conv => whnf); (repeat' (first | exact trivial | rfl | (refine nilEq ?_; first | rfl | (simp only [*]; done) | (simp [*]; done) | grind) | apply And.intro | ((first | refine intEq ?_ | refine boolEq ?_ | refine strEq ?_ | refine psEq ?_ | refine nilEq ?_ | refine arrEq ?_); (try simp only [Int.toNat_natCast, etas, elDef]); first | done | omega | grind | (simp only [*]; done) | (simp [*]; done)))); (all_goals (conv => whnf)); (repeat' (first | exact trivial | rfl | (refine nilEq ?_; first | rfl | (simp only [*]; done) | (simp [*]; done) | grind) | apply And.intro | ((first | refine intEq ?_ | refine boolEq ?_ | refine strEq ?_ | refine psEq ?_ | refine nilEq ?_ | refine arrEq ?_); (try simp only [Int.toNat_natCast, etas, elDef]); first | done | omega | grind | (simp only [*]; done) | (simp [*]; done)) | ((try simp only [Int.toNat_natCast, etas, elDef]); first | done | omega | grind | (simp only [*]; done) | (simp [*]; done))))
  rintro i ⟨hi, hj⟩
  conv => whnf
  have htk := fun h => replayM_next (l := l) (i := i) h hj
  have h9 := fun h => applyCM_sm (s := (replayM (l.take i)).getD ⟨[], 0⟩) (c := l.getD i default) h
  have hks := keptM_succ (l := l) (v := v.toNat) (i := i)
  repeat' first
    | (refine Cnd.mk (fun h => ?_) (fun h => ?_) <;> (try simp [etas, elDef, -List.getD_eq_getElem?_getD] at h) <;> conv => whnf)
    | (refine Obl.mk (by first | omega | rfl | exact inK_byte _ | (simp only [inK, Int.toNat_natCast, etas, elDef] <;> first | omega | grind) | grind [inK]) ?_ <;> conv => whnf)
    | (refine OblG.mk (by conv => whnf
                          repeat (first | (refine Bx.mk ?_) | (intro h; (try simp [etas, elDef, -List.getD_eq_getElem?_getD] at h); conv => whnf))
                          first | omega | rfl | exact inK_byte _ | (simp only [inK, Int.toNat_natCast, etas, elDef] <;> first | omega | grind) | grind [inK]) ?_ <;> conv => whnf)
    | (refine Gd.mk (fun h => ?_) <;> (try simp [etas, elDef, -List.getD_eq_getElem?_getD] at h) <;> conv => whnf)
    | (refine And.intro ?_ ?_ <;> conv => whnf)
    | exact True.intro
    | (intro; conv => whnf)
  · have e := replayM_none ((htk (by assumption)).trans h)
    have e : stoAtM l v = none := by grind [stoAtM, logM]
    exact leafV hK (by rw [e]; (try simp only [etas, elDef, Int.toNat_natCast]); (first | done | rfl | simp [optS, stC]))
  · have e3 := htk (by assumption)
    rw [if_pos (by omega), e3] at hks
    exact ⟨i + 1, [], [39000], ⟨by omega, by rw [e3]; assumption⟩, by omega, by (conv => whnf); (repeat' (first | exact trivial | rfl | (refine nilEq ?_; first | rfl | (simp only [*]; done) | (simp [*]; done) | grind) | apply And.intro | ((first | refine intEq ?_ | refine boolEq ?_ | refine strEq ?_ | refine psEq ?_ | refine nilEq ?_ | refine arrEq ?_); (try simp only [Int.toNat_natCast, etas, elDef]); first | rw [e3] | rw [hks]))); (all_goals (conv => whnf)); (repeat' (first | exact trivial | rfl | (refine nilEq ?_; first | rfl | (simp only [*]; done) | (simp [*]; done) | grind) | apply And.intro | ((first | refine intEq ?_ | refine boolEq ?_ | refine strEq ?_ | refine psEq ?_ | refine nilEq ?_ | refine arrEq ?_); (try simp only [Int.toNat_natCast, etas, elDef]); first | rw [e3] | rw [hks]) | ((try simp only [Int.toNat_natCast, etas, elDef]); first | rw [e3] | rw [hks]))), (by exact sgOk_of (by rfl))⟩
  · have e3 := htk (by assumption)
    rw [if_neg (by omega)] at hks
    exact ⟨i + 1, [], [], ⟨by omega, by rw [e3]; assumption⟩, by omega, by (conv => whnf); (repeat' (first | exact trivial | rfl | (refine nilEq ?_; first | rfl | (simp only [*]; done) | (simp [*]; done) | grind) | apply And.intro | ((first | refine intEq ?_ | refine boolEq ?_ | refine strEq ?_ | refine psEq ?_ | refine nilEq ?_ | refine arrEq ?_); (try simp only [Int.toNat_natCast, etas, elDef]); first | rw [e3] | rw [hks]))); (all_goals (conv => whnf)); (repeat' (first | exact trivial | rfl | (refine nilEq ?_; first | rfl | (simp only [*]; done) | (simp [*]; done) | grind) | apply And.intro | ((first | refine intEq ?_ | refine boolEq ?_ | refine strEq ?_ | refine psEq ?_ | refine nilEq ?_ | refine arrEq ?_); (try simp only [Int.toNat_natCast, etas, elDef]); first | rw [e3] | rw [hks]) | ((try simp only [Int.toNat_natCast, etas, elDef]); first | rw [e3] | rw [hks]))), (by exact sgOk_of (by rfl))⟩
  · have e : i = l.length := by omega
    subst e
    rw [List.take_length] at hj
    have e : stoAtM l v = replayM (l.take v.toNat) := by grind [stoAtM, logM]
    have e2 := replay_take_isSome (i := v.toNat) hj
    exact leafV hK (by rw [e, keptM_end (by omega)]; simp only [optS, e2]; (try simp only [etas, elDef, Int.toNat_natCast]); (first | done | rfl | simp [optS, stC]))
theorem s30 : (CtrOK Try.prog 30 (.gen .ps C30) ∧ Callable Try.prog 30) := by
  refine gen_ok (E := E30) (mkE_cons s43 (mkE_cons s44 (mkE_nil tab_ok))) mix (O := O30) (C := C30) (own := .ps) Try.func30 rfl (by rfl) (by kernel_rfl) (fun args K h hbd => ?_)
  unfold C30 at h; split at h
  case h_2 => exact h.elim
  exact ⟨Nat.le_of_ble_eq_true rfl, a30 _ _ (by exact hbd) _ h⟩
noncomputable def c18 (l : List Chg) (K : AV → List AV → Prop) : Prop :=
    K (optS (logM l)) []
noncomputable def C18 : List AV → (AV → List AV → Prop) → Prop
  | [.ps .chg l], K => c18 l K
  | _, _ => False
noncomputable def E18 : Ctx := mkE tab [(30, .gen .ps C30)]
noncomputable def O18 : Nat → List DI := ordL []
theorem a18 (l : List Chg) (hb : BdAs [.ps .chg l]) (K : AV → List AV → Prop) (h : c18 l K) : abody E18 O18 .ps Try.f18 (Try.f18.body.getD .skip) [.ps .chg l] K := by
  simp only [BdAs, BdA, BdL, BdC, MX, ndC, shC, itC, stC, opC, chC, nwC, flC, rqC, rsC, enc, List.cons_append, List.nil_append, and_true, true_and] at hb
  unfold c18 at h
  have hK := h
  rw [← stoAt_len] at hK
  conv => whnf
  repeat' first
    | (refine Cnd.mk (fun h => ?_) (fun h => ?_) <;> (try simp [etas, elDef, -List.getD_eq_getElem?_getD] at h) <;> conv => whnf)
    | (refine Obl.mk (by first | omega | rfl | exact inK_byte _ | (simp only [inK, Int.toNat_natCast, etas, elDef] <;> first | omega | grind) | grind [inK]) ?_ <;> conv => whnf)
    | (refine OblG.mk (by conv => whnf
                          repeat (first | (refine Bx.mk ?_) | (intro h; (try simp [etas, elDef, -List.getD_eq_getElem?_getD] at h); conv => whnf))
                          first | omega | rfl | exact inK_byte _ | (simp only [inK, Int.toNat_natCast, etas, elDef] <;> first | omega | grind) | grind [inK]) ?_ <;> conv => whnf)
    | (refine Gd.mk (fun h => ?_) <;> (try simp [etas, elDef, -List.getD_eq_getElem?_getD] at h) <;> conv => whnf)
    | (refine And.intro ?_ ?_ <;> conv => whnf)
    | exact True.intro
    | (intro; conv => whnf)
  exact leafV hK (by (try simp only [etas, elDef, Int.toNat_natCast]); (first | done | rfl | simp [optS, stC]))
theorem s18 : (CtrOK Try.prog 18 (.gen .ps C18) ∧ Callable Try.prog 18) := by
  refine gen_ok (E := E18) (mkE_cons s30 (mkE_nil tab_ok)) mix (O := O18) (C := C18) (own := .ps) Try.func18 rfl (by rfl) (by kernel_rfl) (fun args K h hbd => ?_)
  unfold C18 at h; split at h
  case h_2 => exact h.elim
  exact ⟨Nat.le_of_ble_eq_true rfl, a18 _ (by exact hbd) _ h⟩
end Go.Rs

