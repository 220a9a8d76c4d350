import Derived.Test.YtmkgadogaefkaaaCG
import Derived.Test.YtmkgadogaefkaaaMB
import Derived.Test.YtmkgadogaefkaaaDelC
set_option linter.all false
set_option linter.unusedSimpArgs false
set_option linter.unusedVariables false
namespace Go.Rs
open Go.Proofs
set_option maxRecDepth 100000
noncomputable def c68 (l : List It) (i : Int) (v : List It) (K : AV → List AV → Prop) : Prop :=
    Obl ((0 ≤ i ∧ i ≤ l.length) ∧ v.length = 1 ∧ l.length ≤ 2097152) (K (.own .item (l.take i.toNat ++ v ++ l.drop i.toNat)) [])
noncomputable def C68 : List AV → (AV → List AV → Prop) → Prop
  | [.own .item l, .int .i64 i, .own .item v], K => c68 l i v K
  | _, _ => False
theorem s68 : CtrOK Try.prog 68 (.gen .ow C68) ∧ Callable Try.prog 68 := by
  refine ⟨fun args K h => ?_, callable Try.func68 (by kernel_rfl) (by kernel_rfl)⟩
  unfold C68 at h
  split at h
  case h_2 => exact h.elim
  unfold c68 at h
  obtain ⟨h1, h2⟩ := h
  exact fun w γ S xs hi hn hf _ _ => insert_snd h1.1 h1.2.1 h1.2.2 h2 w γ S xs hi hn hf
noncomputable def c36 (l : List It) (i : Int) (j : Int) (K : AV → List AV → Prop) : Prop :=
    Obl (0 ≤ i ∧ j = i + 1 ∧ j ≤ l.length ∧ l.length ≤ 2097152) (K (.own .item (l.eraseIdx i.toNat)) [])
noncomputable def C36 : List AV → (AV → List AV → Prop) → Prop
  | [.own .item l, .int .i64 i, .int .i64 j], K => c36 l i j K
  | _, _ => False
theorem s36 : CtrOK Try.prog 36 (.gen .ow C36) ∧ Callable Try.prog 36 := by
  refine ⟨fun args K h => ?_, callable Try.func36 (by kernel_rfl) (by kernel_rfl)⟩
  unfold C36 at h
  split at h
  case h_2 => exact h.elim
  unfold c36 at h
  obtain ⟨h1, h2⟩ := h
  exact fun w γ S xs hi hn hf _ _ => delete_snd h1.1 h1.2.1 h1.2.2.1 h1.2.2.2 h2 w γ S xs hi hn hf
noncomputable def c33 (l : List It) (a : Bs) (v : Int) (kd : Int) (m : Int) (t : Bs) (ns : List Bs) (ks : List Nd) (K : AV → List AV → Prop) : Prop :=
    Obl (sortedI l ∧ l.length ≤ 2097152) (K (.own .item (putL l ⟨a, v, ⟨kd, m, t, ns, ks⟩⟩)) [])
noncomputable def C33 : List AV → (AV → List AV → Prop) → Prop
  | [.own .item l, .st [.str a, .int .i64 v, .int .i64 kd, .int .i64 m, .str t, .own .str ns, .own .node ks]], K => c33 l a v kd m t ns ks K
  | _, _ => False
noncomputable def E33 : Ctx := mkE tab [(35, .pure F35), (68, .gen .ow C68)]
noncomputable def O33 : Nat → List DI := ordL []
theorem a33 (l : List It) (a : Bs) (v : Int) (kd : Int) (m : Int) (t : Bs) (ns : List Bs) (ks : List Nd) (hb : BdAs [.own .item l, .st [.str a, .int .i64 v, .int .i64 kd, .int .i64 m, .str t, .own .str ns, .own .node ks]]) (K : AV → List AV → Prop) (h : c33 l a v kd m t ns ks K) : abody E33 O33 .ow Try.f33 (Try.f33.body.getD .skip) [.own .item l, .st [.str a, .int .i64 v, .int .i64 kd, .int .i64 m, .str t, .own .str ns, .own .node ks]] K := by
  simp only [BdAs, BdA, BdL, BdC, MX, ndC, shC, itC, stC, opC, chC, nwC, flC, rqC, rsC, enc, List.cons_append, List.nil_append, and_true, true_and] at hb
  unfold c33 at h
  obtain ⟨it, eit⟩ : ∃ it : It, it = ⟨a, v, ⟨kd, m, t, ns, ks⟩⟩ := ⟨_, rfl⟩
  have en : a = it.name := by rw [eit]
  rw [← eit] at h
  obtain ⟨⟨ho, hl⟩, hK⟩ := h
  have hle := lbI_le l it.name
  have hfl : foundI l it.name = true → lbI l it.name < l.length := fun h => by simp only [foundI, Bool.and_eq_true, decide_eq_true_eq] at h; exact h.1
  have hp1 := fun h => putL_found (it := it) (ascI_sorted.2 ho) h
  have hp2 := fun h => putL_new (it := it) (ascI_sorted.2 ho) h
  subst en
  conv => whnf
  repeat' first|(refine Cnd.mk (fun h=>?_) (fun h=>?_)<;>(try simp [etas,elDef,-List.getD_eq_getElem?_getD] at h)<;>conv=>whnf)|(refine Obl.mk (by first|omega|rfl|exact inK_byte _|(simp only [inK,Int.toNat_natCast,etas,elDef,o35]<;>first|omega|grind)|grind [inK,o35]) ?_<;>conv=>whnf)|(refine OblG.mk (by ((conv=>whnf);(repeat (first|(refine Bx.mk ?_)|(intro h;(try simp [etas,elDef,-List.getD_eq_getElem?_getD] at h);conv=>whnf)));(first|omega|rfl|exact inK_byte _|(simp only [inK,Int.toNat_natCast,etas,elDef,o35]<;>first|omega|grind)|grind [inK,o35]))) ?_<;>conv=>whnf)|(refine Gd.mk (fun h=>?_)<;>(try simp [etas,elDef,-List.getD_eq_getElem?_getD] at h)<;>conv=>whnf)|(refine And.intro ?_ ?_<;>conv=>whnf)|exact True.intro|(intro;conv=>whnf)
  · exact leafV hK (by rw [hp1 h]; (try simp only [etas, elDef, Int.toNat_natCast]); (first | done | rfl | simp [optS, stC]); rw [← eit])
  · exact leafV hK (by rw [hp2 h]; (try simp only [etas, elDef, Int.toNat_natCast]); (first | done | rfl | simp [optS, stC]); rw [← eit])
theorem s33 : (CtrOK Try.prog 33 (.gen .ow C33) ∧ Callable Try.prog 33) := by
  refine gen_ok (E := E33) (mkE_cons s35 (mkE_cons s68 (mkE_nil tab_ok))) mix (O := O33) (C := C33) (own := .ow) Try.func33 rfl (by rfl) (by kernel_rfl) (fun args K h hbd => ?_)
  unfold C33 at h; split at h
  case h_2 => exact h.elim
  exact ⟨Nat.le_of_ble_eq_true rfl, a33 _ _ _ _ _ _ _ _ (by exact hbd) _ h⟩
noncomputable def c100 (s : Sto) (b : Bs) (n : Nd) (K : AV → List AV → Prop) : Prop :=
    K (optS (putItemM s b n)) []
noncomputable def C100 : List AV → (AV → List AV → Prop) → Prop
  | [.st [.ps .item s_0, .int .i64 s_1], .str b, .st [.int .i64 n_0, .int .i64 n_1, .str n_2, .ps .str n_3, .ps .node n_4]], K => c100 ⟨s_0, s_1⟩ b ⟨n_0, n_1, n_2, n_3, n_4⟩ K
  | _, _ => False
noncomputable def E100 : Ctx := mkE tab [(30, .pure F30), (32, .gen .ow C32), (33, .gen .ow C33), (34, .gen .ow C34), (64, .pure F64), (65, .pure F65)]
noncomputable def O100 : Nat → List DI := ordL [(5, [.q 0, .q 1, .q 2, .q 3, .q 4, .q 5, .l 6 [1, 4], .q 7, .l 8 [], .q 9, .l 10 []])]
theorem a100 (s : Sto) (b : Bs) (n : Nd) (hb : BdAs [.st (stC s), .str b, .st (ndC n)]) (K : AV → List AV → Prop) (h : c100 s b n K) : abody E100 O100 .ps Try.f100 (Try.f100.body.getD .skip) [.st (stC s), .str b, .st (ndC n)] K := by
  simp only [BdAs, BdA, BdL, BdC, MX, ndC, shC, itC, stC, opC, chC, nwC, flC, rqC, rsC, enc, List.cons_append, List.nil_append, and_true, true_and] at hb
  unfold c100 at h
  have hK := h
  have h9 : storeM s = true → smS s ∧ sortedI s.items := fun h => ⟨storeM_sm h, storeM_sorted h⟩
  have h8 : storeM s = true → 0 ≤ s.clock ∧ s.clock ≤ 999 ∧ s.items.length ≤ 10 := storeM_clock
  have h7 : validM n = true → smN n := validM_sm
  conv => whnf
  repeat' first|(refine Cnd.mk (fun h=>?_) (fun h=>?_)<;>(try simp [etas,elDef,-List.getD_eq_getElem?_getD] at h)<;>conv=>whnf)|(refine Obl.mk (by first|omega|rfl|exact inK_byte _|(simp only [inK,Int.toNat_natCast,etas,elDef,m34]<;>first|omega|grind)|grind [inK,m34]) ?_<;>conv=>whnf)|(refine OblG.mk (by ((conv=>whnf);(repeat (first|(refine Bx.mk ?_)|(intro h;(try simp [etas,elDef,-List.getD_eq_getElem?_getD] at h);conv=>whnf)));(first|omega|rfl|exact inK_byte _|(simp only [inK,Int.toNat_natCast,etas,elDef,m34]<;>first|omega|grind)|grind [inK,m34]))) ?_<;>conv=>whnf)|(refine Gd.mk (fun h=>?_)<;>(try simp [etas,elDef,-List.getD_eq_getElem?_getD] at h)<;>conv=>whnf)|(refine And.intro ?_ ?_<;>conv=>whnf)|exact True.intro|(intro;conv=>whnf)
  · have e : putItemM s b n = none := by grind [putItemM]
    exact leafV hK (by rw [e]; (try simp only [etas, elDef, Int.toNat_natCast]); (first | done | rfl | simp [optS, stC]))
  · have e : putItemM s b n = none := by grind [putItemM, putS]
    exact leafV hK (by rw [e]; (try simp only [etas, elDef, Int.toNat_natCast]); (first | done | rfl | simp [optS, stC]))
  · have e : putItemM s b n = some (putS s b n) := by grind [putItemM, putS]
    exact leafV hK (by rw [e]; (try simp only [etas, elDef, Int.toNat_natCast]); (first | done | rfl | simp [optS, stC]))
theorem s100 : (CtrOK Try.prog 100 (.gen .ps C100) ∧ Callable Try.prog 100) := by
  refine gen_ok (E := E100) (mkE_cons s30 (mkE_cons s32 (mkE_cons s33 (mkE_cons s34 (mkE_cons s64 (mkE_cons s65 (mkE_nil tab_ok))))))) mix (O := O100) (C := C100) (own := .ps) Try.func100 rfl (by rfl) (by kernel_rfl) (fun args K h hbd => ?_)
  unfold C100 at h; split at h
  case h_2 => exact h.elim
  exact ⟨Nat.le_of_ble_eq_true rfl, a100 ⟨_, _⟩ _ ⟨_, _, _, _, _⟩ (by exact hbd) _ h⟩
noncomputable def c99 (s : Sto) (b : Bs) (K : AV → List AV → Prop) : Prop :=
    K (optS (dropItemM s b)) []
noncomputable def C99 : List AV → (AV → List AV → Prop) → Prop
  | [.st [.ps .item s_0, .int .i64 s_1], .str b], K => c99 ⟨s_0, s_1⟩ b K
  | _, _ => False
noncomputable def E99 : Ctx := mkE tab [(30, .pure F30), (32, .gen .ow C32), (35, .pure F35), (36, .gen .ow C36)]
noncomputable def O99 : Nat → List DI := ordL []
theorem a99 (s : Sto) (b : Bs) (hb : BdAs [.st (stC s), .str b]) (K : AV → List AV → Prop) (h : c99 s b K) : abody E99 O99 .ps Try.f99 (Try.f99.body.getD .skip) [.st (stC s), .str b] K := by
  simp only [BdAs, BdA, BdL, BdC, MX, ndC, shC, itC, stC, opC, chC, nwC, flC, rqC, rsC, enc, List.cons_append, List.nil_append, and_true, true_and] at hb
  unfold c99 at h
  have hK := h
  have h9 : storeM s = true → smS s ∧ sortedI s.items := fun h => ⟨storeM_sm h, storeM_sorted h⟩
  have h8 : storeM s = true → 0 ≤ s.clock ∧ s.clock ≤ 999 ∧ s.items.length ≤ 10 := storeM_clock
  have hfl : foundI s.items b = true → lbI s.items b < s.items.length := fun h => by simp only [foundI, Bool.and_eq_true, decide_eq_true_eq] at h; exact h.1
  conv => whnf
  repeat' first|(refine Cnd.mk (fun h=>?_) (fun h=>?_)<;>(try simp [etas,elDef,-List.getD_eq_getElem?_getD] at h)<;>conv=>whnf)|(refine Obl.mk (by first|omega|rfl|exact inK_byte _|(simp only [inK,Int.toNat_natCast,etas,elDef,o35]<;>first|omega|grind)|grind [inK,o35]) ?_<;>conv=>whnf)|(refine OblG.mk (by ((conv=>whnf);(repeat (first|(refine Bx.mk ?_)|(intro h;(try simp [etas,elDef,-List.getD_eq_getElem?_getD] at h);conv=>whnf)));(first|omega|rfl|exact inK_byte _|(simp only [inK,Int.toNat_natCast,etas,elDef,o35]<;>first|omega|grind)|grind [inK,o35]))) ?_<;>conv=>whnf)|(refine Gd.mk (fun h=>?_)<;>(try simp [etas,elDef,-List.getD_eq_getElem?_getD] at h)<;>conv=>whnf)|(refine And.intro ?_ ?_<;>conv=>whnf)|exact True.intro|(intro;conv=>whnf)
  · have e : dropItemM s b = none := by grind [dropItemM]
    exact leafV hK (by rw [e]; (try simp only [etas, elDef, Int.toNat_natCast]); (first | done | rfl | simp [optS, stC]))
  · have e1 := findI_new (ascI_sorted.2 (h9 (by assumption : _ ∧ _).1).2) h
    have e : dropItemM s b = none := by grind [dropItemM]
    exact leafV hK (by rw [e]; (try simp only [etas, elDef, Int.toNat_natCast]); (first | done | rfl | simp [optS, stC]))
  · have e1 := findI_found h
    have e2 := dropL_found (ascI_sorted.2 (h9 (by assumption : _ ∧ _).1).2) h
    have e : dropItemM s b = some (dropS s b) := by grind [dropItemM]
    exact leafV hK (by rw [e, dropS, e2]; (try simp only [etas, elDef, Int.toNat_natCast]); (first | done | rfl | simp [optS, stC]))
theorem s99 : (CtrOK Try.prog 99 (.gen .ps C99) ∧ Callable Try.prog 99) := by
  refine gen_ok (E := E99) (mkE_cons s30 (mkE_cons s32 (mkE_cons s35 (mkE_cons s36 (mkE_nil tab_ok))))) mix (O := O99) (C := C99) (own := .ps) Try.func99 rfl (by rfl) (by kernel_rfl) (fun args K h hbd => ?_)
  unfold C99 at h; split at h
  case h_2 => exact h.elim
  exact ⟨Nat.le_of_ble_eq_true rfl, a99 ⟨_, _⟩ _ (by exact hbd) _ h⟩
noncomputable def c90 (s : Sto) (c : Chg) (K : AV → List AV → Prop) : Prop :=
    K (optS (applyCM s c)) []
noncomputable def C90 : List AV → (AV → List AV → Prop) → Prop
  | [.st [.ps .item s_0, .int .i64 s_1], .st [.str c_0, .bool c_1, .int .i64 c_2_0, .int .i64 c_2_1, .str c_2_2, .ps .str c_2_3, .ps .node c_2_4]], K => c90 ⟨s_0, s_1⟩ ⟨c_0, c_1, ⟨c_2_0, c_2_1, c_2_2, c_2_3, c_2_4⟩⟩ K
  | _, _ => False
noncomputable def E90 : Ctx := mkE tab [(30, .pure F30), (83, .pure F83), (99, .gen .ps C99), (100, .gen .ps C100)]
noncomputable def O90 : Nat → List DI := ordL []
theorem a90 (s : Sto) (c : Chg) (hb : BdAs [.st (stC s), .st (chC c)]) (K : AV → List AV → Prop) (h : c90 s c K) : abody E90 O90 .ps Try.f90 (Try.f90.body.getD .skip) [.st (stC s), .st (chC c)] K := by
  simp only [BdAs, BdA, BdL, BdC, MX, ndC, shC, itC, stC, opC, chC, nwC, flC, rqC, rsC, enc, List.cons_append, List.nil_append, and_true, true_and] at hb
  unfold c90 at h
  have hK := h
  conv => whnf
  repeat' first|(refine Cnd.mk (fun h=>?_) (fun h=>?_)<;>(try simp [etas,elDef,-List.getD_eq_getElem?_getD] at h)<;>conv=>whnf)|(refine Obl.mk (by first|omega|rfl|exact inK_byte _|(simp only [inK,Int.toNat_natCast,etas,elDef]<;>first|omega|grind)|grind [inK]) ?_<;>conv=>whnf)|(refine OblG.mk (by ((conv=>whnf);(repeat (first|(refine Bx.mk ?_)|(intro h;(try simp [etas,elDef,-List.getD_eq_getElem?_getD] at h);conv=>whnf)));(first|omega|rfl|exact inK_byte _|(simp only [inK,Int.toNat_natCast,etas,elDef]<;>first|omega|grind)|grind [inK]))) ?_<;>conv=>whnf)|(refine Gd.mk (fun h=>?_)<;>(try simp [etas,elDef,-List.getD_eq_getElem?_getD] at h)<;>conv=>whnf)|(refine And.intro ?_ ?_<;>conv=>whnf)|exact True.intro|(intro;conv=>whnf)
  · have e : applyCM s c = none := by grind [applyCM]
    exact leafV hK (by rw [e]; (try simp only [etas, elDef, Int.toNat_natCast]); (first | done | rfl | simp [optS, stC]))
  · have e : applyCM s c = dropItemM s c.name := by grind [applyCM, applyM]
    exact leafV hK (by rw [e]; (try simp only [etas, elDef, Int.toNat_natCast]); (first | done | rfl | simp [optS, stC]))
  · have e : applyCM s c = putItemM s c.name c.node := by grind [applyCM, applyM]
    exact leafV hK (by rw [e]; (try simp only [etas, elDef, Int.toNat_natCast]); (first | done | rfl | simp [optS, stC]))
theorem s90 : (CtrOK Try.prog 90 (.gen .ps C90) ∧ Callable Try.prog 90) := by
  refine gen_ok (E := E90) (mkE_cons s30 (mkE_cons s83 (mkE_cons s99 (mkE_cons s100 (mkE_nil tab_ok))))) mix (O := O90) (C := C90) (own := .ps) Try.func90 rfl (by rfl) (by kernel_rfl) (fun args K h hbd => ?_)
  unfold C90 at h; split at h
  case h_2 => exact h.elim
  exact ⟨Nat.le_of_ble_eq_true rfl, a90 ⟨_, _⟩ ⟨_, _, ⟨_, _, _, _, _⟩⟩ (by exact hbd) _ h⟩
noncomputable def c75 (l : List Chg) (v : Int) (K : AV → List AV → Prop) : Prop :=
    Obl (0 ≤ v ∧ v ≤ l.length) (K (optS (stoAtM l v)) [])
noncomputable def C75 : List AV → (AV → List AV → Prop) → Prop
  | [.ps .chg l, .int .i64 v], K => c75 l v K
  | _, _ => False
noncomputable def E75 : Ctx := mkE tab [(32, .gen .ow C32), (90, .gen .ps C90)]
noncomputable def O75 : Nat → List DI := ordL []
theorem a75 (l : List Chg) (v : Int) (hb : BdAs [.ps .chg l, .int .i64 v]) (K : AV → List AV → Prop) (h : c75 l v K) : abody E75 O75 .ps Try.f75 (Try.f75.body.getD .skip) [.ps .chg l, .int .i64 v] K := by
  simp only [BdAs, BdA, BdL, BdC, MX, ndC, shC, itC, stC, opC, chC, nwC, flC, rqC, rsC, enc, List.cons_append, List.nil_append, and_true, true_and] at hb
  unfold c75 at h
  obtain ⟨hv, hK⟩ := h
  have h00 : (replayM []).isSome = true := rfl
  have h01 := keptM_zero l v.toNat
  have h02 : stC ⟨[], 0⟩ = [.ps .item [], .int .i64 0] := rfl
  have h03 : (replayM []).getD ⟨[], 0⟩ = ⟨[], 0⟩ := rfl
  conv => whnf
  repeat' first|(refine Cnd.mk (fun h=>?_) (fun h=>?_)<;>(try simp [etas,elDef,-List.getD_eq_getElem?_getD] at h)<;>conv=>whnf)|(refine Obl.mk (by first|omega|rfl|exact inK_byte _|(simp only [inK,Int.toNat_natCast,etas,elDef]<;>first|omega|grind)|grind [inK]) ?_<;>conv=>whnf)|(refine OblG.mk (by ((conv=>whnf);(repeat (first|(refine Bx.mk ?_)|(intro h;(try simp [etas,elDef,-List.getD_eq_getElem?_getD] at h);conv=>whnf)));(first|omega|rfl|exact inK_byte _|(simp only [inK,Int.toNat_natCast,etas,elDef]<;>first|omega|grind)|grind [inK]))) ?_<;>conv=>whnf)|(refine Gd.mk (fun h=>?_)<;>(try simp [etas,elDef,-List.getD_eq_getElem?_getD] at h)<;>conv=>whnf)|(refine And.intro ?_ ?_<;>conv=>whnf)|exact True.intro|(intro;conv=>whnf)
  · have e : stoAtM l v = none := by grind [stoAtM, logM]
    exact leafV hK (by rw [e]; (try simp only [etas, elDef, Int.toNat_natCast]); (first | done | rfl | simp [optS, stC]))
  refine aloop_intro Nat (fun k => k ≤ l.length ∧ (replayM (l.take k)).isSome = true) (fun k => l.length - k) (fun k => [(18, .int .i64 k)]) (fun k => [(6, .box (stC ((replayM (l.take k)).getD ⟨[], 0⟩))), (7, .box (stC (keptM l v.toNat k)))]) [4] 0 [] [] ?_ ?_ (by exact sgOk_of (by rfl)) ?_
  · first | (simp; done) | (simp; assumption)
  · iterate 2 ((all_goals (conv=>whnf));(repeat' (first|exact trivial|rfl|(refine nilEq ?_;first|rfl|(simp only [*];done)|(simp [*];done)|grind)|apply And.intro|((first|refine intEq ?_|refine boolEq ?_|refine strEq ?_|refine psEq ?_|refine nilEq ?_|refine arrEq ?_);(try simp only [Int.toNat_natCast,etas,elDef]);first | done | omega | grind | (simp only [*]; done) | (simp [*]; done)))));(all_goals ((try simp only [Int.toNat_natCast,etas,elDef]);first | done | omega | grind | (simp only [*]; done) | (simp [*]; done)))
  rintro i ⟨hi, hj⟩
  conv => whnf
  have htk := fun h => replayM_next (l := l) (i := i) h hj
  have h9 := fun h => applyCM_sm (s := (replayM (l.take i)).getD ⟨[], 0⟩) (c := l.getD i default) h
  have hks := keptM_succ (l := l) (v := v.toNat) (i := i)
  repeat' first|(refine Cnd.mk (fun h=>?_) (fun h=>?_)<;>(try simp [etas,elDef,-List.getD_eq_getElem?_getD] at h)<;>conv=>whnf)|(refine Obl.mk (by first|omega|rfl|exact inK_byte _|(simp only [inK,Int.toNat_natCast,etas,elDef]<;>first|omega|grind)|grind [inK]) ?_<;>conv=>whnf)|(refine OblG.mk (by ((conv=>whnf);(repeat (first|(refine Bx.mk ?_)|(intro h;(try simp [etas,elDef,-List.getD_eq_getElem?_getD] at h);conv=>whnf)));(first|omega|rfl|exact inK_byte _|(simp only [inK,Int.toNat_natCast,etas,elDef]<;>first|omega|grind)|grind [inK]))) ?_<;>conv=>whnf)|(refine Gd.mk (fun h=>?_)<;>(try simp [etas,elDef,-List.getD_eq_getElem?_getD] at h)<;>conv=>whnf)|(refine And.intro ?_ ?_<;>conv=>whnf)|exact True.intro|(intro;conv=>whnf)
  · have e := replayM_none ((htk (by assumption)).trans h)
    have e : stoAtM l v = none := by grind [stoAtM, logM]
    exact leafV hK (by rw [e]; (try simp only [etas, elDef, Int.toNat_natCast]); (first | done | rfl | simp [optS, stC]))
  · have e3 := htk (by assumption)
    rw [if_pos (by omega), e3] at hks
    exact ⟨i + 1, [], [39000], ⟨by omega, by rw [e3]; assumption⟩, by omega, by iterate 2 ((all_goals (conv=>whnf));(repeat' (first|exact trivial|rfl|(refine nilEq ?_;first|rfl|(simp only [*];done)|(simp [*];done)|grind)|apply And.intro|((first|refine intEq ?_|refine boolEq ?_|refine strEq ?_|refine psEq ?_|refine nilEq ?_|refine arrEq ?_);(try simp only [Int.toNat_natCast,etas,elDef]);first | rw [e3] | rw [hks]))));(all_goals ((try simp only [Int.toNat_natCast,etas,elDef]);first | rw [e3] | rw [hks])), (by exact sgOk_of (by rfl))⟩
  · have e3 := htk (by assumption)
    rw [if_neg (by omega)] at hks
    exact ⟨i + 1, [], [], ⟨by omega, by rw [e3]; assumption⟩, by omega, by iterate 2 ((all_goals (conv=>whnf));(repeat' (first|exact trivial|rfl|(refine nilEq ?_;first|rfl|(simp only [*];done)|(simp [*];done)|grind)|apply And.intro|((first|refine intEq ?_|refine boolEq ?_|refine strEq ?_|refine psEq ?_|refine nilEq ?_|refine arrEq ?_);(try simp only [Int.toNat_natCast,etas,elDef]);first | rw [e3] | rw [hks]))));(all_goals ((try simp only [Int.toNat_natCast,etas,elDef]);first | rw [e3] | rw [hks])), (by exact sgOk_of (by rfl))⟩
  · have e : i = l.length := by omega
    subst e
    rw [List.take_length] at hj
    have e : stoAtM l v = replayM (l.take v.toNat) := by grind [stoAtM, logM]
    have e2 := replay_take_isSome (i := v.toNat) hj
    exact leafV hK (by rw [e, keptM_end (by omega)]; simp only [optS, e2]; (try simp only [etas, elDef, Int.toNat_natCast]); (first | done | rfl | simp [optS, stC]))
theorem s75 : (CtrOK Try.prog 75 (.gen .ps C75) ∧ Callable Try.prog 75) := by
  refine gen_ok (E := E75) (mkE_cons s32 (mkE_cons s90 (mkE_nil tab_ok))) mix (O := O75) (C := C75) (own := .ps) Try.func75 rfl (by rfl) (by kernel_rfl) (fun args K h hbd => ?_)
  unfold C75 at h; split at h
  case h_2 => exact h.elim
  exact ⟨Nat.le_of_ble_eq_true rfl, a75 _ _ (by exact hbd) _ h⟩
noncomputable def c50 (l : List Chg) (K : AV → List AV → Prop) : Prop :=
    K (optS (logM l)) []
noncomputable def C50 : List AV → (AV → List AV → Prop) → Prop
  | [.ps .chg l], K => c50 l K
  | _, _ => False
noncomputable def E50 : Ctx := mkE tab [(75, .gen .ps C75)]
noncomputable def O50 : Nat → List DI := ordL []
theorem a50 (l : List Chg) (hb : BdAs [.ps .chg l]) (K : AV → List AV → Prop) (h : c50 l K) : abody E50 O50 .ps Try.f50 (Try.f50.body.getD .skip) [.ps .chg l] K := by
  simp only [BdAs, BdA, BdL, BdC, MX, ndC, shC, itC, stC, opC, chC, nwC, flC, rqC, rsC, enc, List.cons_append, List.nil_append, and_true, true_and] at hb
  unfold c50 at h
  have hK := h
  rw [← stoAt_len] at hK
  conv => whnf
  repeat' first|(refine Cnd.mk (fun h=>?_) (fun h=>?_)<;>(try simp [etas,elDef,-List.getD_eq_getElem?_getD] at h)<;>conv=>whnf)|(refine Obl.mk (by first|omega|rfl|exact inK_byte _|(simp only [inK,Int.toNat_natCast,etas,elDef]<;>first|omega|grind)|grind [inK]) ?_<;>conv=>whnf)|(refine OblG.mk (by ((conv=>whnf);(repeat (first|(refine Bx.mk ?_)|(intro h;(try simp [etas,elDef,-List.getD_eq_getElem?_getD] at h);conv=>whnf)));(first|omega|rfl|exact inK_byte _|(simp only [inK,Int.toNat_natCast,etas,elDef]<;>first|omega|grind)|grind [inK]))) ?_<;>conv=>whnf)|(refine Gd.mk (fun h=>?_)<;>(try simp [etas,elDef,-List.getD_eq_getElem?_getD] at h)<;>conv=>whnf)|(refine And.intro ?_ ?_<;>conv=>whnf)|exact True.intro|(intro;conv=>whnf)
  exact leafV hK (by (try simp only [etas, elDef, Int.toNat_natCast]); (first | done | rfl | simp [optS, stC]))
theorem s50 : (CtrOK Try.prog 50 (.gen .ps C50) ∧ Callable Try.prog 50) := by
  refine gen_ok (E := E50) (mkE_cons s75 (mkE_nil tab_ok)) mix (O := O50) (C := C50) (own := .ps) Try.func50 rfl (by rfl) (by kernel_rfl) (fun args K h hbd => ?_)
  unfold C50 at h; split at h
  case h_2 => exact h.elim
  exact ⟨Nat.le_of_ble_eq_true rfl, a50 _ (by exact hbd) _ h⟩
end Go.Rs

