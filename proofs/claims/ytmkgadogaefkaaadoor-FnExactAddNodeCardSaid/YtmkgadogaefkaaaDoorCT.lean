import Derived.Test.YtmkgadogaefkaaaDoorCQ
import Derived.Test.YtmkgadogaefkaaaDoorMC
set_option linter.all false
set_option linter.unusedSimpArgs false
set_option linter.unusedVariables false
namespace Go.Rs
open Go.Proofs
set_option maxRecDepth 100000
structure Gx (P Q : Prop) : Prop where
  o : P
  k : Q
noncomputable def c36o (n : Nd) (K : AV → List AV → Prop) : Prop :=
    Obl (smN n) (K (.st [.int .i64 n.kind, .int .i64 n.num, .str n.text, .own .str n.names, .own .node n.kids]) [])
noncomputable def C36o : List AV → (AV → List AV → Prop) → Prop
  | [.st [.int .i64 n_0, .int .i64 n_1, .str n_2, .ps .str n_3, .ps .node n_4]], K => c36o ⟨n_0, n_1, n_2, n_3, n_4⟩ K
  | _, _ => False
noncomputable def E36o : Ctx := mkE tab [(36, .gen .ps C36)]
noncomputable def O36o : Nat → List DI := ordL [(6, [.q 0, .q 1, .q 2, .q 3, .q 4, .q 5, .q 7, .q 8, .q 10, .l 6 [1, 3, 5, 8], .l 9 [1, 3, 5], .q 11, .l 12 []])]
theorem a36o (n : Nd) (hb : BdAs [.st (ndC n)]) (K : AV → List AV → Prop) (h : c36o n K) : abody E36o O36o .ow Tryd.f36 (Tryd.f36.body.getD .skip) [.st (ndC n)] K := by
  simp only [BdAs, BdA, BdL, BdC, MX, ndC, shC, itC, stC, opC, chC, nwC, flC, rqC, rsC, enc, List.cons_append, List.nil_append, and_true, true_and] at hb
  unfold c36o at h
  obtain ⟨hs, hK⟩ := h
  have hkid : ∀ j, j < n.kids.length → smN (n.kids.getD j default) := fun j hj => hs.kid hj
  have h3 := hs.kids
  have h2 := hs.names
  conv => whnf
  refine aloop_intro Nat (fun k => k ≤ n.kids.length ∧ True) (fun k => n.kids.length - k) (fun k => [(4, .int .i64 k), (3, .ls 900)]) (fun k => [(900, .arr .node (n.kids.take k))]) [1, 2] 0 [(900, 5)] [] ?_ ?_ (by exact sgOk_of (by rfl)) ?_
  · first | (simp; done) | (simp; assumption)
  · iterate 2 ((all_goals (conv=>whnf));(repeat' (first|exact trivial|rfl|(refine nilEq ?_;first|rfl|(simp only [*];done)|(simp [*];done)|grind)|apply And.intro|((first|refine intEq ?_|refine boolEq ?_|refine strEq ?_|refine psEq ?_|refine nilEq ?_|refine arrEq ?_);(try simp only [Int.toNat_natCast,etas,elDef]);first | done | omega | grind | (simp only [*]; done) | (simp [*]; done)))));(all_goals ((try simp only [Int.toNat_natCast,etas,elDef]);first | done | omega | grind | (simp only [*]; done) | (simp [*]; done)))
  rintro i ⟨hi, hj⟩
  conv => whnf
  have htk := fun h => take_snoc (l := n.kids) (i := i) default h
  have hki := hkid i
  repeat' first|(refine Cnd.mk (fun h=>?_) (fun h=>?_)<;>(try simp [etas,elDef,-List.getD_eq_getElem?_getD] at h)<;>conv=>whnf)|(refine Obl.mk (by first|omega|rfl|exact inK_byte _|(simp only [inK,Int.toNat_natCast,etas,elDef,m36]<;>first|omega|grind)|grind [inK,m36]) ?_<;>conv=>whnf)|(refine OblG.mk (by ((conv=>whnf);(repeat (first|(refine Bx.mk ?_)|(intro h;(try simp [etas,elDef,-List.getD_eq_getElem?_getD] at h);conv=>whnf)));(first|omega|rfl|exact inK_byte _|(simp only [inK,Int.toNat_natCast,etas,elDef,m36]<;>first|omega|grind)|grind [inK,m36]))) ?_<;>conv=>whnf)|(refine Gd.mk (fun h=>?_)<;>(try simp [etas,elDef,-List.getD_eq_getElem?_getD] at h)<;>conv=>whnf)|(refine And.intro ?_ ?_<;>conv=>whnf)|exact True.intro|(intro;conv=>whnf)
  · exact ⟨i + 1, [(900, 21)], [], ⟨by omega, by grind⟩, by omega, by iterate 2 ((all_goals (conv=>whnf));(repeat' (first|exact trivial|rfl|(refine nilEq ?_;first|rfl|(simp only [*];done)|(simp [*];done)|grind)|apply And.intro|((first|refine intEq ?_|refine boolEq ?_|refine strEq ?_|refine psEq ?_|refine nilEq ?_|refine arrEq ?_);(try simp only [Int.toNat_natCast,etas,elDef]);first | done | omega | grind | (simp only [*]; done) | (simp [*]; done)))));(all_goals ((try simp only [Int.toNat_natCast,etas,elDef]);first | done | omega | grind | (simp only [*]; done) | (simp [*]; done))), (by exact sgOk_of (by rfl))⟩
  · exact leafV hK (by simp [List.take_of_length_le ‹n.kids.length ≤ i›])
theorem s36o : (CtrOK Tryd.prog 36 (.gen .ow C36o) ∧ Callable Tryd.prog 36) := by
  refine gen_ok (E := E36o) (mkE_cons s36 (mkE_nil tab_ok)) mix (O := O36o) (C := C36o) (own := .ow) Tryd.func36 rfl (by rfl) (by kernel_rfl) (fun args K h hbd => ?_)
  unfold C36o at h; split at h
  case h_2 => exact h.elim
  exact ⟨Nat.le_of_ble_eq_true rfl, a36o ⟨_, _, _, _, _⟩ (by exact hbd) _ h⟩
noncomputable def c51k (n : Nd) (i : Int) (x : Nd) (K : AV → List AV → Prop) : Prop :=
    Obl ((smN n ∧ smN x) ∧ 0 ≤ i ∧ i < n.kids.length) (K (.st (ndC (withKidM n i.toNat x))) [])
noncomputable def C51k : List AV → (AV → List AV → Prop) → Prop
  | [.st [.int .i64 n_0, .int .i64 n_1, .str n_2, .ps .str n_3, .ps .node n_4], .int .i64 i, .st [.int .i64 x_0, .int .i64 x_1, .str x_2, .ps .str x_3, .ps .node x_4]], K => c51k ⟨n_0, n_1, n_2, n_3, n_4⟩ i ⟨x_0, x_1, x_2, x_3, x_4⟩ K
  | _, _ => False
noncomputable def E51k : Ctx := mkE tab [(36, .gen .ow C36o)]
noncomputable def O51k : Nat → List DI := ordL [(2, [.q 0, .q 1, .q 2, .q 3, .l 4 [1], .q 5, .l 6 []])]
theorem a51k (n : Nd) (i : Int) (x : Nd) (hb : BdAs [.st (ndC n), .int .i64 i, .st (ndC x)]) (K : AV → List AV → Prop) (h : c51k n i x K) : abody E51k O51k .ps Tryd.f51 (Tryd.f51.body.getD .skip) [.st (ndC n), .int .i64 i, .st (ndC x)] K := by
  simp only [BdAs, BdA, BdL, BdC, MX, ndC, shC, itC, stC, opC, chC, nwC, flC, rqC, rsC, enc, List.cons_append, List.nil_append, and_true, true_and] at hb
  unfold c51k at h
  obtain ⟨⟨⟨hn, hx⟩, hi⟩, hK⟩ := h
  conv => whnf
  repeat' first|(refine Cnd.mk (fun h=>?_) (fun h=>?_)<;>(try simp [etas,elDef,-List.getD_eq_getElem?_getD] at h)<;>conv=>whnf)|(refine Obl.mk (by first|omega|rfl|exact inK_byte _|(simp only [inK,Int.toNat_natCast,etas,elDef]<;>first|omega|grind)|grind [inK]) ?_<;>conv=>whnf)|(refine OblG.mk (by ((conv=>whnf);(repeat (first|(refine Bx.mk ?_)|(intro h;(try simp [etas,elDef,-List.getD_eq_getElem?_getD] at h);conv=>whnf)));(first|omega|rfl|exact inK_byte _|(simp only [inK,Int.toNat_natCast,etas,elDef]<;>first|omega|grind)|grind [inK]))) ?_<;>conv=>whnf)|(refine Gd.mk (fun h=>?_)<;>(try simp [etas,elDef,-List.getD_eq_getElem?_getD] at h)<;>conv=>whnf)|(refine And.intro ?_ ?_<;>conv=>whnf)|exact True.intro|(intro;conv=>whnf)
  exact leafV hK (by (try simp only [etas, elDef, Int.toNat_natCast]); (first | done | rfl | simp [optS, stC]))
theorem s51k : (CtrOK Tryd.prog 51 (.gen .ps C51k) ∧ Callable Tryd.prog 51) := by
  refine gen_ok (E := E51k) (mkE_cons s36o (mkE_nil tab_ok)) mix (O := O51k) (C := C51k) (own := .ps) Tryd.func51 rfl (by rfl) (by kernel_rfl) (fun args K h hbd => ?_)
  unfold C51k at h; split at h
  case h_2 => exact h.elim
  exact ⟨Nat.le_of_ble_eq_true rfl, a51k ⟨_, _, _, _, _⟩ _ ⟨_, _, _, _, _⟩ (by exact hbd) _ h⟩
noncomputable def c38k (n : Nd) (b : Bs) (x : Nd) (K : AV → List AV → Prop) : Prop :=
    Obl ((smN n ∧ smN x) ∧ n.kids.length ≤ 1000000 ∧ n.names.length ≤ 1000000 ∧ evenN n) (K (optN (addHereM n b x)) [])
noncomputable def C38k : List AV → (AV → List AV → Prop) → Prop
  | [.st [.int .i64 n_0, .int .i64 n_1, .str n_2, .ps .str n_3, .ps .node n_4], .str b, .st [.int .i64 x_0, .int .i64 x_1, .str x_2, .ps .str x_3, .ps .node x_4]], K => c38k ⟨n_0, n_1, n_2, n_3, n_4⟩ b ⟨x_0, x_1, x_2, x_3, x_4⟩ K
  | _, _ => False
noncomputable def E38k : Ctx := mkE tab [(36, .gen .ps C36), (50, .pure F50), (51, .gen .ps C51k)]
noncomputable def O38k : Nat → List DI := ordL [(7, [.q 1, .q 2, .q 3, .q 4, .q 6, .l 0 [2, 4, 6], .l 5 [6], .l 7 [], .l 8 [], .l 9 [], .q 10])]
theorem a38k (n : Nd) (b : Bs) (x : Nd) (hb : BdAs [.st (ndC n), .str b, .st (ndC x)]) (K : AV → List AV → Prop) (h : c38k n b x K) : abody E38k O38k .ps Tryd.f38 (Tryd.f38.body.getD .skip) [.st (ndC n), .str b, .st (ndC x)] K := by
  simp only [BdAs, BdA, BdL, BdC, MX, ndC, shC, itC, stC, opC, chC, nwC, flC, rqC, rsC, enc, List.cons_append, List.nil_append, and_true, true_and] at hb
  unfold c38k at h
  obtain ⟨⟨⟨hn, hx⟩, hl⟩, hK⟩ := h
  have hge := slotM_ge n b
  have hev : n.kind = 4 → n.names.length = n.kids.length := hl.2.2
  conv => whnf
  repeat' first|(refine Cnd.mk (fun h=>?_) (fun h=>?_)<;>(try simp [etas,elDef,-List.getD_eq_getElem?_getD] at h)<;>conv=>whnf)|(refine Obl.mk (by first|omega|rfl|exact inK_byte _|(simp only [inK,Int.toNat_natCast,etas,elDef,m36,o50]<;>first|omega|grind)|grind [inK,m36,o50]) ?_<;>conv=>whnf)|(refine OblG.mk (by ((conv=>whnf);(repeat (first|(refine Bx.mk ?_)|(intro h;(try simp [etas,elDef,-List.getD_eq_getElem?_getD] at h);conv=>whnf)));(first|omega|rfl|exact inK_byte _|(simp only [inK,Int.toNat_natCast,etas,elDef,m36,o50]<;>first|omega|grind)|grind [inK,m36,o50]))) ?_<;>conv=>whnf)|(refine Gd.mk (fun h=>?_)<;>(try simp [etas,elDef,-List.getD_eq_getElem?_getD] at h)<;>conv=>whnf)|(refine And.intro ?_ ?_<;>conv=>whnf)|exact True.intro|(intro;conv=>whnf)
  · have e : addHereM n b x = none := by unfold addHereM; rw [if_pos h]
    exact leafV hK (by rw [e]; (try simp only [etas, elDef, Int.toNat_natCast]); (first | done | rfl | simp [optS, stC]))
  · have e : addHereM n b x = some (withKidM n (slotM n b).1.toNat x) := by unfold addHereM; rw [if_neg (by omega), if_pos h]
    exact leafV hK (by rw [e]; simp only [optN, Option.getD_some, Option.isSome_some]; (try simp only [etas, elDef, Int.toNat_natCast]); (first | done | rfl | simp [optS, stC]))
  · have e : addHereM n b x = some ⟨n.kind, 0, [], [], insM n.kids (slotM n b).1.toNat x⟩ := by unfold addHereM; rw [if_neg (by omega), if_neg (by grind), if_pos h]
    exact leafV hK (by rw [e]; simp [optN, ndC, enc, insM, nd_eta])
  · have e : addHereM n b x = some ⟨n.kind, 0, [], insM n.names (slotM n b).1.toNat b, insM n.kids (slotM n b).1.toNat x⟩ := by unfold addHereM; rw [if_neg (by omega), if_neg (by grind), if_neg h]
    exact leafV hK (by rw [e]; simp [optN, ndC, enc, insM, nd_eta])
theorem s38k : (CtrOK Tryd.prog 38 (.gen .ps C38k) ∧ Callable Tryd.prog 38) := by
  refine gen_ok (E := E38k) (mkE_cons s36 (mkE_cons s50 (mkE_cons s51k (mkE_nil tab_ok)))) mix (O := O38k) (C := C38k) (own := .ps) Tryd.func38 rfl (by rfl) (by kernel_rfl) (fun args K h hbd => ?_)
  unfold C38k at h; split at h
  case h_2 => exact h.elim
  exact ⟨Nat.le_of_ble_eq_true rfl, a38k ⟨_, _, _, _, _⟩ _ ⟨_, _, _, _, _⟩ (by exact hbd) _ h⟩
noncomputable def c39 (n : Nd) (p : List Bs) (x : Nd) (K : AV → List AV → Prop) : Prop :=
    Obl (okN n ∧ smN x) (K (optN (setAtM n p x)) [])
noncomputable def m39 (n : Nd) (p : List Bs) (x : Nd) : Nat := p.length
noncomputable def C39 : List AV → (AV → List AV → Prop) → Prop
  | [.st [.int .i64 n_0, .int .i64 n_1, .str n_2, .ps .str n_3, .ps .node n_4], .ps .str p, .st [.int .i64 x_0, .int .i64 x_1, .str x_2, .ps .str x_3, .ps .node x_4]], K => c39 ⟨n_0, n_1, n_2, n_3, n_4⟩ p ⟨x_0, x_1, x_2, x_3, x_4⟩ K
  | _, _ => False
noncomputable def Ck39 (k : Nat) : List AV → (AV → List AV → Prop) → Prop
  | [.st [.int .i64 n_0, .int .i64 n_1, .str n_2, .ps .str n_3, .ps .node n_4], .ps .str p, .st [.int .i64 x_0, .int .i64 x_1, .str x_2, .ps .str x_3, .ps .node x_4]], K => Obl (m39 ⟨n_0, n_1, n_2, n_3, n_4⟩ p ⟨x_0, x_1, x_2, x_3, x_4⟩ < k) (c39 ⟨n_0, n_1, n_2, n_3, n_4⟩ p ⟨x_0, x_1, x_2, x_3, x_4⟩ K)
  | _, _ => False
noncomputable def E39 (k : Nat) : Ctx := mkE tab [(36, .gen .ps C36), (39, .gen .ps (Ck39 k)), (49, .pure F49), (51, .gen .ps C51k)]
noncomputable def O39 : Nat → List DI := ordL [(3, [.q 0, .q 1, .q 2, .q 3, .q 4, .q 5]), (6, [.q 0, .q 1, .q 2, .q 3, .q 4, .q 5, .q 6, .q 7, .l 8 [], .q 9, .q 10, .q 11, .a 12, .l 13 [], .q 14])]
theorem a39 (k : Nat) (n : Nd) (p : List Bs) (x : Nd) (hm : m39 n p x < k + 1) (hb : BdAs [.st (ndC n), .ps .str p, .st (ndC x)]) (K : AV → List AV → Prop) (h : c39 n p x K) : abody (E39 k) O39 .ps Tryd.f39 (Tryd.f39.body.getD .skip) [.st (ndC n), .ps .str p, .st (ndC x)] K := by
  simp only [BdAs, BdA, BdL, BdC, MX, ndC, shC, itC, stC, opC, chC, nwC, flC, rqC, rsC, enc, List.cons_append, List.nil_append, and_true, true_and] at hb
  unfold c39 at h
  unfold m39 at hm
  obtain ⟨⟨ho, hx⟩, hK⟩ := h
  have h6 := okN_kids ho
  have h5 := (okN_names ho).2.1
  have hsm := ho.sm
  have hpl := placeM_ge n (p.getD 0 [])
  have hok := fun h => okN_kid ho (j := (placeM n (p.getD 0 [])).toNat) h
  have hsa := fun h => setAtM_get_sm (p := p.drop 1) (okN_kid ho (j := (placeM n (p.getD 0 [])).toNat) h).sm hx
  rcases Nat.eq_zero_or_pos p.length with h0 | h0
  · obtain rfl := List.length_eq_zero_iff.1 h0
    conv => whnf
    repeat' first|(refine Cnd.mk (fun h=>?_) (fun h=>?_)<;>(try simp [etas,elDef,-List.getD_eq_getElem?_getD] at h)<;>conv=>whnf)|(refine Obl.mk (by first|omega|rfl|exact inK_byte _|(simp only [inK,Int.toNat_natCast,etas,elDef,m39,m36,m39,o49]<;>first|omega|grind)|grind [inK,m39,m36,m39,o49]) ?_<;>conv=>whnf)|(refine OblG.mk (by ((conv=>whnf);(repeat (first|(refine Bx.mk ?_)|(intro h;(try simp [etas,elDef,-List.getD_eq_getElem?_getD] at h);conv=>whnf)));(first|omega|rfl|exact inK_byte _|(simp only [inK,Int.toNat_natCast,etas,elDef,m39,m36,m39,o49]<;>first|omega|grind)|grind [inK,m39,m36,m39,o49]))) ?_<;>conv=>whnf)|(refine Gd.mk (fun h=>?_)<;>(try simp [etas,elDef,-List.getD_eq_getElem?_getD] at h)<;>conv=>whnf)|(refine And.intro ?_ ?_<;>conv=>whnf)|exact True.intro|(intro;conv=>whnf)
    · exact leafV hK (by simp only [setAtM, optN, Option.getD_some, Option.isSome_some, ndC, enc])
    all_goals (exfalso; simp_all)
  · have e0 := setAtM_at (n := n) (x := x) h0
    rw [List.drop_one] at hsa e0
    have el : List.drop (Int.toNat 1) (List.take p.length p) = p.tail := by simp
    rw [← el] at hsa
    have hsa2 := fun h1 => hsa h1
    conv => whnf
    repeat' first|(refine Cnd.mk (fun h=>?_) (fun h=>?_)<;>(try simp [etas,elDef,-List.getD_eq_getElem?_getD] at h)<;>conv=>whnf)|(refine Obl.mk (by first|omega|rfl|exact inK_byte _|(simp only [inK,Int.toNat_natCast,etas,elDef,m39,m36,m39,o49]<;>first|omega|grind)|grind [inK,m39,m36,m39,o49]) ?_<;>conv=>whnf)|(refine OblG.mk (by ((conv=>whnf);(repeat (first|(refine Bx.mk ?_)|(intro h;(try simp [etas,elDef,-List.getD_eq_getElem?_getD] at h);conv=>whnf)));(first|omega|rfl|exact inK_byte _|(simp only [inK,Int.toNat_natCast,etas,elDef,m39,m36,m39,o49]<;>first|omega|grind)|grind [inK,m39,m36,m39,o49]))) ?_<;>conv=>whnf)|(refine Gd.mk (fun h=>?_)<;>(try simp [etas,elDef,-List.getD_eq_getElem?_getD] at h)<;>conv=>whnf)|(refine And.intro ?_ ?_<;>conv=>whnf)|exact True.intro|(intro;conv=>whnf)
    · exfalso; subst h; simp at h0
    · have e : setAtM n p x = none := by rw [e0, if_pos h]
      exact leafV hK (by rw [e]; rfl)
    · have e : setAtM n p x = none := by rw [e0, if_neg (by omega), h]; rfl
      exact leafV hK (by rw [e]; rfl)
    · obtain ⟨m, hm⟩ := Option.isSome_iff_exists.1 h
      have e : setAtM n p x = some (withKidM n (placeM n (p.getD 0 [])).toNat m) := by rw [e0, if_neg (by omega), hm]; rfl
      refine leafV hK ?_
      rw [e]
      simp only [optN, Option.getD_some, Option.isSome_some, nd_eta, elDef, Int.toNat_zero, Int.toNat_natCast, List.take_length, List.drop_one, Int.toNat_one, hm]
      first | done | rfl
theorem r39 : ∀ k, (CtrOK Tryd.prog 39 (.gen .ps (Ck39 k)) ∧ Callable Tryd.prog 39) := by
  intro k
  induction k with
  | zero =>
    exact ⟨fun args K h => by
        unfold Ck39 at h; split at h
        · exact absurd h.o (Nat.not_lt_zero _)
        · exact h.elim, callable Tryd.func39 rfl (by rfl)⟩
  | succ k ih =>
    refine gen_ok (E := E39 k) (mkE_cons s36 (mkE_cons ih (mkE_cons s49 (mkE_cons s51k (mkE_nil tab_ok))))) mix (O := O39) (C := (Ck39 (k + 1))) (own := .ps) Tryd.func39 rfl (by rfl) (by kernel_rfl) (fun args K h hbd => ?_)
    unfold Ck39 at h; split at h
    case h_2 => exact h.elim
    exact ⟨Nat.le_of_ble_eq_true rfl, a39 k ⟨_, _, _, _, _⟩ _ ⟨_, _, _, _, _⟩ h.o (by exact hbd) _ h.k⟩
theorem s39 : (CtrOK Tryd.prog 39 (.gen .ps C39) ∧ Callable Tryd.prog 39) := by
  refine ⟨fun args K h => ?_, (r39 0).2⟩
  unfold C39 at h; split at h
  · exact (r39 (m39 ⟨_, _, _, _, _⟩ _ ⟨_, _, _, _, _⟩ + 1)).1 _ K ⟨Nat.lt_succ_self _, h⟩
  · exact h.elim
noncomputable def c18 (n : Nd) (b : Bool) (K : AV → List AV → Prop) : Prop :=
    K (optN (if b && validM n then some n else none)) []
noncomputable def C18 : List AV → (AV → List AV → Prop) → Prop
  | [.st [.int .i64 n_0, .int .i64 n_1, .str n_2, .ps .str n_3, .ps .node n_4], .bool b], K => c18 ⟨n_0, n_1, n_2, n_3, n_4⟩ b K
  | _, _ => False
noncomputable def E18 : Ctx := mkE tab [(16, .pure F16)]
noncomputable def O18 : Nat → List DI := ordL []
theorem a18 (n : Nd) (b : Bool) (hb : BdAs [.st (ndC n), .bool b]) (K : AV → List AV → Prop) (h : c18 n b K) : abody E18 O18 .ps Tryd.f18 (Tryd.f18.body.getD .skip) [.st (ndC n), .bool b] K := by
  simp only [BdAs, BdA, BdL, BdC, MX, ndC, shC, itC, stC, opC, chC, nwC, flC, rqC, rsC, enc, List.cons_append, List.nil_append, and_true, true_and] at hb
  unfold c18 at h
  have hK9 := h
  conv => whnf
  repeat' first|(refine Cnd.mk (fun h=>?_) (fun h=>?_)<;>(try simp [etas,elDef,-List.getD_eq_getElem?_getD] at h)<;>conv=>whnf)|(refine Obl.mk (by first|omega|rfl|exact inK_byte _|(simp only [inK,Int.toNat_natCast,etas,elDef]<;>first|omega|grind)|grind [inK]) ?_<;>conv=>whnf)|(refine OblG.mk (by ((conv=>whnf);(repeat (first|(refine Bx.mk ?_)|(intro h;(try simp [etas,elDef,-List.getD_eq_getElem?_getD] at h);conv=>whnf)));(first|omega|rfl|exact inK_byte _|(simp only [inK,Int.toNat_natCast,etas,elDef]<;>first|omega|grind)|grind [inK]))) ?_<;>conv=>whnf)|(refine Gd.mk (fun h=>?_)<;>(try simp [etas,elDef,-List.getD_eq_getElem?_getD] at h)<;>conv=>whnf)|(refine And.intro ?_ ?_<;>conv=>whnf)|exact True.intro|(intro;conv=>whnf)
  · exact leafV hK9 (by rw [if_neg (by grind)]; rfl)
  · exact leafV hK9 (by rw [if_pos (by grind)]; rfl)
theorem s18 : (CtrOK Tryd.prog 18 (.gen .ps C18) ∧ Callable Tryd.prog 18) := by
  refine gen_ok (E := E18) (mkE_cons s16 (mkE_nil tab_ok)) mix (O := O18) (C := C18) (own := .ps) Tryd.func18 rfl (by rfl) (by kernel_rfl) (fun args K h hbd => ?_)
  unfold C18 at h; split at h
  case h_2 => exact h.elim
  exact ⟨Nat.le_of_ble_eq_true rfl, a18 ⟨_, _, _, _, _⟩ _ (by exact hbd) _ h⟩
noncomputable def c19 (n : Nd) (p : List Bs) (x : Nd) (K : AV → List AV → Prop) : Prop :=
    Obl (okN n ∧ smN x) (K (optN (addAtM n p x)) [])
noncomputable def C19 : List AV → (AV → List AV → Prop) → Prop
  | [.st [.int .i64 n_0, .int .i64 n_1, .str n_2, .ps .str n_3, .ps .node n_4], .ps .str p, .st [.int .i64 x_0, .int .i64 x_1, .str x_2, .ps .str x_3, .ps .node x_4]], K => c19 ⟨n_0, n_1, n_2, n_3, n_4⟩ p ⟨x_0, x_1, x_2, x_3, x_4⟩ K
  | _, _ => False
noncomputable def E19 : Ctx := mkE tab [(36, .gen .ps C36), (37, .gen .ps C37), (38, .gen .ps C38k), (39, .gen .ps C39)]
noncomputable def O19 : Nat → List DI := ordL [(4, [.q 0, .q 1, .q 2, .q 3, .l 4 [], .q 5, .q 6, .q 7, .a 8, .l 9 [], .q 10]), (7, [.q 0, .q 1, .q 2, .q 3, .q 4, .q 5, .l 6 [], .q 7, .q 8, .q 9, .a 10, .l 11 [], .q 12]), (10, [.q 0, .q 1, .q 2, .q 3, .q 4, .l 5 [], .q 6, .q 7, .l 8 [], .q 9])]
theorem a19 (n : Nd) (p : List Bs) (x : Nd) (hb : BdAs [.st (ndC n), .ps .str p, .st (ndC x)]) (K : AV → List AV → Prop) (h : c19 n p x K) : abody E19 O19 .ps Tryd.f19 (Tryd.f19.body.getD .skip) [.st (ndC n), .ps .str p, .st (ndC x)] K := by
  simp only [BdAs, BdA, BdL, BdC, MX, ndC, shC, itC, stC, opC, chC, nwC, flC, rqC, rsC, enc, List.cons_append, List.nil_append, and_true, true_and] at hb
  unfold c19 at h
  obtain ⟨⟨ho, hx⟩, hK⟩ := h
  have el := front_eq p
  have hin := find_get_ok ho (List.drop (Int.toNat 0) (List.take ((p.length : Int) - 1).toNat p))
  have hi1 := hin.sm
  have hi2 := okN_kids hin
  have hi3 := (okN_names hin).1
  have hi4 := okN_even hin
  have hh := here_get_sm hin hx (p.getD ((p.length : Int) - 1).toNat [])
  rcases Nat.eq_zero_or_pos p.length with h0 | h0
  · obtain rfl := List.length_eq_zero_iff.1 h0
    conv => whnf
    repeat' first|(refine Cnd.mk (fun h=>?_) (fun h=>?_)<;>(try simp [etas,elDef,-List.getD_eq_getElem?_getD] at h)<;>conv=>whnf)|(refine Obl.mk (by first|omega|rfl|exact inK_byte _|(simp only [inK,Int.toNat_natCast,etas,elDef,m36,m39]<;>first|omega|grind)|grind [inK,m36,m39]) ?_<;>conv=>whnf)|(refine OblG.mk (by ((conv=>whnf);(repeat (first|(refine Bx.mk ?_)|(intro h;(try simp [etas,elDef,-List.getD_eq_getElem?_getD] at h);conv=>whnf)));(first|omega|rfl|exact inK_byte _|(simp only [inK,Int.toNat_natCast,etas,elDef,m36,m39]<;>first|omega|grind)|grind [inK,m36,m39]))) ?_<;>conv=>whnf)|(refine Gd.mk (fun h=>?_)<;>(try simp [etas,elDef,-List.getD_eq_getElem?_getD] at h)<;>conv=>whnf)|(refine And.intro ?_ ?_<;>conv=>whnf)|exact True.intro|(intro;conv=>whnf)
    · exact leafV hK (by simp only [addAtM, if_true, optN, Option.getD_some, Option.isSome_some, ndC, enc])
    all_goals (exfalso; simp_all)
  · have hp : p ≠ [] := by rintro rfl; simp at h0
    have hl : p.getD (p.length - 1) [] = lastD p := rfl
    conv => whnf
    repeat' first|(refine Cnd.mk (fun h=>?_) (fun h=>?_)<;>(try simp [etas,elDef,-List.getD_eq_getElem?_getD] at h)<;>conv=>whnf)|(refine Obl.mk (by first|omega|rfl|exact inK_byte _|(simp only [inK,Int.toNat_natCast,etas,elDef,m36,m39]<;>first|omega|grind)|grind [inK,m36,m39]) ?_<;>conv=>whnf)|(refine OblG.mk (by ((conv=>whnf);(repeat (first|(refine Bx.mk ?_)|(intro h;(try simp [etas,elDef,-List.getD_eq_getElem?_getD] at h);conv=>whnf)));(first|omega|rfl|exact inK_byte _|(simp only [inK,Int.toNat_natCast,etas,elDef,m36,m39]<;>first|omega|grind)|grind [inK,m36,m39]))) ?_<;>conv=>whnf)|(refine Gd.mk (fun h=>?_)<;>(try simp [etas,elDef,-List.getD_eq_getElem?_getD] at h)<;>conv=>whnf)|(refine And.intro ?_ ?_<;>conv=>whnf)|exact True.intro|(intro;conv=>whnf)
    · exact absurd h hp
    · have e : addAtM n p x = none := by unfold addAtM; rw [if_neg hp, h]
      exact leafV hK (by rw [e]; rfl)
    · have hs : (findM n (List.take (p.length - 1) p)).isSome = true := by assumption
      obtain ⟨m, hm⟩ := Option.isSome_iff_exists.1 hs
      rw [hm, Option.getD_some, hl] at h
      have e : addAtM n p x = none := by unfold addAtM; rw [if_neg hp, hm]; dsimp only; rw [h]
      exact leafV hK (by rw [e]; rfl)
    · have hs : (findM n (List.take (p.length - 1) p)).isSome = true := by assumption
      obtain ⟨m, hm⟩ := Option.isSome_iff_exists.1 hs
      rw [hm, Option.getD_some, hl] at h
      obtain ⟨y, hy⟩ := Option.isSome_iff_exists.1 h
      have e : addAtM n p x = setAtM n (p.take (p.length - 1)) y := by unfold addAtM; rw [if_neg hp, hm]; dsimp only; rw [hy]
      have e5 : ((p.length : Int) - 1).toNat = p.length - 1 := by omega
      refine leafV hK ?_
      rw [e]
      simp only [optN, nd_eta, elDef, e5, Int.toNat_zero, List.drop_zero, hm, Option.getD_some, hl, hy]
      first | done | rfl
theorem s19 : (CtrOK Tryd.prog 19 (.gen .ps C19) ∧ Callable Tryd.prog 19) := by
  refine gen_ok (E := E19) (mkE_cons s36 (mkE_cons s37 (mkE_cons s38k (mkE_cons s39 (mkE_nil tab_ok))))) mix (O := O19) (C := C19) (own := .ps) Tryd.func19 rfl (by rfl) (by kernel_rfl) (fun args K h hbd => ?_)
  unfold C19 at h; split at h
  case h_2 => exact h.elim
  exact ⟨Nat.le_of_ble_eq_true rfl, a19 ⟨_, _, _, _, _⟩ _ ⟨_, _, _, _, _⟩ (by exact hbd) _ h⟩
end Go.Rs

