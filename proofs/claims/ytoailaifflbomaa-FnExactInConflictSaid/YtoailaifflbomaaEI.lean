import Derived.Test.YtoailaifflbomaaEF
set_option linter.all false
set_option linter.unusedSimpArgs false
set_option linter.unusedVariables false
namespace Go.Rs
open Go.Proofs
set_option maxRecDepth 100000
def ndD (n : Nd) : List AV := [.int .i64 n.kind, .int .i64 n.num, .str n.text, .own .str n.names, .dp .node n.kids]
noncomputable def c66d (l : List Bs) (K : AV → List AV → Prop) : Prop :=
    Obl (l.length ≤ 2097152) (K (.own .str l) [])
noncomputable def C66d : List AV → (AV → List AV → Prop) → Prop
  | [.ps .str l], K => c66d l K
  | _, _ => False
noncomputable def E66d : Ctx := mkE tab []
noncomputable def O66d : Nat → List DI := ordL []
theorem a66d (l : List Bs) (hb : BdAs [.ps .str l]) (K : AV → List AV → Prop) (h : c66d l K) : abody E66d O66d .ow Try.f66 (Try.f66.body.getD .skip) [.ps .str l] K := by
  simp only [BdAs, BdA, BdL, BdC, MX, ndC, shC, itC, stC, opC, chC, nwC, flC, rqC, rsC, enc, List.cons_append, List.nil_append, and_true, true_and] at hb
  unfold c66d at h
  obtain ⟨hs, hK⟩ := h
  conv => whnf
  repeat' first|((first|refine Cnd.mk (fun h=>?_) (fun h=>?_)|refine Gd.mk (fun h=>?_))<;>(try simp [etas,elDef,-List.getD_eq_getElem?_getD] at h)<;>conv=>whnf)|((first|refine Obl.mk (by first|omega|rfl|exact inK_byte _|(simp only [inK,Int.toNat_natCast,etas,elDef]<;>first|omega|grind)|grind [inK]) ?_|refine OblG.mk (by ((conv=>whnf);(repeat (first|refine Bx.mk ?_|(intro h;(try simp [etas,elDef,-List.getD_eq_getElem?_getD] at h);conv=>whnf)));(first|omega|rfl|exact inK_byte _|(simp only [inK,Int.toNat_natCast,etas,elDef]<;>first|omega|grind)|grind [inK]))) ?_|refine And.intro ?_ ?_)<;>conv=>whnf)|exact True.intro|(intro;conv=>whnf)
  refine aloop_intro Nat (fun k => k ≤ l.length ∧ True) (fun k => l.length - k) (fun k => [(4, .int .i64 k)]) (fun k => [(7, .arr .str (fillD default l k))]) [] 0 [] [] ?_ ?_ (by exact sgOk_of (by rfl)) ?_
  · first | (simp; done) | (simp; assumption)
  · iterate 2 ((all_goals (conv=>whnf));(repeat' (first|exact trivial|rfl|(refine nilEq ?_;first|rfl|(simp only [*];done)|(simp [*];done)|grind)|apply And.intro|((first|apply intEq|apply boolEq|apply strEq|apply psEq|apply nilEq|apply arrEq);(try simp only [Int.toNat_natCast,etas,elDef]);first | done | omega | grind | (simp only [*]; done) | (simp [*]; done)))));(all_goals ((try simp only [Int.toNat_natCast,etas,elDef]);first | done | omega | grind | (simp only [*]; done) | (simp [*]; done)))
  rintro i ⟨hi, hj⟩
  conv => whnf
  have hl := fillD_len default l hi
  have hset := fun h => fillD_set default l (k := i) h
  repeat' first|((first|refine Cnd.mk (fun h=>?_) (fun h=>?_)|refine Gd.mk (fun h=>?_))<;>(try simp [etas,elDef,-List.getD_eq_getElem?_getD] at h)<;>conv=>whnf)|((first|refine Obl.mk (by first|omega|rfl|exact inK_byte _|(simp only [inK,Int.toNat_natCast,etas,elDef]<;>first|omega|grind)|grind [inK]) ?_|refine OblG.mk (by ((conv=>whnf);(repeat (first|refine Bx.mk ?_|(intro h;(try simp [etas,elDef,-List.getD_eq_getElem?_getD] at h);conv=>whnf)));(first|omega|rfl|exact inK_byte _|(simp only [inK,Int.toNat_natCast,etas,elDef]<;>first|omega|grind)|grind [inK]))) ?_|refine And.intro ?_ ?_)<;>conv=>whnf)|exact True.intro|(intro;conv=>whnf)
  · exact ⟨i + 1, [], [], ⟨by omega, by grind⟩, by omega, by iterate 2 ((all_goals (conv=>whnf));(repeat' (first|exact trivial|rfl|(refine nilEq ?_;first|rfl|(simp only [*];done)|(simp [*];done)|grind)|apply And.intro|((first|apply intEq|apply boolEq|apply strEq|apply psEq|apply nilEq|apply arrEq);(try simp only [Int.toNat_natCast,etas,elDef]);first | done | omega | grind | (simp only [*]; done) | (simp [*]; done)))));(all_goals ((try simp only [Int.toNat_natCast,etas,elDef]);first | done | omega | grind | (simp only [*]; done) | (simp [*]; done))), (by exact sgOk_of (by rfl))⟩
  · exact leafV hK (by simp_all [fillD_all default l ‹l.length ≤ i›])
theorem s66d : (CtrOK Try.prog 66 (.gen .ow C66d) ∧ Callable Try.prog 66) := by
  refine gen_ok (E := E66d) (mkE_nil tab_ok) mix (O := O66d) (C := C66d) (own := .ow) Try.func66 rfl (by rfl) (by kernel_rfl) (fun args K h hbd => ?_)
  unfold C66d at h; split at h
  case h_2 => exact h.elim
  exact ⟨Nat.le_of_ble_eq_true rfl, a66d _ (by exact hbd) _ h⟩
noncomputable def c35d (n : Nd) (K : AV → List AV → Prop) : Prop :=
    Obl (smN n) (K (.st (ndD n)) [])
noncomputable def m35d (n : Nd) : Nat := SizeOf.sizeOf n
noncomputable def D35d : List AV → (AV → List AV → Prop) → Prop
  | [.st [.int .i64 n_0, .int .i64 n_1, .str n_2, .ps .str n_3, .ps .node n_4]], K => c35d ⟨n_0, n_1, n_2, n_3, n_4⟩ K
  | _, _ => False
noncomputable def C35d (args : List AV) (K : AV → List AV → Prop) : Prop := D35d (fixAs args) K
noncomputable def Dk35d (k : Nat) : List AV → (AV → List AV → Prop) → Prop
  | [.st [.int .i64 n_0, .int .i64 n_1, .str n_2, .ps .str n_3, .ps .node n_4]], K => Obl (m35d ⟨n_0, n_1, n_2, n_3, n_4⟩ < k) (c35d ⟨n_0, n_1, n_2, n_3, n_4⟩ K)
  | _, _ => False
noncomputable def Ck35d (k : Nat) (args : List AV) (K : AV → List AV → Prop) : Prop := Dk35d k (fixAs args) K
noncomputable def c67d (l : List Nd) (K : AV → List AV → Prop) : Prop :=
    Obl (smNs l) (K (.dp .node l) [])
noncomputable def m67d (l : List Nd) : Nat := SizeOf.sizeOf l
noncomputable def Dk67d (k : Nat) : List AV → (AV → List AV → Prop) → Prop
  | [.ps .node l], K => Obl (m67d l < k) (c67d l K)
  | _, _ => False
noncomputable def Ck67d (k : Nat) (args : List AV) (K : AV → List AV → Prop) : Prop := Dk67d k (fixAs args) K
noncomputable def E35d (k : Nat) : Ctx := mkE tab [(66, .gen .ow C66d), (67, .gen .ow (Ck67d k))]
noncomputable def O35d : Nat → List DI := ordL []
theorem a35d (k : Nat) (n : Nd) (hm : m35d n < k + 1) (hb : BdAs [.st (ndC n)]) (K : AV → List AV → Prop) (h : c35d n K) : abodyD (E35d k) O35d .ow Try.f35 (Try.f35.body.getD .skip) [.st (ndC n)] (fun r rs => K (fixR r) (fixAs rs)) := by
  simp only [BdAs, BdA, BdL, BdC, MX, ndC, shC, itC, stC, opC, chC, nwC, flC, rqC, rsC, enc, List.cons_append, List.nil_append, and_true, true_and] at hb
  unfold c35d at h
  unfold m35d at hm
  obtain ⟨hs, hK⟩ := h
  have h1 := kids_size n
  have h2 := hs.names
  have h3 := hs.kidsS
  conv => whnf
  repeat' first|((first|refine Cnd.mk (fun h=>?_) (fun h=>?_)|refine Gd.mk (fun h=>?_))<;>(try simp [etas,elDef,-List.getD_eq_getElem?_getD] at h)<;>conv=>whnf)|((first|refine Obl.mk (by first|omega|rfl|exact inK_byte _|(simp only [inK,Int.toNat_natCast,etas,elDef,m35d,m67d,m67d]<;>first|omega|grind)|grind [inK,m35d,m67d,m67d]) ?_|refine OblG.mk (by ((conv=>whnf);(repeat (first|refine Bx.mk ?_|(intro h;(try simp [etas,elDef,-List.getD_eq_getElem?_getD] at h);conv=>whnf)));(first|omega|rfl|exact inK_byte _|(simp only [inK,Int.toNat_natCast,etas,elDef,m35d,m67d,m67d]<;>first|omega|grind)|grind [inK,m35d,m67d,m67d]))) ?_|refine And.intro ?_ ?_)<;>conv=>whnf)|exact True.intro|(intro;conv=>whnf)
  all_goals exact leafV hK rfl
noncomputable def E67d (k : Nat) : Ctx := mkE tab [(35, .gen .ow (Ck35d k))]
noncomputable def O67d : Nat → List DI := ordL []
theorem a67d (k : Nat) (l : List Nd) (hm : m67d l < k + 1) (hb : BdAs [.ps .node l]) (K : AV → List AV → Prop) (h : c67d l K) : abodyD (E67d k) O67d .ow Try.f67 (Try.f67.body.getD .skip) [.ps .node l] (fun r rs => K (fixR r) (fixAs rs)) := by
  simp only [BdAs, BdA, BdL, BdC, MX, ndC, shC, itC, stC, opC, chC, nwC, flC, rqC, rsC, enc, List.cons_append, List.nil_append, and_true, true_and] at hb
  unfold c67d at h
  unfold m67d at hm
  obtain ⟨hs, hK⟩ := h
  have hkid : ∀ j, j < l.length → SizeOf.sizeOf (l.getD j default) < k ∧ smN (l.getD j default) := fun j hj => ⟨by have := mem_size hj; omega, hs.kid hj⟩
  have h3 := hs.1
  conv => whnf
  repeat' first|((first|refine Cnd.mk (fun h=>?_) (fun h=>?_)|refine Gd.mk (fun h=>?_))<;>(try simp [etas,elDef,-List.getD_eq_getElem?_getD] at h)<;>conv=>whnf)|((first|refine Obl.mk (by first|omega|rfl|exact inK_byte _|(simp only [inK,Int.toNat_natCast,etas,elDef,m35d,m67d,m35d]<;>first|omega|grind)|grind [inK,m35d,m67d,m35d]) ?_|refine OblG.mk (by ((conv=>whnf);(repeat (first|refine Bx.mk ?_|(intro h;(try simp [etas,elDef,-List.getD_eq_getElem?_getD] at h);conv=>whnf)));(first|omega|rfl|exact inK_byte _|(simp only [inK,Int.toNat_natCast,etas,elDef,m35d,m67d,m35d]<;>first|omega|grind)|grind [inK,m35d,m67d,m35d]))) ?_|refine And.intro ?_ ?_)<;>conv=>whnf)|exact True.intro|(intro;conv=>whnf)
  refine aloop_intro Nat (fun k => k ≤ l.length ∧ True) (fun k => l.length - k) (fun k => [(4, .int .i64 k)]) (fun k => [(7, .tree .node (fillD default l k))]) [] 0 [] [] ?_ ?_ (by exact sgOk_of (by rfl)) ?_
  · first | (simp; done) | (simp; assumption)
  · iterate 2 ((all_goals (conv=>whnf));(repeat' (first|exact trivial|rfl|(refine nilEq ?_;first|rfl|(simp only [*];done)|(simp [*];done)|grind)|apply And.intro|((first|apply intEq|apply boolEq|apply strEq|apply psEq|apply nilEq|apply arrEq);(try simp only [Int.toNat_natCast,etas,elDef]);first | done | omega | grind | (simp only [*]; done) | (simp [*]; done)))));(all_goals ((try simp only [Int.toNat_natCast,etas,elDef]);first | done | omega | grind | (simp only [*]; done) | (simp [*]; done)))
  rintro i ⟨hi, hj⟩
  conv => whnf
  have hl := fillD_len default l hi
  have hset := fun h => fillD_set default l (k := i) h
  repeat' first|((first|refine Cnd.mk (fun h=>?_) (fun h=>?_)|refine Gd.mk (fun h=>?_))<;>(try simp [etas,elDef,-List.getD_eq_getElem?_getD] at h)<;>conv=>whnf)|((first|refine Obl.mk (by first|omega|rfl|exact inK_byte _|(simp only [inK,Int.toNat_natCast,etas,elDef,m35d,m67d,m35d]<;>first|omega|grind)|grind [inK,m35d,m67d,m35d]) ?_|refine OblG.mk (by ((conv=>whnf);(repeat (first|refine Bx.mk ?_|(intro h;(try simp [etas,elDef,-List.getD_eq_getElem?_getD] at h);conv=>whnf)));(first|omega|rfl|exact inK_byte _|(simp only [inK,Int.toNat_natCast,etas,elDef,m35d,m67d,m35d]<;>first|omega|grind)|grind [inK,m35d,m67d,m35d]))) ?_|refine And.intro ?_ ?_)<;>conv=>whnf)|exact True.intro|(intro;conv=>whnf)
  · exact ⟨i + 1, [], [], ⟨by omega, by grind⟩, by omega, by iterate 2 ((all_goals (conv=>whnf));(repeat' (first|exact trivial|rfl|(refine nilEq ?_;first|rfl|(simp only [*];done)|(simp [*];done)|grind)|apply And.intro|((first|apply intEq|apply boolEq|apply strEq|apply psEq|apply nilEq|apply arrEq);(try simp only [Int.toNat_natCast,etas,elDef]);first | done | omega | grind | (simp only [*]; done) | (simp [*]; done)))));(all_goals ((try simp only [Int.toNat_natCast,etas,elDef]);first | done | omega | grind | (simp only [*]; done) | (simp [*]; done))), (by exact sgOk_of (by rfl))⟩
  · exact leafV hK (by simp_all [fixR, fixV, fixL, fix1, deepE, fillD_all default l ‹l.length ≤ i›])
theorem r35_67d : ∀ k, (CtrOK Try.prog 35 (.gen .ow (Ck35d k)) ∧ Callable Try.prog 35) ∧ (CtrOK Try.prog 67 (.gen .ow (Ck67d k)) ∧ Callable Try.prog 67) := by
  intro k
  induction k with
  | zero =>
    exact ⟨⟨fun args K h => by
        unfold Ck35d Dk35d at h; split at h
        · exact absurd h.o (Nat.not_lt_zero _)
        · exact h.elim, callable Try.func35 rfl (by rfl)⟩, ⟨fun args K h => by
        unfold Ck67d Dk67d at h; split at h
        · exact absurd h.o (Nat.not_lt_zero _)
        · exact h.elim, callable Try.func67 rfl (by rfl)⟩⟩
  | succ k ih =>
    refine ⟨?_, ?_⟩
    · refine gen_okD (E := E35d k) (mkE_cons s66d (mkE_cons ih.2 (mkE_nil tab_ok))) mix (O := O35d) (D := (Dk35d (k + 1))) (own := .ow) Try.func35 rfl (by rfl) (by kernel_rfl) (fun args K h hbd => ?_)
      unfold Dk35d at h; split at h
      case h_2 => exact h.elim
      exact ⟨Nat.le_of_ble_eq_true rfl, a35d k ⟨_, _, _, _, _⟩ h.o (by exact hbd) _ h.k⟩
    · refine gen_okD (E := E67d k) (mkE_cons ih.1 (mkE_nil tab_ok)) mix (O := O67d) (D := (Dk67d (k + 1))) (own := .ow) Try.func67 rfl (by rfl) (by kernel_rfl) (fun args K h hbd => ?_)
      unfold Dk67d at h; split at h
      case h_2 => exact h.elim
      exact ⟨Nat.le_of_ble_eq_true rfl, a67d k _ h.o (by exact hbd) _ h.k⟩
theorem s35d : (CtrOK Try.prog 35 (.gen .ow C35d) ∧ Callable Try.prog 35) := by
  refine ⟨fun args K h => ?_, (r35_67d 0).1.2⟩
  unfold C35d D35d at h; split at h
  · rename_i heq; exact (r35_67d (m35d ⟨_, _, _, _, _⟩ + 1)).1.1 _ _ (by unfold Ck35d Dk35d; rw [heq]; exact ⟨Nat.lt_succ_self _, h⟩)
  · exact h.elim
end Go.Rs

