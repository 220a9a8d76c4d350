import Derived.Test.YtmkgadogaefkaaaEF
set_option linter.all false
set_option linter.unusedSimpArgs false
set_option linter.unusedVariables false
namespace Go.Rs
open Go.Proofs
set_option maxRecDepth 100000
def ndD (n : Nd) : List AV := [.int .i64 n.kind, .int .i64 n.num, .str n.text, .own .str n.names, .dp .node n.kids]
noncomputable def c80d (l : List Bs) (K : AV → List AV → Prop) : Prop :=
    Obl (l.length ≤ 2097152) (K (.own .str l) [])
noncomputable def C80d : List AV → (AV → List AV → Prop) → Prop
  | [.ps .str l], K => c80d l K
  | _, _ => False
noncomputable def E80d : Ctx := mkE tab []
noncomputable def O80d : Nat → List DI := ordL []
theorem a80d (l : List Bs) (hb : BdAs [.ps .str l]) (K : AV → List AV → Prop) (h : c80d l K) : abody E80d O80d .ow Try.f80 (Try.f80.body.getD .skip) [.ps .str l] K := by
  simp only [BdAs, BdA, BdL, BdC, MX, ndC, shC, itC, stC, opC, chC, nwC, flC, rqC, rsC, enc, List.cons_append, List.nil_append, and_true, true_and] at hb
  unfold c80d at h
  obtain ⟨hs, hK⟩ := h
  conv => whnf
  repeat' first|(refine Cnd.mk (fun h=>?_) (fun h=>?_)<;>(try simp [etas,elDef,-List.getD_eq_getElem?_getD] at h)<;>conv=>whnf)|(refine Obl.mk (by first|omega|rfl|exact inK_byte _|(simp only [inK,Int.toNat_natCast,etas,elDef]<;>first|omega|grind)|grind [inK]) ?_<;>conv=>whnf)|(refine OblG.mk (by ((conv=>whnf);(repeat (first|(refine Bx.mk ?_)|(intro h;(try simp [etas,elDef,-List.getD_eq_getElem?_getD] at h);conv=>whnf)));(first|omega|rfl|exact inK_byte _|(simp only [inK,Int.toNat_natCast,etas,elDef]<;>first|omega|grind)|grind [inK]))) ?_<;>conv=>whnf)|(refine Gd.mk (fun h=>?_)<;>(try simp [etas,elDef,-List.getD_eq_getElem?_getD] at h)<;>conv=>whnf)|(refine And.intro ?_ ?_<;>conv=>whnf)|exact True.intro|(intro;conv=>whnf)
  refine aloop_intro Nat (fun k => k ≤ l.length ∧ True) (fun k => l.length - k) (fun k => [(4, .int .i64 k)]) (fun k => [(7, .arr .str (fillD default l k))]) [] 0 [] [] ?_ ?_ (by exact sgOk_of (by rfl)) ?_
  · first | (simp; done) | (simp; assumption)
  · iterate 2 ((all_goals (conv=>whnf));(repeat' (first|exact trivial|rfl|(refine nilEq ?_;first|rfl|(simp only [*];done)|(simp [*];done)|grind)|apply And.intro|((first|refine intEq ?_|refine boolEq ?_|refine strEq ?_|refine psEq ?_|refine nilEq ?_|refine arrEq ?_);(try simp only [Int.toNat_natCast,etas,elDef]);first | done | omega | grind | (simp only [*]; done) | (simp [*]; done)))));(all_goals ((try simp only [Int.toNat_natCast,etas,elDef]);first | done | omega | grind | (simp only [*]; done) | (simp [*]; done)))
  rintro i ⟨hi, hj⟩
  conv => whnf
  have hl := fillD_len default l hi
  have hset := fun h => fillD_set default l (k := i) h
  repeat' first|(refine Cnd.mk (fun h=>?_) (fun h=>?_)<;>(try simp [etas,elDef,-List.getD_eq_getElem?_getD] at h)<;>conv=>whnf)|(refine Obl.mk (by first|omega|rfl|exact inK_byte _|(simp only [inK,Int.toNat_natCast,etas,elDef]<;>first|omega|grind)|grind [inK]) ?_<;>conv=>whnf)|(refine OblG.mk (by ((conv=>whnf);(repeat (first|(refine Bx.mk ?_)|(intro h;(try simp [etas,elDef,-List.getD_eq_getElem?_getD] at h);conv=>whnf)));(first|omega|rfl|exact inK_byte _|(simp only [inK,Int.toNat_natCast,etas,elDef]<;>first|omega|grind)|grind [inK]))) ?_<;>conv=>whnf)|(refine Gd.mk (fun h=>?_)<;>(try simp [etas,elDef,-List.getD_eq_getElem?_getD] at h)<;>conv=>whnf)|(refine And.intro ?_ ?_<;>conv=>whnf)|exact True.intro|(intro;conv=>whnf)
  · exact ⟨i + 1, [], [], ⟨by omega, by grind⟩, by omega, by iterate 2 ((all_goals (conv=>whnf));(repeat' (first|exact trivial|rfl|(refine nilEq ?_;first|rfl|(simp only [*];done)|(simp [*];done)|grind)|apply And.intro|((first|refine intEq ?_|refine boolEq ?_|refine strEq ?_|refine psEq ?_|refine nilEq ?_|refine arrEq ?_);(try simp only [Int.toNat_natCast,etas,elDef]);first | done | omega | grind | (simp only [*]; done) | (simp [*]; done)))));(all_goals ((try simp only [Int.toNat_natCast,etas,elDef]);first | done | omega | grind | (simp only [*]; done) | (simp [*]; done))), (by exact sgOk_of (by rfl))⟩
  · exact leafV hK (by simp_all [fillD_all default l ‹l.length ≤ i›])
theorem s80d : (CtrOK Try.prog 80 (.gen .ow C80d) ∧ Callable Try.prog 80) := by
  refine gen_ok (E := E80d) (mkE_nil tab_ok) mix (O := O80d) (C := C80d) (own := .ow) Try.func80 rfl (by rfl) (by kernel_rfl) (fun args K h hbd => ?_)
  unfold C80d at h; split at h
  case h_2 => exact h.elim
  exact ⟨Nat.le_of_ble_eq_true rfl, a80d _ (by exact hbd) _ h⟩
noncomputable def c63d (n : Nd) (K : AV → List AV → Prop) : Prop :=
    Obl (smN n) (K (.st (ndD n)) [])
noncomputable def m63d (n : Nd) : Nat := SizeOf.sizeOf n
noncomputable def D63d : List AV → (AV → List AV → Prop) → Prop
  | [.st [.int .i64 n_0, .int .i64 n_1, .str n_2, .ps .str n_3, .ps .node n_4]], K => c63d ⟨n_0, n_1, n_2, n_3, n_4⟩ K
  | _, _ => False
noncomputable def C63d (args : List AV) (K : AV → List AV → Prop) : Prop := D63d (fixAs args) K
noncomputable def Dk63d (k : Nat) : List AV → (AV → List AV → Prop) → Prop
  | [.st [.int .i64 n_0, .int .i64 n_1, .str n_2, .ps .str n_3, .ps .node n_4]], K => Obl (m63d ⟨n_0, n_1, n_2, n_3, n_4⟩ < k) (c63d ⟨n_0, n_1, n_2, n_3, n_4⟩ K)
  | _, _ => False
noncomputable def Ck63d (k : Nat) (args : List AV) (K : AV → List AV → Prop) : Prop := Dk63d k (fixAs args) K
noncomputable def c81d (l : List Nd) (K : AV → List AV → Prop) : Prop :=
    Obl (smNs l) (K (.dp .node l) [])
noncomputable def m81d (l : List Nd) : Nat := SizeOf.sizeOf l
noncomputable def Dk81d (k : Nat) : List AV → (AV → List AV → Prop) → Prop
  | [.ps .node l], K => Obl (m81d l < k) (c81d l K)
  | _, _ => False
noncomputable def Ck81d (k : Nat) (args : List AV) (K : AV → List AV → Prop) : Prop := Dk81d k (fixAs args) K
noncomputable def E63d (k : Nat) : Ctx := mkE tab [(80, .gen .ow C80d), (81, .gen .ow (Ck81d k))]
noncomputable def O63d : Nat → List DI := ordL []
theorem a63d (k : Nat) (n : Nd) (hm : m63d n < k + 1) (hb : BdAs [.st (ndC n)]) (K : AV → List AV → Prop) (h : c63d n K) : abodyD (E63d k) O63d .ow Try.f63 (Try.f63.body.getD .skip) [.st (ndC n)] (fun r rs => K (fixR r) (fixAs rs)) := by
  simp only [BdAs, BdA, BdL, BdC, MX, ndC, shC, itC, stC, opC, chC, nwC, flC, rqC, rsC, enc, List.cons_append, List.nil_append, and_true, true_and] at hb
  unfold c63d at h
  unfold m63d at hm
  obtain ⟨hs, hK⟩ := h
  have h1 := kids_size n
  have h2 := hs.names
  have h3 := hs.kidsS
  conv => whnf
  repeat' first|(refine Cnd.mk (fun h=>?_) (fun h=>?_)<;>(try simp [etas,elDef,-List.getD_eq_getElem?_getD] at h)<;>conv=>whnf)|(refine Obl.mk (by first|omega|rfl|exact inK_byte _|(simp only [inK,Int.toNat_natCast,etas,elDef,m63d,m81d,m81d]<;>first|omega|grind)|grind [inK,m63d,m81d,m81d]) ?_<;>conv=>whnf)|(refine OblG.mk (by ((conv=>whnf);(repeat (first|(refine Bx.mk ?_)|(intro h;(try simp [etas,elDef,-List.getD_eq_getElem?_getD] at h);conv=>whnf)));(first|omega|rfl|exact inK_byte _|(simp only [inK,Int.toNat_natCast,etas,elDef,m63d,m81d,m81d]<;>first|omega|grind)|grind [inK,m63d,m81d,m81d]))) ?_<;>conv=>whnf)|(refine Gd.mk (fun h=>?_)<;>(try simp [etas,elDef,-List.getD_eq_getElem?_getD] at h)<;>conv=>whnf)|(refine And.intro ?_ ?_<;>conv=>whnf)|exact True.intro|(intro;conv=>whnf)
  all_goals exact leafV hK rfl
noncomputable def E81d (k : Nat) : Ctx := mkE tab [(63, .gen .ow (Ck63d k))]
noncomputable def O81d : Nat → List DI := ordL []
theorem a81d (k : Nat) (l : List Nd) (hm : m81d l < k + 1) (hb : BdAs [.ps .node l]) (K : AV → List AV → Prop) (h : c81d l K) : abodyD (E81d k) O81d .ow Try.f81 (Try.f81.body.getD .skip) [.ps .node l] (fun r rs => K (fixR r) (fixAs rs)) := by
  simp only [BdAs, BdA, BdL, BdC, MX, ndC, shC, itC, stC, opC, chC, nwC, flC, rqC, rsC, enc, List.cons_append, List.nil_append, and_true, true_and] at hb
  unfold c81d at h
  unfold m81d at hm
  obtain ⟨hs, hK⟩ := h
  have hkid : ∀ j, j < l.length → SizeOf.sizeOf (l.getD j default) < k ∧ smN (l.getD j default) := fun j hj => ⟨by have := mem_size hj; omega, hs.kid hj⟩
  have h3 := hs.1
  conv => whnf
  repeat' first|(refine Cnd.mk (fun h=>?_) (fun h=>?_)<;>(try simp [etas,elDef,-List.getD_eq_getElem?_getD] at h)<;>conv=>whnf)|(refine Obl.mk (by first|omega|rfl|exact inK_byte _|(simp only [inK,Int.toNat_natCast,etas,elDef,m63d,m81d,m63d]<;>first|omega|grind)|grind [inK,m63d,m81d,m63d]) ?_<;>conv=>whnf)|(refine OblG.mk (by ((conv=>whnf);(repeat (first|(refine Bx.mk ?_)|(intro h;(try simp [etas,elDef,-List.getD_eq_getElem?_getD] at h);conv=>whnf)));(first|omega|rfl|exact inK_byte _|(simp only [inK,Int.toNat_natCast,etas,elDef,m63d,m81d,m63d]<;>first|omega|grind)|grind [inK,m63d,m81d,m63d]))) ?_<;>conv=>whnf)|(refine Gd.mk (fun h=>?_)<;>(try simp [etas,elDef,-List.getD_eq_getElem?_getD] at h)<;>conv=>whnf)|(refine And.intro ?_ ?_<;>conv=>whnf)|exact True.intro|(intro;conv=>whnf)
  refine aloop_intro Nat (fun k => k ≤ l.length ∧ True) (fun k => l.length - k) (fun k => [(4, .int .i64 k)]) (fun k => [(7, .tree .node (fillD default l k))]) [] 0 [] [] ?_ ?_ (by exact sgOk_of (by rfl)) ?_
  · first | (simp; done) | (simp; assumption)
  · iterate 2 ((all_goals (conv=>whnf));(repeat' (first|exact trivial|rfl|(refine nilEq ?_;first|rfl|(simp only [*];done)|(simp [*];done)|grind)|apply And.intro|((first|refine intEq ?_|refine boolEq ?_|refine strEq ?_|refine psEq ?_|refine nilEq ?_|refine arrEq ?_);(try simp only [Int.toNat_natCast,etas,elDef]);first | done | omega | grind | (simp only [*]; done) | (simp [*]; done)))));(all_goals ((try simp only [Int.toNat_natCast,etas,elDef]);first | done | omega | grind | (simp only [*]; done) | (simp [*]; done)))
  rintro i ⟨hi, hj⟩
  conv => whnf
  have hl := fillD_len default l hi
  have hset := fun h => fillD_set default l (k := i) h
  repeat' first|(refine Cnd.mk (fun h=>?_) (fun h=>?_)<;>(try simp [etas,elDef,-List.getD_eq_getElem?_getD] at h)<;>conv=>whnf)|(refine Obl.mk (by first|omega|rfl|exact inK_byte _|(simp only [inK,Int.toNat_natCast,etas,elDef,m63d,m81d,m63d]<;>first|omega|grind)|grind [inK,m63d,m81d,m63d]) ?_<;>conv=>whnf)|(refine OblG.mk (by ((conv=>whnf);(repeat (first|(refine Bx.mk ?_)|(intro h;(try simp [etas,elDef,-List.getD_eq_getElem?_getD] at h);conv=>whnf)));(first|omega|rfl|exact inK_byte _|(simp only [inK,Int.toNat_natCast,etas,elDef,m63d,m81d,m63d]<;>first|omega|grind)|grind [inK,m63d,m81d,m63d]))) ?_<;>conv=>whnf)|(refine Gd.mk (fun h=>?_)<;>(try simp [etas,elDef,-List.getD_eq_getElem?_getD] at h)<;>conv=>whnf)|(refine And.intro ?_ ?_<;>conv=>whnf)|exact True.intro|(intro;conv=>whnf)
  · exact ⟨i + 1, [], [], ⟨by omega, by grind⟩, by omega, by iterate 2 ((all_goals (conv=>whnf));(repeat' (first|exact trivial|rfl|(refine nilEq ?_;first|rfl|(simp only [*];done)|(simp [*];done)|grind)|apply And.intro|((first|refine intEq ?_|refine boolEq ?_|refine strEq ?_|refine psEq ?_|refine nilEq ?_|refine arrEq ?_);(try simp only [Int.toNat_natCast,etas,elDef]);first | done | omega | grind | (simp only [*]; done) | (simp [*]; done)))));(all_goals ((try simp only [Int.toNat_natCast,etas,elDef]);first | done | omega | grind | (simp only [*]; done) | (simp [*]; done))), (by exact sgOk_of (by rfl))⟩
  · exact leafV hK (by simp_all [fixR, fixV, fixL, fix1, deepE, fillD_all default l ‹l.length ≤ i›])
theorem r63_81d : ∀ k, (CtrOK Try.prog 63 (.gen .ow (Ck63d k)) ∧ Callable Try.prog 63) ∧ (CtrOK Try.prog 81 (.gen .ow (Ck81d k)) ∧ Callable Try.prog 81) := by
  intro k
  induction k with
  | zero =>
    exact ⟨⟨fun args K h => by
        unfold Ck63d Dk63d at h; split at h
        · exact absurd h.o (Nat.not_lt_zero _)
        · exact h.elim, callable Try.func63 rfl (by rfl)⟩, ⟨fun args K h => by
        unfold Ck81d Dk81d at h; split at h
        · exact absurd h.o (Nat.not_lt_zero _)
        · exact h.elim, callable Try.func81 rfl (by rfl)⟩⟩
  | succ k ih =>
    refine ⟨?_, ?_⟩
    · refine gen_okD (E := E63d k) (mkE_cons s80d (mkE_cons ih.2 (mkE_nil tab_ok))) mix (O := O63d) (D := (Dk63d (k + 1))) (own := .ow) Try.func63 rfl (by rfl) (by kernel_rfl) (fun args K h hbd => ?_)
      unfold Dk63d at h; split at h
      case h_2 => exact h.elim
      exact ⟨Nat.le_of_ble_eq_true rfl, a63d k ⟨_, _, _, _, _⟩ h.o (by exact hbd) _ h.k⟩
    · refine gen_okD (E := E81d k) (mkE_cons ih.1 (mkE_nil tab_ok)) mix (O := O81d) (D := (Dk81d (k + 1))) (own := .ow) Try.func81 rfl (by rfl) (by kernel_rfl) (fun args K h hbd => ?_)
      unfold Dk81d at h; split at h
      case h_2 => exact h.elim
      exact ⟨Nat.le_of_ble_eq_true rfl, a81d k _ h.o (by exact hbd) _ h.k⟩
theorem s63d : (CtrOK Try.prog 63 (.gen .ow C63d) ∧ Callable Try.prog 63) := by
  refine ⟨fun args K h => ?_, (r63_81d 0).1.2⟩
  unfold C63d D63d at h; split at h
  · rename_i heq; exact (r63_81d (m63d ⟨_, _, _, _, _⟩ + 1)).1.1 _ _ (by unfold Ck63d Dk63d; rw [heq]; exact ⟨Nat.lt_succ_self _, h⟩)
  · exact h.elim
end Go.Rs

