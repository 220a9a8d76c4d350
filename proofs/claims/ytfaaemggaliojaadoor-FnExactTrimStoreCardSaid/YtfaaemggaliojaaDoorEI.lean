import Derived.Test.YtfaaemggaliojaaDoorEF
set_option linter.all false
set_option linter.unusedSimpArgs false
set_option linter.unusedVariables false
namespace Go.Rs
open Go.Proofs
set_option maxRecDepth 100000
def ndD (n : Nd) : List AV := [.int .i64 n.kind, .int .i64 n.num, .str n.text, .own .str n.names, .dp .node n.kids]
noncomputable def c54d (l : List Bs) (K : AV → List AV → Prop) : Prop :=
    Obl (l.length ≤ 2097152) (K (.own .str l) [])
noncomputable def C54d : List AV → (AV → List AV → Prop) → Prop
  | [.ps .str l], K => c54d l K
  | _, _ => False
noncomputable def E54d : Ctx := mkE tab []
noncomputable def O54d : Nat → List DI := ordL []
theorem a54d (l : List Bs) (hb : BdAs [.ps .str l]) (K : AV → List AV → Prop) (h : c54d l K) : abody E54d O54d .ow Tryd.f54 (Tryd.f54.body.getD .skip) [.ps .str l] K := by
  simp only [BdAs, BdA, BdL, BdC, MX, ndC, shC, itC, stC, opC, chC, nwC, flC, rqC, rsC, enc, List.cons_append, List.nil_append, and_true, true_and] at hb
  unfold c54d at h
  obtain ⟨hs, hK⟩ := h
  conv => whnf
  repeat' first|((first|refine Cnd.mk (fun h=>?_) (fun h=>?_)|refine Gd.mk (fun h=>?_))<;>(try simp [etas,elDef,-List.getD_eq_getElem?_getD] at h)<;>conv=>whnf)|((first|refine Obl.mk (by first|omega|rfl|exact inK_byte _|(simp only [inK,Int.toNat_natCast,etas,elDef]<;>first|omega|grind)|grind [inK]) ?_|refine OblG.mk (by ((conv=>whnf);(repeat (first|refine Bx.mk ?_|(intro h;(try simp [etas,elDef,-List.getD_eq_getElem?_getD] at h);conv=>whnf)));(first|omega|rfl|exact inK_byte _|(simp only [inK,Int.toNat_natCast,etas,elDef]<;>first|omega|grind)|grind [inK]))) ?_|refine And.intro ?_ ?_)<;>conv=>whnf)|exact True.intro|(intro;conv=>whnf)
  refine aloop_intro Nat (fun k => k ≤ l.length ∧ True) (fun k => l.length - k) (fun k => [(4, .int .i64 k)]) (fun k => [(7, .arr .str (fillD default l k))]) [] 0 [] [] ?_ ?_ (by exact sgOk_of (by rfl)) ?_
  · first | (simp; done) | (simp; assumption)
  · iterate 2 ((all_goals (conv=>whnf));(repeat' (first|exact trivial|rfl|(refine nilEq ?_;first|rfl|(simp only [*];done)|(simp [*];done)|grind)|apply And.intro|((first|apply intEq|apply boolEq|apply strEq|apply psEq|apply nilEq|apply arrEq);(try simp only [Int.toNat_natCast,etas,elDef]);first | done | omega | grind | (simp only [*]; done) | (simp [*]; done)))));(all_goals ((try simp only [Int.toNat_natCast,etas,elDef]);first | done | omega | grind | (simp only [*]; done) | (simp [*]; done)))
  rintro i ⟨hi, hj⟩
  conv => whnf
  have hl := fillD_len default l hi
  have hset := fun h => fillD_set default l (k := i) h
  repeat' first|((first|refine Cnd.mk (fun h=>?_) (fun h=>?_)|refine Gd.mk (fun h=>?_))<;>(try simp [etas,elDef,-List.getD_eq_getElem?_getD] at h)<;>conv=>whnf)|((first|refine Obl.mk (by first|omega|rfl|exact inK_byte _|(simp only [inK,Int.toNat_natCast,etas,elDef]<;>first|omega|grind)|grind [inK]) ?_|refine OblG.mk (by ((conv=>whnf);(repeat (first|refine Bx.mk ?_|(intro h;(try simp [etas,elDef,-List.getD_eq_getElem?_getD] at h);conv=>whnf)));(first|omega|rfl|exact inK_byte _|(simp only [inK,Int.toNat_natCast,etas,elDef]<;>first|omega|grind)|grind [inK]))) ?_|refine And.intro ?_ ?_)<;>conv=>whnf)|exact True.intro|(intro;conv=>whnf)
  · exact ⟨i + 1, [], [], ⟨by omega, by grind⟩, by omega, by iterate 2 ((all_goals (conv=>whnf));(repeat' (first|exact trivial|rfl|(refine nilEq ?_;first|rfl|(simp only [*];done)|(simp [*];done)|grind)|apply And.intro|((first|apply intEq|apply boolEq|apply strEq|apply psEq|apply nilEq|apply arrEq);(try simp only [Int.toNat_natCast,etas,elDef]);first | done | omega | grind | (simp only [*]; done) | (simp [*]; done)))));(all_goals ((try simp only [Int.toNat_natCast,etas,elDef]);first | done | omega | grind | (simp only [*]; done) | (simp [*]; done))), (by exact sgOk_of (by rfl))⟩
  · exact leafV hK (by simp_all [fillD_all default l ‹l.length ≤ i›])
theorem s54d : (CtrOK Tryd.prog 54 (.gen .ow C54d) ∧ Callable Tryd.prog 54) := by
  refine gen_ok (E := E54d) (mkE_nil tab_ok) mix (O := O54d) (C := C54d) (own := .ow) Tryd.func54 rfl (by rfl) (by kernel_rfl) (fun args K h hbd => ?_)
  unfold C54d at h; split at h
  case h_2 => exact h.elim
  exact ⟨Nat.le_of_ble_eq_true rfl, a54d _ (by exact hbd) _ h⟩
noncomputable def c55d (n : Nd) (K : AV → List AV → Prop) : Prop :=
    Obl (smN n) (K (.st (ndD n)) [])
noncomputable def m55d (n : Nd) : Nat := SizeOf.sizeOf n
noncomputable def D55d : List AV → (AV → List AV → Prop) → Prop
  | [.st [.int .i64 n_0, .int .i64 n_1, .str n_2, .ps .str n_3, .ps .node n_4]], K => c55d ⟨n_0, n_1, n_2, n_3, n_4⟩ K
  | _, _ => False
noncomputable def C55d (args : List AV) (K : AV → List AV → Prop) : Prop := D55d (fixAs args) K
noncomputable def Dk55d (k : Nat) : List AV → (AV → List AV → Prop) → Prop
  | [.st [.int .i64 n_0, .int .i64 n_1, .str n_2, .ps .str n_3, .ps .node n_4]], K => Obl (m55d ⟨n_0, n_1, n_2, n_3, n_4⟩ < k) (c55d ⟨n_0, n_1, n_2, n_3, n_4⟩ K)
  | _, _ => False
noncomputable def Ck55d (k : Nat) (args : List AV) (K : AV → List AV → Prop) : Prop := Dk55d k (fixAs args) K
noncomputable def c74d (l : List Nd) (K : AV → List AV → Prop) : Prop :=
    Obl (smNs l) (K (.dp .node l) [])
noncomputable def m74d (l : List Nd) : Nat := SizeOf.sizeOf l
noncomputable def Dk74d (k : Nat) : List AV → (AV → List AV → Prop) → Prop
  | [.ps .node l], K => Obl (m74d l < k) (c74d l K)
  | _, _ => False
noncomputable def Ck74d (k : Nat) (args : List AV) (K : AV → List AV → Prop) : Prop := Dk74d k (fixAs args) K
noncomputable def E55d (k : Nat) : Ctx := mkE tab [(54, .gen .ow C54d), (74, .gen .ow (Ck74d k))]
noncomputable def O55d : Nat → List DI := ordL []
theorem a55d (k : Nat) (n : Nd) (hm : m55d n < k + 1) (hb : BdAs [.st (ndC n)]) (K : AV → List AV → Prop) (h : c55d n K) : abodyD (E55d k) O55d .ow Tryd.f55 (Tryd.f55.body.getD .skip) [.st (ndC n)] (fun r rs => K (fixR r) (fixAs rs)) := by
  simp only [BdAs, BdA, BdL, BdC, MX, ndC, shC, itC, stC, opC, chC, nwC, flC, rqC, rsC, enc, List.cons_append, List.nil_append, and_true, true_and] at hb
  unfold c55d at h
  unfold m55d at hm
  obtain ⟨hs, hK⟩ := h
  have h1 := kids_size n
  have h2 := hs.names
  have h3 := hs.kidsS
  conv => whnf
  repeat' first|((first|refine Cnd.mk (fun h=>?_) (fun h=>?_)|refine Gd.mk (fun h=>?_))<;>(try simp [etas,elDef,-List.getD_eq_getElem?_getD] at h)<;>conv=>whnf)|((first|refine Obl.mk (by first|omega|rfl|exact inK_byte _|(simp only [inK,Int.toNat_natCast,etas,elDef,m55d,m74d,m74d]<;>first|omega|grind)|grind [inK,m55d,m74d,m74d]) ?_|refine OblG.mk (by ((conv=>whnf);(repeat (first|refine Bx.mk ?_|(intro h;(try simp [etas,elDef,-List.getD_eq_getElem?_getD] at h);conv=>whnf)));(first|omega|rfl|exact inK_byte _|(simp only [inK,Int.toNat_natCast,etas,elDef,m55d,m74d,m74d]<;>first|omega|grind)|grind [inK,m55d,m74d,m74d]))) ?_|refine And.intro ?_ ?_)<;>conv=>whnf)|exact True.intro|(intro;conv=>whnf)
  all_goals exact leafV hK rfl
noncomputable def E74d (k : Nat) : Ctx := mkE tab [(55, .gen .ow (Ck55d k))]
noncomputable def O74d : Nat → List DI := ordL []
theorem a74d (k : Nat) (l : List Nd) (hm : m74d l < k + 1) (hb : BdAs [.ps .node l]) (K : AV → List AV → Prop) (h : c74d l K) : abodyD (E74d k) O74d .ow Tryd.f74 (Tryd.f74.body.getD .skip) [.ps .node l] (fun r rs => K (fixR r) (fixAs rs)) := by
  simp only [BdAs, BdA, BdL, BdC, MX, ndC, shC, itC, stC, opC, chC, nwC, flC, rqC, rsC, enc, List.cons_append, List.nil_append, and_true, true_and] at hb
  unfold c74d at h
  unfold m74d at hm
  obtain ⟨hs, hK⟩ := h
  have hkid : ∀ j, j < l.length → SizeOf.sizeOf (l.getD j default) < k ∧ smN (l.getD j default) := fun j hj => ⟨by have := mem_size hj; omega, hs.kid hj⟩
  have h3 := hs.1
  conv => whnf
  repeat' first|((first|refine Cnd.mk (fun h=>?_) (fun h=>?_)|refine Gd.mk (fun h=>?_))<;>(try simp [etas,elDef,-List.getD_eq_getElem?_getD] at h)<;>conv=>whnf)|((first|refine Obl.mk (by first|omega|rfl|exact inK_byte _|(simp only [inK,Int.toNat_natCast,etas,elDef,m55d,m74d,m55d]<;>first|omega|grind)|grind [inK,m55d,m74d,m55d]) ?_|refine OblG.mk (by ((conv=>whnf);(repeat (first|refine Bx.mk ?_|(intro h;(try simp [etas,elDef,-List.getD_eq_getElem?_getD] at h);conv=>whnf)));(first|omega|rfl|exact inK_byte _|(simp only [inK,Int.toNat_natCast,etas,elDef,m55d,m74d,m55d]<;>first|omega|grind)|grind [inK,m55d,m74d,m55d]))) ?_|refine And.intro ?_ ?_)<;>conv=>whnf)|exact True.intro|(intro;conv=>whnf)
  refine aloop_intro Nat (fun k => k ≤ l.length ∧ True) (fun k => l.length - k) (fun k => [(4, .int .i64 k)]) (fun k => [(7, .tree .node (fillD default l k))]) [] 0 [] [] ?_ ?_ (by exact sgOk_of (by rfl)) ?_
  · first | (simp; done) | (simp; assumption)
  · iterate 2 ((all_goals (conv=>whnf));(repeat' (first|exact trivial|rfl|(refine nilEq ?_;first|rfl|(simp only [*];done)|(simp [*];done)|grind)|apply And.intro|((first|apply intEq|apply boolEq|apply strEq|apply psEq|apply nilEq|apply arrEq);(try simp only [Int.toNat_natCast,etas,elDef]);first | done | omega | grind | (simp only [*]; done) | (simp [*]; done)))));(all_goals ((try simp only [Int.toNat_natCast,etas,elDef]);first | done | omega | grind | (simp only [*]; done) | (simp [*]; done)))
  rintro i ⟨hi, hj⟩
  conv => whnf
  have hl := fillD_len default l hi
  have hset := fun h => fillD_set default l (k := i) h
  repeat' first|((first|refine Cnd.mk (fun h=>?_) (fun h=>?_)|refine Gd.mk (fun h=>?_))<;>(try simp [etas,elDef,-List.getD_eq_getElem?_getD] at h)<;>conv=>whnf)|((first|refine Obl.mk (by first|omega|rfl|exact inK_byte _|(simp only [inK,Int.toNat_natCast,etas,elDef,m55d,m74d,m55d]<;>first|omega|grind)|grind [inK,m55d,m74d,m55d]) ?_|refine OblG.mk (by ((conv=>whnf);(repeat (first|refine Bx.mk ?_|(intro h;(try simp [etas,elDef,-List.getD_eq_getElem?_getD] at h);conv=>whnf)));(first|omega|rfl|exact inK_byte _|(simp only [inK,Int.toNat_natCast,etas,elDef,m55d,m74d,m55d]<;>first|omega|grind)|grind [inK,m55d,m74d,m55d]))) ?_|refine And.intro ?_ ?_)<;>conv=>whnf)|exact True.intro|(intro;conv=>whnf)
  · exact ⟨i + 1, [], [], ⟨by omega, by grind⟩, by omega, by iterate 2 ((all_goals (conv=>whnf));(repeat' (first|exact trivial|rfl|(refine nilEq ?_;first|rfl|(simp only [*];done)|(simp [*];done)|grind)|apply And.intro|((first|apply intEq|apply boolEq|apply strEq|apply psEq|apply nilEq|apply arrEq);(try simp only [Int.toNat_natCast,etas,elDef]);first | done | omega | grind | (simp only [*]; done) | (simp [*]; done)))));(all_goals ((try simp only [Int.toNat_natCast,etas,elDef]);first | done | omega | grind | (simp only [*]; done) | (simp [*]; done))), (by exact sgOk_of (by rfl))⟩
  · exact leafV hK (by simp_all [fixR, fixV, fixL, fix1, deepE, fillD_all default l ‹l.length ≤ i›])
theorem r55_74d : ∀ k, (CtrOK Tryd.prog 55 (.gen .ow (Ck55d k)) ∧ Callable Tryd.prog 55) ∧ (CtrOK Tryd.prog 74 (.gen .ow (Ck74d k)) ∧ Callable Tryd.prog 74) := by
  intro k
  induction k with
  | zero =>
    exact ⟨⟨fun args K h => by
        unfold Ck55d Dk55d at h; split at h
        · exact absurd h.o (Nat.not_lt_zero _)
        · exact h.elim, callable Tryd.func55 rfl (by rfl)⟩, ⟨fun args K h => by
        unfold Ck74d Dk74d at h; split at h
        · exact absurd h.o (Nat.not_lt_zero _)
        · exact h.elim, callable Tryd.func74 rfl (by rfl)⟩⟩
  | succ k ih =>
    refine ⟨?_, ?_⟩
    · refine gen_okD (E := E55d k) (mkE_cons s54d (mkE_cons ih.2 (mkE_nil tab_ok))) mix (O := O55d) (D := (Dk55d (k + 1))) (own := .ow) Tryd.func55 rfl (by rfl) (by kernel_rfl) (fun args K h hbd => ?_)
      unfold Dk55d at h; split at h
      case h_2 => exact h.elim
      exact ⟨Nat.le_of_ble_eq_true rfl, a55d k ⟨_, _, _, _, _⟩ h.o (by exact hbd) _ h.k⟩
    · refine gen_okD (E := E74d k) (mkE_cons ih.1 (mkE_nil tab_ok)) mix (O := O74d) (D := (Dk74d (k + 1))) (own := .ow) Tryd.func74 rfl (by rfl) (by kernel_rfl) (fun args K h hbd => ?_)
      unfold Dk74d at h; split at h
      case h_2 => exact h.elim
      exact ⟨Nat.le_of_ble_eq_true rfl, a74d k _ h.o (by exact hbd) _ h.k⟩
theorem s55d : (CtrOK Tryd.prog 55 (.gen .ow C55d) ∧ Callable Tryd.prog 55) := by
  refine ⟨fun args K h => ?_, (r55_74d 0).1.2⟩
  unfold C55d D55d at h; split at h
  · rename_i heq; exact (r55_74d (m55d ⟨_, _, _, _, _⟩ + 1)).1.1 _ _ (by unfold Ck55d Dk55d; rw [heq]; exact ⟨Nat.lt_succ_self _, h⟩)
  · exact h.elim
end Go.Rs

