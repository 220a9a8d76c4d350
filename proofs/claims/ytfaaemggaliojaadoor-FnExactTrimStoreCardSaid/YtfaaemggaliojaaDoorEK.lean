import Derived.Test.YtfaaemggaliojaaDoorEI
import Derived.Test.YtfaaemggaliojaaDoorCI
set_option linter.all false
set_option linter.unusedSimpArgs false
set_option linter.unusedVariables false
namespace Go.Rs
open Go.Proofs
set_option maxRecDepth 100000
def itD (x : It) : List AV := .str x.name :: .int .i64 x.version :: ndD x.node
noncomputable def c77d (n : Nd) (K : AV → List AV → Prop) : Prop :=
    Obl (smN n) (K (.st (ndD n)) [])
noncomputable def m77d (n : Nd) : Nat := SizeOf.sizeOf n
noncomputable def D77d : List AV → (AV → List AV → Prop) → Prop
  | [.st [.int .i64 n_0, .int .i64 n_1, .str n_2, .ps .str n_3, .ps .node n_4]], K => c77d ⟨n_0, n_1, n_2, n_3, n_4⟩ K
  | _, _ => False
noncomputable def C77d (args : List AV) (K : AV → List AV → Prop) : Prop := D77d (fixAs args) K
noncomputable def Dk77d (k : Nat) : List AV → (AV → List AV → Prop) → Prop
  | [.st [.int .i64 n_0, .int .i64 n_1, .str n_2, .ps .str n_3, .ps .node n_4]], K => Obl (m77d ⟨n_0, n_1, n_2, n_3, n_4⟩ < k) (c77d ⟨n_0, n_1, n_2, n_3, n_4⟩ K)
  | _, _ => False
noncomputable def Ck77d (k : Nat) (args : List AV) (K : AV → List AV → Prop) : Prop := Dk77d k (fixAs args) K
noncomputable def E77d (k : Nat) : Ctx := mkE tab [(77, .gen .ow (Ck77d k))]
noncomputable def O77d : Nat → List DI := ordL [(10, [.q 0, .q 1, .q 2, .q 3, .l 4 [1], .q 5, .l 6 []])]
theorem a77d (k : Nat) (n : Nd) (hm : m77d n < k + 1) (hb : BdAs [.st (ndC n)]) (K : AV → List AV → Prop) (h : c77d n K) : abodyD (E77d k) O77d .ow Tryd.f77 (Tryd.f77.body.getD .skip) [.st (ndC n)] (fun r rs => K (fixR r) (fixAs rs)) := by
  simp only [BdAs, BdA, BdL, BdC, MX, ndC, shC, itC, stC, opC, chC, nwC, flC, rqC, rsC, enc, List.cons_append, List.nil_append, and_true, true_and] at hb
  unfold c77d at h
  unfold m77d at hm
  obtain ⟨hs, hK⟩ := h
  have hkid : ∀ j, j < n.kids.length → SizeOf.sizeOf (n.kids.getD j default) < k ∧ smN (n.kids.getD j default) := fun j hj => ⟨by have := kid_size hj; omega, hs.kid hj⟩
  have h3 := hs.kids
  have h2 := hs.names
  conv => whnf
  repeat' first|((first|refine Cnd.mk (fun h=>?_) (fun h=>?_)|refine Gd.mk (fun h=>?_))<;>(try simp [etas,elDef,-List.getD_eq_getElem?_getD] at h)<;>conv=>whnf)|((first|refine Obl.mk (by first|omega|rfl|exact inK_byte _|(simp only [inK,Int.toNat_natCast,etas,elDef,m77d,m77d]<;>first|omega|grind)|grind [inK,m77d,m77d]) ?_|refine OblG.mk (by ((conv=>whnf);(repeat (first|refine Bx.mk ?_|(intro h;(try simp [etas,elDef,-List.getD_eq_getElem?_getD] at h);conv=>whnf)));(first|omega|rfl|exact inK_byte _|(simp only [inK,Int.toNat_natCast,etas,elDef,m77d,m77d]<;>first|omega|grind)|grind [inK,m77d,m77d]))) ?_|refine And.intro ?_ ?_)<;>conv=>whnf)|exact True.intro|(intro;conv=>whnf)
  · refine aloop_intro Nat (fun k => k ≤ n.kids.length ∧ True) (fun k => n.kids.length - k) (fun k => [(39, .int .i64 k)]) (fun k => [(34, .tree .node (fillD default n.kids k))]) [1, 2, 3, 20] 0 [] [] ?_ ?_ (by exact sgOk_of (by rfl)) ?_
    · first | (simp; done) | (simp; assumption)
    · iterate 2 ((all_goals (conv=>whnf));(repeat' (first|exact trivial|rfl|(refine nilEq ?_;first|rfl|(simp only [*];done)|(simp [*];done)|grind)|apply And.intro|((first|apply intEq|apply boolEq|apply strEq|apply psEq|apply nilEq|apply arrEq);(try simp only [Int.toNat_natCast,etas,elDef]);first | done | omega | grind | (simp only [*]; done) | (simp [*]; done)))));(all_goals ((try simp only [Int.toNat_natCast,etas,elDef]);first | done | omega | grind | (simp only [*]; done) | (simp [*]; done)))
    rintro i ⟨hi, hj⟩
    conv => whnf
    have hl := fillD_len default n.kids hi
    have hset := fun h => fillD_set default n.kids (k := i) h
    repeat' first|((first|refine Cnd.mk (fun h=>?_) (fun h=>?_)|refine Gd.mk (fun h=>?_))<;>(try simp [etas,elDef,-List.getD_eq_getElem?_getD] at h)<;>conv=>whnf)|((first|refine Obl.mk (by first|omega|rfl|exact inK_byte _|(simp only [inK,Int.toNat_natCast,etas,elDef,m77d,m77d]<;>first|omega|grind)|grind [inK,m77d,m77d]) ?_|refine OblG.mk (by ((conv=>whnf);(repeat (first|refine Bx.mk ?_|(intro h;(try simp [etas,elDef,-List.getD_eq_getElem?_getD] at h);conv=>whnf)));(first|omega|rfl|exact inK_byte _|(simp only [inK,Int.toNat_natCast,etas,elDef,m77d,m77d]<;>first|omega|grind)|grind [inK,m77d,m77d]))) ?_|refine And.intro ?_ ?_)<;>conv=>whnf)|exact True.intro|(intro;conv=>whnf)
    · exact ⟨i + 1, [], [], ⟨by omega, by grind⟩, by omega, by iterate 2 ((all_goals (conv=>whnf));(repeat' (first|exact trivial|rfl|(refine nilEq ?_;first|rfl|(simp only [*];done)|(simp [*];done)|grind)|apply And.intro|((first|apply intEq|apply boolEq|apply strEq|apply psEq|apply nilEq|apply arrEq);(try simp only [Int.toNat_natCast,etas,elDef]);first | done | omega | grind | (simp only [*]; done) | (simp [*]; done)))));(all_goals ((try simp only [Int.toNat_natCast,etas,elDef]);first | done | omega | grind | (simp only [*]; done) | (simp [*]; done))), (by exact sgOk_of (by rfl))⟩
    · exact leafV hK (by simp_all [ndD, fixR, fixV, fixL, fix1, deepE, fillD_all default n.kids ‹n.kids.length ≤ i›])
  · exact leafV hK (by simp [ndD, fixR, fixV, fixL, fix1, deepE, h])
  · refine aloop_intro Nat (fun k => k ≤ n.kids.length ∧ True) (fun k => n.kids.length - k) (fun k => [(39, .int .i64 k)]) (fun k => [(34, .tree .node (fillD default n.kids k))]) [1, 2, 3] 0 [] [] ?_ ?_ (by exact sgOk_of (by rfl)) ?_
    · first | (simp; done) | (simp; assumption)
    · iterate 2 ((all_goals (conv=>whnf));(repeat' (first|exact trivial|rfl|(refine nilEq ?_;first|rfl|(simp only [*];done)|(simp [*];done)|grind)|apply And.intro|((first|apply intEq|apply boolEq|apply strEq|apply psEq|apply nilEq|apply arrEq);(try simp only [Int.toNat_natCast,etas,elDef]);first | done | omega | grind | (simp only [*]; done) | (simp [*]; done)))));(all_goals ((try simp only [Int.toNat_natCast,etas,elDef]);first | done | omega | grind | (simp only [*]; done) | (simp [*]; done)))
    rintro i ⟨hi, hj⟩
    conv => whnf
    have hl := fillD_len default n.kids hi
    have hset := fun h => fillD_set default n.kids (k := i) h
    repeat' first|((first|refine Cnd.mk (fun h=>?_) (fun h=>?_)|refine Gd.mk (fun h=>?_))<;>(try simp [etas,elDef,-List.getD_eq_getElem?_getD] at h)<;>conv=>whnf)|((first|refine Obl.mk (by first|omega|rfl|exact inK_byte _|(simp only [inK,Int.toNat_natCast,etas,elDef,m77d,m77d]<;>first|omega|grind)|grind [inK,m77d,m77d]) ?_|refine OblG.mk (by ((conv=>whnf);(repeat (first|refine Bx.mk ?_|(intro h;(try simp [etas,elDef,-List.getD_eq_getElem?_getD] at h);conv=>whnf)));(first|omega|rfl|exact inK_byte _|(simp only [inK,Int.toNat_natCast,etas,elDef,m77d,m77d]<;>first|omega|grind)|grind [inK,m77d,m77d]))) ?_|refine And.intro ?_ ?_)<;>conv=>whnf)|exact True.intro|(intro;conv=>whnf)
    · exact ⟨i + 1, [], [], ⟨by omega, by grind⟩, by omega, by iterate 2 ((all_goals (conv=>whnf));(repeat' (first|exact trivial|rfl|(refine nilEq ?_;first|rfl|(simp only [*];done)|(simp [*];done)|grind)|apply And.intro|((first|apply intEq|apply boolEq|apply strEq|apply psEq|apply nilEq|apply arrEq);(try simp only [Int.toNat_natCast,etas,elDef]);first | done | omega | grind | (simp only [*]; done) | (simp [*]; done)))));(all_goals ((try simp only [Int.toNat_natCast,etas,elDef]);first | done | omega | grind | (simp only [*]; done) | (simp [*]; done))), (by exact sgOk_of (by rfl))⟩
    · exact leafV hK (by simp_all [ndD, fixR, fixV, fixL, fix1, deepE, fillD_all default n.kids ‹n.kids.length ≤ i›])
  · exact leafV hK (by simp_all [ndD, fixR, fixV, fixL, fix1, deepE])
theorem r77d : ∀ k, (CtrOK Tryd.prog 77 (.gen .ow (Ck77d k)) ∧ Callable Tryd.prog 77) := by
  intro k
  induction k with
  | zero =>
    exact ⟨fun args K h => by
        unfold Ck77d Dk77d at h; split at h
        · exact absurd h.o (Nat.not_lt_zero _)
        · exact h.elim, callable Tryd.func77 rfl (by rfl)⟩
  | succ k ih =>
    refine gen_okD (E := E77d k) (mkE_cons ih (mkE_nil tab_ok)) mix (O := O77d) (D := (Dk77d (k + 1))) (own := .ow) Tryd.func77 rfl (by rfl) (by kernel_rfl) (fun args K h hbd => ?_)
    unfold Dk77d at h; split at h
    case h_2 => exact h.elim
    exact ⟨Nat.le_of_ble_eq_true rfl, a77d k ⟨_, _, _, _, _⟩ h.o (by exact hbd) _ h.k⟩
theorem s77d : (CtrOK Tryd.prog 77 (.gen .ow C77d) ∧ Callable Tryd.prog 77) := by
  refine ⟨fun args K h => ?_, (r77d 0).2⟩
  unfold C77d D77d at h; split at h
  · rename_i heq; exact (r77d (m77d ⟨_, _, _, _, _⟩ + 1)).1 _ _ (by unfold Ck77d Dk77d; rw [heq]; exact ⟨Nat.lt_succ_self _, h⟩)
  · exact h.elim
noncomputable def c58d (x : It) (K : AV → List AV → Prop) : Prop :=
    Obl (smN x.node) (K (.st (itD x)) [])
noncomputable def D58d : List AV → (AV → List AV → Prop) → Prop
  | [.st [.str x_0, .int .i64 x_1, .int .i64 x_2_0, .int .i64 x_2_1, .str x_2_2, .ps .str x_2_3, .ps .node x_2_4]], K => c58d ⟨x_0, x_1, ⟨x_2_0, x_2_1, x_2_2, x_2_3, x_2_4⟩⟩ K
  | _, _ => False
noncomputable def C58d (args : List AV) (K : AV → List AV → Prop) : Prop := D58d (fixAs args) K
noncomputable def E58d : Ctx := mkE tab [(77, .gen .ow C77d)]
noncomputable def O58d : Nat → List DI := ordL [(1, [.q 0, .q 1, .q 2, .q 3, .q 4, .q 5, .l 6 [1, 3], .q 7, .l 8 []])]
theorem a58d (x : It) (hb : BdAs [.st (itC x)]) (K : AV → List AV → Prop) (h : c58d x K) : abodyD E58d O58d .ow Tryd.f58 (Tryd.f58.body.getD .skip) [.st (itC x)] (fun r rs => K (fixR r) (fixAs rs)) := by
  simp only [BdAs, BdA, BdL, BdC, MX, ndC, shC, itC, stC, opC, chC, nwC, flC, rqC, rsC, enc, List.cons_append, List.nil_append, and_true, true_and] at hb
  unfold c58d at h
  obtain ⟨hs, hK⟩ := h
  conv => whnf
  repeat' first|((first|refine Cnd.mk (fun h=>?_) (fun h=>?_)|refine Gd.mk (fun h=>?_))<;>(try simp [etas,elDef,-List.getD_eq_getElem?_getD] at h)<;>conv=>whnf)|((first|refine Obl.mk (by first|omega|rfl|exact inK_byte _|(simp only [inK,Int.toNat_natCast,etas,elDef,m77d]<;>first|omega|grind)|grind [inK,m77d]) ?_|refine OblG.mk (by ((conv=>whnf);(repeat (first|refine Bx.mk ?_|(intro h;(try simp [etas,elDef,-List.getD_eq_getElem?_getD] at h);conv=>whnf)));(first|omega|rfl|exact inK_byte _|(simp only [inK,Int.toNat_natCast,etas,elDef,m77d]<;>first|omega|grind)|grind [inK,m77d]))) ?_|refine And.intro ?_ ?_)<;>conv=>whnf)|exact True.intro|(intro;conv=>whnf)
  all_goals exact leafV hK rfl
theorem s58d : (CtrOK Tryd.prog 58 (.gen .ow C58d) ∧ Callable Tryd.prog 58) := by
  refine gen_okD (E := E58d) (mkE_cons s77d (mkE_nil tab_ok)) mix (O := O58d) (D := D58d) (own := .ow) Tryd.func58 rfl (by rfl) (by kernel_rfl) (fun args K h hbd => ?_)
  unfold D58d at h; split at h
  case h_2 => exact h.elim
  exact ⟨Nat.le_of_ble_eq_true rfl, a58d ⟨_, _, ⟨_, _, _, _, _⟩⟩ (by exact hbd) _ h⟩
noncomputable def c39d (s : Sto) (K : AV → List AV → Prop) : Prop :=
    Obl (smS s) (K (.st [.dp .item s.items, .int .i64 s.clock]) [])
noncomputable def D39d : List AV → (AV → List AV → Prop) → Prop
  | [.st [.ps .item s_0, .int .i64 s_1]], K => c39d ⟨s_0, s_1⟩ K
  | _, _ => False
noncomputable def C39d (args : List AV) (K : AV → List AV → Prop) : Prop := D39d (fixAs args) K
noncomputable def E39d : Ctx := mkE tab [(58, .gen .ow C58d)]
noncomputable def O39d : Nat → List DI := ordL [(7, [.q 0, .q 1, .q 2, .q 3, .l 4 [1], .q 5, .l 6 []])]
theorem a39d (s : Sto) (hb : BdAs [.st (stC s)]) (K : AV → List AV → Prop) (h : c39d s K) : abodyD E39d O39d .ow Tryd.f39 (Tryd.f39.body.getD .skip) [.st (stC s)] (fun r rs => K (fixR r) (fixAs rs)) := by
  simp only [BdAs, BdA, BdL, BdC, MX, ndC, shC, itC, stC, opC, chC, nwC, flC, rqC, rsC, enc, List.cons_append, List.nil_append, and_true, true_and] at hb
  unfold c39d at h
  obtain ⟨hs, hK⟩ := h
  have hit : ∀ j, j < s.items.length → smN (s.items.getD j default).node := fun j hj => hs.item hj
  have h3 := hs.1
  conv => whnf
  repeat' first|((first|refine Cnd.mk (fun h=>?_) (fun h=>?_)|refine Gd.mk (fun h=>?_))<;>(try simp [etas,elDef,-List.getD_eq_getElem?_getD] at h)<;>conv=>whnf)|((first|refine Obl.mk (by first|omega|rfl|exact inK_byte _|(simp only [inK,Int.toNat_natCast,etas,elDef]<;>first|omega|grind)|grind [inK]) ?_|refine OblG.mk (by ((conv=>whnf);(repeat (first|refine Bx.mk ?_|(intro h;(try simp [etas,elDef,-List.getD_eq_getElem?_getD] at h);conv=>whnf)));(first|omega|rfl|exact inK_byte _|(simp only [inK,Int.toNat_natCast,etas,elDef]<;>first|omega|grind)|grind [inK]))) ?_|refine And.intro ?_ ?_)<;>conv=>whnf)|exact True.intro|(intro;conv=>whnf)
  · refine aloop_intro Nat (fun k => k ≤ s.items.length ∧ True) (fun k => s.items.length - k) (fun k => [(21, .int .i64 k)]) (fun k => [(16, .tree .item (fillD default s.items k))]) [1, 2, 3] 0 [] [] ?_ ?_ (by exact sgOk_of (by rfl)) ?_
    · first | (simp; done) | (simp; assumption)
    · iterate 2 ((all_goals (conv=>whnf));(repeat' (first|exact trivial|rfl|(refine nilEq ?_;first|rfl|(simp only [*];done)|(simp [*];done)|grind)|apply And.intro|((first|apply intEq|apply boolEq|apply strEq|apply psEq|apply nilEq|apply arrEq);(try simp only [Int.toNat_natCast,etas,elDef]);first | done | omega | grind | (simp only [*]; done) | (simp [*]; done)))));(all_goals ((try simp only [Int.toNat_natCast,etas,elDef]);first | done | omega | grind | (simp only [*]; done) | (simp [*]; done)))
    rintro i ⟨hi, hj⟩
    conv => whnf
    have hl := fillD_len default s.items hi
    have hset := fun h => fillD_set default s.items (k := i) h
    repeat' first|((first|refine Cnd.mk (fun h=>?_) (fun h=>?_)|refine Gd.mk (fun h=>?_))<;>(try simp [etas,elDef,-List.getD_eq_getElem?_getD] at h)<;>conv=>whnf)|((first|refine Obl.mk (by first|omega|rfl|exact inK_byte _|(simp only [inK,Int.toNat_natCast,etas,elDef]<;>first|omega|grind)|grind [inK]) ?_|refine OblG.mk (by ((conv=>whnf);(repeat (first|refine Bx.mk ?_|(intro h;(try simp [etas,elDef,-List.getD_eq_getElem?_getD] at h);conv=>whnf)));(first|omega|rfl|exact inK_byte _|(simp only [inK,Int.toNat_natCast,etas,elDef]<;>first|omega|grind)|grind [inK]))) ?_|refine And.intro ?_ ?_)<;>conv=>whnf)|exact True.intro|(intro;conv=>whnf)
    · exact ⟨i + 1, [], [], ⟨by omega, by grind⟩, by omega, by iterate 2 ((all_goals (conv=>whnf));(repeat' (first|exact trivial|rfl|(refine nilEq ?_;first|rfl|(simp only [*];done)|(simp [*];done)|grind)|apply And.intro|((first|apply intEq|apply boolEq|apply strEq|apply psEq|apply nilEq|apply arrEq);(try simp only [Int.toNat_natCast,etas,elDef]);first | done | omega | grind | (simp only [*]; done) | (simp [*]; done)))));(all_goals ((try simp only [Int.toNat_natCast,etas,elDef]);first | done | omega | grind | (simp only [*]; done) | (simp [*]; done))), (by exact sgOk_of (by rfl))⟩
    · exact leafV hK (by simp_all [fixR, fixV, fixL, fix1, deepE, fillD_all default s.items ‹s.items.length ≤ i›])
  · exact leafV hK (by simp_all [fixR, fixV, fixL, fix1, deepE])
theorem s39d : (CtrOK Tryd.prog 39 (.gen .ow C39d) ∧ Callable Tryd.prog 39) := by
  refine gen_okD (E := E39d) (mkE_cons s58d (mkE_nil tab_ok)) mix (O := O39d) (D := D39d) (own := .ow) Tryd.func39 rfl (by rfl) (by kernel_rfl) (fun args K h hbd => ?_)
  unfold D39d at h; split at h
  case h_2 => exact h.elim
  exact ⟨Nat.le_of_ble_eq_true rfl, a39d ⟨_, _⟩ (by exact hbd) _ h⟩
end Go.Rs

