import Derived.Test.YtfaaemggaliojaaDoorCS
import Derived.Test.YtfaaemggaliojaaDoorEB
import Derived.Test.YtfaaemggaliojaaDoorCI
import Derived.Test.YtfaaemggaliojaaDoorMF
set_option linter.all false
section
set_option linter.unusedSimpArgs false
set_option linter.unusedVariables false
namespace Go.Rs
open Go.Proofs
set_option maxRecDepth 100000
end Go.Rs
end
section
set_option linter.unusedSimpArgs false
set_option linter.unusedVariables false
namespace Go.Rs
open Go.Proofs
set_option maxRecDepth 100000
noncomputable def v41 (l : List It) : AV := .int .i64 (oldI l)
noncomputable def o41 (l : List It) : Prop := 0 < l.length ∧ l.length ≤ 1000000
noncomputable def F41 : List AV → QR
  | [.ps .item l] => some (some (o41 l), v41 l)
  | _ => none
noncomputable def E41 : Ctx := mkE tab []
noncomputable def O41 : Nat → List DI := ordL [(5, [.q 0, .q 1, .q 2, .q 3, .q 4, .q 5, .q 6, .q 7])]
theorem a41 (l : List It) (hb : BdAs [.ps .item l]) (ho : o41 l) (K : AV → List AV → Prop) (hK : K (v41 l) []) : abody E41 O41 .ps Tryd.f41 (Tryd.f41.body.getD .skip) [.ps .item l] K := by
  simp only [BdAs, BdA, BdL, BdC, MX, ndC, shC, itC, stC, opC, chC, nwC, flC, rqC, rsC, enc, List.cons_append, List.nil_append, and_true, true_and] at hb
  unfold o41 at ho
  unfold v41 at hK
  conv => whnf
  repeat' first|((first|refine Cnd.mk (fun h=>?_) (fun h=>?_)|refine Gd.mk (fun h=>?_))<;>(try simp [etas,elDef,-List.getD_eq_getElem?_getD] at h)<;>conv=>whnf)|((first|refine Obl.mk (by first|omega|rfl|exact inK_byte _|(simp only [inK,Int.toNat_natCast,etas,elDef]<;>first|omega|grind)|grind [inK]) ?_|refine OblG.mk (by ((conv=>whnf);(repeat (first|refine Bx.mk ?_|(intro h;(try simp [etas,elDef,-List.getD_eq_getElem?_getD] at h);conv=>whnf)));(first|omega|rfl|exact inK_byte _|(simp only [inK,Int.toNat_natCast,etas,elDef]<;>first|omega|grind)|grind [inK]))) ?_|refine And.intro ?_ ?_)<;>conv=>whnf)|exact True.intro|(intro;conv=>whnf)
  refine aloop_intro Nat (fun k => k ≤ l.length ∧ True) (fun k => l.length - k) (fun k => [(8, .int .i64 k), (3, .int .i64 (oldK l k))]) (fun k => []) [] 0 [] [] ?_ ?_ (by exact sgOk_of (by rfl)) ?_
  · first | (simp; done) | (simp; assumption)
  · iterate 2 ((all_goals (conv=>whnf));(repeat' (first|exact trivial|rfl|(refine nilEq ?_;first|rfl|(simp only [*];done)|(simp [*];done)|grind)|apply And.intro|((first|apply intEq|apply boolEq|apply strEq|apply psEq|apply nilEq|apply arrEq);(try simp only [Int.toNat_natCast,etas,elDef]);first | done | omega | grind | (simp only [*]; done) | (simp [*]; done)))));(all_goals ((try simp only [Int.toNat_natCast,etas,elDef]);first | done | omega | grind | (simp only [*]; done) | (simp [*]; done)))
  rintro i ⟨hi, hj⟩
  conv => whnf
  have h1 := fun h => oldK_lt (k := i) (l := l) ho.1 h
  have h2 := oldK_succ l i
  repeat' first|((first|refine Cnd.mk (fun h=>?_) (fun h=>?_)|refine Gd.mk (fun h=>?_))<;>(try simp [etas,elDef,-List.getD_eq_getElem?_getD] at h)<;>conv=>whnf)|((first|refine Obl.mk (by first|omega|rfl|exact inK_byte _|(simp only [inK,Int.toNat_natCast,etas,elDef]<;>first|omega|grind)|grind [inK]) ?_|refine OblG.mk (by ((conv=>whnf);(repeat (first|refine Bx.mk ?_|(intro h;(try simp [etas,elDef,-List.getD_eq_getElem?_getD] at h);conv=>whnf)));(first|omega|rfl|exact inK_byte _|(simp only [inK,Int.toNat_natCast,etas,elDef]<;>first|omega|grind)|grind [inK]))) ?_|refine And.intro ?_ ?_)<;>conv=>whnf)|exact True.intro|(intro;conv=>whnf)
  · have e : oldK l (i + 1) = i := by rw [h2]; unfold oldS; rw [if_pos (of_decide_eq_true h)]
    exact ⟨i + 1, [], [], ⟨by omega, by grind⟩, by omega, by iterate 2 ((all_goals (conv=>whnf));(repeat' (first|exact trivial|rfl|(refine nilEq ?_;first|rfl|(simp only [*];done)|(simp [*];done)|grind)|apply And.intro|((first|apply intEq|apply boolEq|apply strEq|apply psEq|apply nilEq|apply arrEq);(try simp only [Int.toNat_natCast,etas,elDef]);first | done | omega))));(all_goals ((try simp only [Int.toNat_natCast,etas,elDef]);first | done | omega)), (by exact sgOk_of (by rfl))⟩
  · have e : oldK l (i + 1) = oldK l i := by rw [h2]; unfold oldS; rw [if_neg (of_decide_eq_false h)]
    exact ⟨i + 1, [], [], ⟨by omega, by grind⟩, by omega, by iterate 2 ((all_goals (conv=>whnf));(repeat' (first|exact trivial|rfl|(refine nilEq ?_;first|rfl|(simp only [*];done)|(simp [*];done)|grind)|apply And.intro|((first|apply intEq|apply boolEq|apply strEq|apply psEq|apply nilEq|apply arrEq);(try simp only [Int.toNat_natCast,etas,elDef]);first | done | omega))));(all_goals ((try simp only [Int.toNat_natCast,etas,elDef]);first | done | omega)), (by exact sgOk_of (by rfl))⟩
  · exact leafI hK (by unfold oldI; rw [show i = l.length by omega])
theorem s41 : (CtrOK Tryd.prog 41 (.pure F41) ∧ Callable Tryd.prog 41) := by
  refine pure_ok (E := E41) (mkE_nil tab_ok) mix (O := O41) (F := F41) Tryd.func41 rfl (by rfl) (by kernel_rfl) (fun args o v h => ?_) (fun args o v h => ?_) (fun args o v h hbd hp K hK => ?_)
  · unfold F41 at h; split at h <;> cases h; first | trivial | (simp [v41, Scalar, Scalar2, Scalar1, stC, ndC, itC, chC, nwC])
  · unfold F41 at h; split at h <;> cases h; exact Nat.le_of_ble_eq_true rfl
  · unfold F41 at h; split at h
    case h_2 => cases h
    cases h
    exact a41 _ (by exact hbd) (hp _ rfl) K hK
noncomputable def v36 (s : Sto) : AV := .int .i64 (oldI s.items)
noncomputable def o36 (s : Sto) : Prop := 0 < s.items.length ∧ s.items.length ≤ 1000000
noncomputable def F36 : List AV → QR
  | [.st [.ps .item s_0, .int .i64 s_1]] => some (some (o36 ⟨s_0, s_1⟩), v36 ⟨s_0, s_1⟩)
  | _ => none
noncomputable def E36 : Ctx := mkE tab []
noncomputable def O36 : Nat → List DI := ordL [(5, [.q 0, .q 1, .q 2, .q 3, .q 4, .q 5, .q 6, .q 7, .q 8, .q 9, .q 10, .q 11, .q 12])]
theorem a36 (s : Sto) (hb : BdAs [.st (stC s)]) (ho : o36 s) (K : AV → List AV → Prop) (hK : K (v36 s) []) : abody E36 O36 .ps Tryd.f36 (Tryd.f36.body.getD .skip) [.st (stC s)] K := by
  simp only [BdAs, BdA, BdL, BdC, MX, ndC, shC, itC, stC, opC, chC, nwC, flC, rqC, rsC, enc, List.cons_append, List.nil_append, and_true, true_and] at hb
  unfold o36 at ho
  unfold v36 at hK
  have h0 := oldK_one s.items
  conv => whnf
  repeat' first|((first|refine Cnd.mk (fun h=>?_) (fun h=>?_)|refine Gd.mk (fun h=>?_))<;>(try simp [etas,elDef,-List.getD_eq_getElem?_getD] at h)<;>conv=>whnf)|((first|refine Obl.mk (by first|omega|rfl|exact inK_byte _|(simp only [inK,Int.toNat_natCast,etas,elDef]<;>first|omega|grind)|grind [inK]) ?_|refine OblG.mk (by ((conv=>whnf);(repeat (first|refine Bx.mk ?_|(intro h;(try simp [etas,elDef,-List.getD_eq_getElem?_getD] at h);conv=>whnf)));(first|omega|rfl|exact inK_byte _|(simp only [inK,Int.toNat_natCast,etas,elDef]<;>first|omega|grind)|grind [inK]))) ?_|refine And.intro ?_ ?_)<;>conv=>whnf)|exact True.intro|(intro;conv=>whnf)
  refine aloop_intro Nat (fun k => 1 ≤ k ∧ k ≤ s.items.length) (fun k => s.items.length - k) (fun k => [(4, .int .i64 k), (3, .int .i64 (oldK s.items k))]) (fun _ => []) [1] 1 [] [] ⟨by omega, by omega⟩ ?_ (by exact sgOk_of (by rfl)) ?_
  · iterate 2 ((all_goals (conv=>whnf));(repeat' (first|exact trivial|rfl|(refine nilEq ?_;first|rfl|(simp only [*];done)|(simp [*];done)|grind)|apply And.intro|((first|apply intEq|apply boolEq|apply strEq|apply psEq|apply nilEq|apply arrEq);(try simp only [Int.toNat_natCast,etas,elDef]);first | done | omega | grind | (simp only [*]; done) | (simp [*]; done)))));(all_goals ((try simp only [Int.toNat_natCast,etas,elDef]);first | done | omega | grind | (simp only [*]; done) | (simp [*]; done)))
  rintro k ⟨hk1, hk2⟩
  conv => whnf
  have h1 := fun h => oldK_lt (k := k) (l := s.items) ho.1 h
  have h2 := oldK_succ s.items k
  repeat' first|((first|refine Cnd.mk (fun h=>?_) (fun h=>?_)|refine Gd.mk (fun h=>?_))<;>(try simp [etas,elDef,-List.getD_eq_getElem?_getD] at h)<;>conv=>whnf)|((first|refine Obl.mk (by first|omega|rfl|exact inK_byte _|(simp only [inK,Int.toNat_natCast,etas,elDef]<;>first|omega|grind)|grind [inK]) ?_|refine OblG.mk (by ((conv=>whnf);(repeat (first|refine Bx.mk ?_|(intro h;(try simp [etas,elDef,-List.getD_eq_getElem?_getD] at h);conv=>whnf)));(first|omega|rfl|exact inK_byte _|(simp only [inK,Int.toNat_natCast,etas,elDef]<;>first|omega|grind)|grind [inK]))) ?_|refine And.intro ?_ ?_)<;>conv=>whnf)|exact True.intro|(intro;conv=>whnf)
  · have e : oldK s.items (k + 1) = k := by rw [h2]; unfold oldS; rw [if_pos (of_decide_eq_true h)]
    exact ⟨k + 1, [], [], ⟨by omega, by omega⟩, by omega, by iterate 2 ((all_goals (conv=>whnf));(repeat' (first|exact trivial|rfl|(refine nilEq ?_;first|rfl|(simp only [*];done)|(simp [*];done)|grind)|apply And.intro|((first|apply intEq|apply boolEq|apply strEq|apply psEq|apply nilEq|apply arrEq);(try simp only [Int.toNat_natCast,etas,elDef]);first | done | omega))));(all_goals ((try simp only [Int.toNat_natCast,etas,elDef]);first | done | omega)), (by exact sgOk_of (by rfl))⟩
  · have e : oldK s.items (k + 1) = oldK s.items k := by rw [h2]; unfold oldS; rw [if_neg (of_decide_eq_false h)]
    exact ⟨k + 1, [], [], ⟨by omega, by omega⟩, by omega, by iterate 2 ((all_goals (conv=>whnf));(repeat' (first|exact trivial|rfl|(refine nilEq ?_;first|rfl|(simp only [*];done)|(simp [*];done)|grind)|apply And.intro|((first|apply intEq|apply boolEq|apply strEq|apply psEq|apply nilEq|apply arrEq);(try simp only [Int.toNat_natCast,etas,elDef]);first | done | omega))));(all_goals ((try simp only [Int.toNat_natCast,etas,elDef]);first | done | omega)), (by exact sgOk_of (by rfl))⟩
  · exact leafI hK (by unfold oldI; rw [show k = s.items.length by omega])
theorem s36 : (CtrOK Tryd.prog 36 (.pure F36) ∧ Callable Tryd.prog 36) := by
  refine pure_ok (E := E36) (mkE_nil tab_ok) mix (O := O36) (F := F36) Tryd.func36 rfl (by rfl) (by kernel_rfl) (fun args o v h => ?_) (fun args o v h => ?_) (fun args o v h hbd hp K hK => ?_)
  · unfold F36 at h; split at h <;> cases h; first | trivial | (simp [v36, Scalar, Scalar2, Scalar1, stC, ndC, itC, chC, nwC])
  · unfold F36 at h; split at h <;> cases h; exact Nat.le_of_ble_eq_true rfl
  · unfold F36 at h; split at h
    case h_2 => cases h
    cases h
    exact a36 ⟨_, _⟩ (by exact hbd) (hp _ rfl) K hK
theorem trim_room {l : List It} {c m : Int} (hs : storeM ⟨l, c⟩ = true) (h0 : 0 ≤ m) : l.length ≤ 10 ∧ sizeM l ≤ 26000 ∧ (m < sizeM l → oldI l < l.length ∧ validM (l.getD (oldI l) default).node = true ∧ (l.getD (oldI l) default).name.length ≤ 8 ∧ itSz (l.getD (oldI l) default) ≤ 2600 ∧
    sizeM (l.eraseIdx (oldI l)) + itSz (l.getD (oldI l) default) = sizeM l ∧ (l.eraseIdx (oldI l)).length + 1 = l.length ∧ dropL l (l.getD (oldI l) default).name = l.eraseIdx (oldI l)) := by
  refine ⟨(storeM_iff.1 hs).1, size_bound hs, fun h => ?_⟩
  have hl := size_pos h0 h
  have hi := oldI_lt hl
  exact ⟨hi, storeM_node hs hi, store_name hs hi, itSz_le hs (getD_mem (d := default) hi), size_erase hi, by have := List.length_eraseIdx_of_lt hi; omega, drop_erase hs hi⟩
noncomputable def c19 (s : Sto) (m : Int) (K : AV → List AV → Prop) : Prop :=
    K (.tup [.st (stC (trimS s m).1), .ps .str (trimS s m).2]) []
noncomputable def c18 (s : Sto) (m : Int) (K : AV → List AV → Prop) : Prop :=
    K (.tup [.st (stC (trimS s m).1), .ps .str (trimS s m).2]) []
noncomputable def C18 : List AV → (AV → List AV → Prop) → Prop
  | [.st [.ps .item s_0, .int .i64 s_1], .int .i64 m], K => c18 ⟨s_0, s_1⟩ m K
  | _, _ => False
noncomputable def E18 : Ctx := mkE tab [(23, .pure F23), (34, .gen .ln C34), (35, .pure F35), (36, .pure F36), (37, .gen .ln C37)]
noncomputable def O18 : Nat → List DI := ordL [(6, [.q 0, .q 1, .q 2, .q 3, .q 4, .q 5, .q 6, .q 7]), (8, [.q 0, .q 1, .q 4, .q 5, .l 2 [5], .q 3, .q 6, .l 7 []])]
theorem a18 (s : Sto) (m : Int) (hb : BdAs [.st (stC s), .int .i64 m]) (K : AV → List AV → Prop) (h : c18 s m K) : abody E18 O18 .ps Tryd.f18 (Tryd.f18.body.getD .skip) [.st (stC s), .int .i64 m] K := by
  simp only [BdAs, BdA, BdL, BdC, MX, ndC, shC, itC, stC, opC, chC, nwC, flC, rqC, rsC, enc, List.cons_append, List.nil_append, and_true, true_and] at hb
  unfold c18 at h
  have hK9 := h
  have hsm := fun (h : storeM s = true) => storeM_sm h
  conv => whnf
  repeat' first|((first|refine Cnd.mk (fun h=>?_) (fun h=>?_)|refine Gd.mk (fun h=>?_))<;>(try simp [etas,elDef,-List.getD_eq_getElem?_getD] at h)<;>conv=>whnf)|((first|refine Obl.mk (by first|omega|rfl|exact inK_byte _|(simp only [inK,Int.toNat_natCast,etas,elDef,o35,o36]<;>first|omega|grind)|grind [inK,o35,o36]) ?_|refine OblG.mk (by ((conv=>whnf);(repeat (first|refine Bx.mk ?_|(intro h;(try simp [etas,elDef,-List.getD_eq_getElem?_getD] at h);conv=>whnf)));(first|omega|rfl|exact inK_byte _|(simp only [inK,Int.toNat_natCast,etas,elDef,o35,o36]<;>first|omega|grind)|grind [inK,o35,o36]))) ?_|refine And.intro ?_ ?_)<;>conv=>whnf)|exact True.intro|(intro;conv=>whnf)
  · exact leafV hK9 (by unfold trimS; rw [if_neg (by rcases h with h | h <;> simp [h])]; rfl)
  obtain ⟨hs, hm⟩ := h
  have hT : trimS s m = (⟨(trimF m s.items).1, s.clock⟩, (trimF m s.items).2) := by unfold trimS; rw [if_pos ⟨hs, hm⟩]
  rw [hT] at hK9
  have h10 := (storeM_iff.1 hs).1
  have hck := (storeM_iff.1 hs).2.1
  refine aloop_intro (List It × List Bs) (fun q => storeM ⟨q.1, s.clock⟩ = true ∧ q.2.length + q.1.length = s.items.length ∧ trimF m s.items = ((trimF m q.1).1, q.2 ++ (trimF m q.1).2)) (fun q => q.1.length) (fun q => [(6, .ls 900)]) (fun q => [(7, .box [.ps .item q.1, .int .i64 s.clock]), (900, .arr .str q.2)]) [2, 4] (s.items, []) [(900, 9)] [] ?_ ?_ (by exact sgOk_of (by rfl)) ?_
  · exact ⟨hs, by simp, by simp⟩
  · iterate 2 ((all_goals (conv=>whnf));(repeat' (first|exact trivial|rfl|(refine nilEq ?_;first|rfl|(simp only [*];done)|(simp [*];done)|grind)|apply And.intro|((first|apply intEq|apply boolEq|apply strEq|apply psEq|apply nilEq|apply arrEq);(try simp only [Int.toNat_natCast,etas,elDef]);first | done | omega | grind | (simp only [*]; done) | (simp [*]; done)))));(all_goals ((try simp only [Int.toNat_natCast,etas,elDef]);first | done | omega | grind | (simp only [*]; done) | (simp [*]; done)))
  rintro ⟨l, g⟩ ⟨hi1, hi2, hi3⟩
  dsimp only at hi1 hi2 hi3
  obtain ⟨r1, r2, r3⟩ := trim_room hi1 hm
  have hst := fun (h : m < sizeM l) => trimF_step h (size_pos hm h)
  have hsp := fun (h : (sizeM l : Int) ≤ m) => trimF_stop h
  have hsl := storeM_sm hi1
  conv => whnf
  repeat' first|((first|refine Cnd.mk (fun h=>?_) (fun h=>?_)|refine Gd.mk (fun h=>?_))<;>(try simp [etas,elDef,-List.getD_eq_getElem?_getD] at h)<;>conv=>whnf)|((first|refine Obl.mk (by first|omega|rfl|exact inK_byte _|(simp only [inK,Int.toNat_natCast,etas,elDef,o35,o36]<;>first|omega|grind)|grind [inK,o35,o36]) ?_|refine OblG.mk (by ((conv=>whnf);(repeat (first|refine Bx.mk ?_|(intro h;(try simp [etas,elDef,-List.getD_eq_getElem?_getD] at h);conv=>whnf)));(first|omega|rfl|exact inK_byte _|(simp only [inK,Int.toNat_natCast,etas,elDef,o35,o36]<;>first|omega|grind)|grind [inK,o35,o36]))) ?_|refine And.intro ?_ ?_)<;>conv=>whnf)|exact True.intro|(intro;conv=>whnf)
  · obtain ⟨q1, q2, q3, q4, q5, q6, q7⟩ := r3 h
    exact ⟨(l.eraseIdx (oldI l), g ++ [(l.getD (oldI l) default).name]), [(900, 34)], [38000], ⟨erase_store hi1 _, by simp; omega, by rw [hi3, hst h]; simp⟩, by simp only; omega, by iterate 2 ((all_goals (conv=>whnf));(repeat' (first|exact trivial|rfl|(refine nilEq ?_;first|rfl|(simp only [*];done)|(simp [*];done)|grind)|apply And.intro|((first|apply intEq|apply boolEq|apply strEq|apply psEq|apply nilEq|apply arrEq);(try simp only [Int.toNat_natCast,etas,elDef]);first | done | omega | exact q7 | simp))));(all_goals ((try simp only [Int.toNat_natCast,etas,elDef]);first | done | omega | exact q7 | simp)), (by exact sgOk_of (by rfl))⟩
  · exact leafV hK9 (by rw [hi3, hsp h]; simp; rfl)
theorem s18 : (CtrOK Tryd.prog 18 (.gen .ps C18) ∧ Callable Tryd.prog 18) := by
  refine gen_ok (E := E18) (mkE_cons s23 (mkE_cons s34 (mkE_cons s35 (mkE_cons s36 (mkE_cons s37 (mkE_nil tab_ok)))))) mix (O := O18) (C := C18) (own := .ps) Tryd.func18 rfl (by rfl) (by kernel_rfl) (fun args K h hbd => ?_)
  unfold C18 at h; split at h
  case h_2 => exact h.elim
  exact ⟨Nat.le_of_ble_eq_true rfl, a18 ⟨_, _⟩ _ (by exact hbd) _ h⟩
end Go.Rs
end
