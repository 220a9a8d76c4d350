import Derived.Test.YtmliigdhlnanlaaDoorEM
set_option linter.all false
set_option linter.unusedSimpArgs false
set_option linter.unusedVariables false
namespace Go.Rs
open Go.Proofs Go.RowKit
set_option maxRecDepth 100000
noncomputable def v47 (l : List Bs) (m : Int) : AV := .int .i64 (heS l m)
noncomputable def o47 (l : List Bs) (m : Int) : Prop := 0 ≤ m ∧ m + l.length ≤ 4611686018427387904
noncomputable def F47 : List AV → QR
  | [.ps .str l, .int .i64 m] => some (some (o47 l m), v47 l m)
  | _ => none
noncomputable def E47 : Ctx := mkE tab [(73, .pure F73)]
noncomputable def O47 : Nat → List DI := ordL [(4, [.q 0, .q 1, .q 2, .q 3, .q 4, .q 5, .q 6])]
theorem a47 (l : List Bs) (m : Int) (hb : BdAs [.ps .str l, .int .i64 m]) (ho : o47 l m) (K : AV → List AV → Prop) (hK : K (v47 l m) []) : abody E47 O47 .ps Tryd.f47 (Tryd.f47.body.getD .skip) [.ps .str l, .int .i64 m] K := by
  simp only [BdAs, BdA, BdL, BdC, MX, ndC, shC, itC, stC, opC, chC, nwC, flC, rqC, rsC, enc, List.cons_append, List.nil_append, and_true, true_and] at hb
  unfold o47 at ho
  unfold v47 at hK
  conv => whnf
  repeat' first|((first|refine Cnd.mk (fun h=>?_) (fun h=>?_)|refine Gd.mk (fun h=>?_))<;>(try simp [etas,elDef,-List.getD_eq_getElem?_getD] at h)<;>conv=>whnf)|((first|refine Obl.mk (by first|omega|rfl|exact inK_byte _|(simp only [inK,Int.toNat_natCast,etas,elDef,o73]<;>first|omega|grind)|grind [inK,o73]) ?_|refine OblG.mk (by ((conv=>whnf);(repeat (first|refine Bx.mk ?_|(intro h;(try simp [etas,elDef,-List.getD_eq_getElem?_getD] at h);conv=>whnf)));(first|omega|rfl|exact inK_byte _|(simp only [inK,Int.toNat_natCast,etas,elDef,o73]<;>first|omega|grind)|grind [inK,o73]))) ?_|refine And.intro ?_ ?_)<;>conv=>whnf)|exact True.intro|(intro;conv=>whnf)
  refine aloop_intro (Nat × Int) (fun ⟨i, q⟩ => i ≤ l.length ∧ q = m + i ∧ heS (l.drop i) q = heS l m) (fun ⟨i, q⟩ => l.length - i) (fun ⟨i, q⟩ => [(5, .int .i64 i), (1, .int .i64 q)]) (fun ⟨i, q⟩ => []) [] (0, m) [] [] ?_ ?_ (by exact sgOk_of (by rfl)) ?_
  · first | (simp; done) | (simp; assumption) | (simp only; grind)
  · iterate 2 ((all_goals (conv=>whnf));(repeat' (first|exact trivial|rfl|(refine nilEq ?_;first|rfl|(simp only [*];done)|(simp [*];done)|grind)|apply And.intro|((first|apply intEq|apply boolEq|apply strEq|apply psEq|apply nilEq|apply arrEq);(try simp only [Int.toNat_natCast,etas,elDef]);first | done | omega | grind | (simp only [*]; done) | (simp [*]; done)))));(all_goals ((try simp only [Int.toNat_natCast,etas,elDef]);first | done | omega | grind | (simp only [*]; done) | (simp [*]; done)))
  rintro ⟨i, q⟩ hinv
  dsimp only at hinv
  conv => whnf
  obtain ⟨hi, hq, he⟩ := hinv
  have hat := fun h => heS_at (l := l) (i := i) h q
  repeat' first|((first|refine Cnd.mk (fun h=>?_) (fun h=>?_)|refine Gd.mk (fun h=>?_))<;>(try simp [etas,elDef,-List.getD_eq_getElem?_getD] at h)<;>conv=>whnf)|((first|refine Obl.mk (by first|omega|rfl|exact inK_byte _|(simp only [inK,Int.toNat_natCast,etas,elDef,o73]<;>first|omega|grind)|grind [inK,o73]) ?_|refine OblG.mk (by ((conv=>whnf);(repeat (first|refine Bx.mk ?_|(intro h;(try simp [etas,elDef,-List.getD_eq_getElem?_getD] at h);conv=>whnf)));(first|omega|rfl|exact inK_byte _|(simp only [inK,Int.toNat_natCast,etas,elDef,o73]<;>first|omega|grind)|grind [inK,o73]))) ?_|refine And.intro ?_ ?_)<;>conv=>whnf)|exact True.intro|(intro;conv=>whnf)
  · rw [← he, hat ‹_›, if_neg (of_decide_eq_false h)] at hK; exact hK
  · rw [hat ‹_›, if_pos (of_decide_eq_true h)] at he
    exact ⟨(i + 1, q + 1), [], [], ⟨by omega, by push_cast; omega, he⟩, by simp only; omega, by iterate 2 ((all_goals (conv=>whnf));(repeat' (first|exact trivial|rfl|(refine nilEq ?_;first|rfl|(simp only [*];done)|(simp [*];done)|grind)|apply And.intro|((first|apply intEq|apply boolEq|apply strEq|apply psEq|apply nilEq|apply arrEq);(try simp only [Int.toNat_natCast,etas,elDef]);first | done | omega | grind | (simp only [*]; done) | (simp [*]; done)))));(all_goals ((try simp only [Int.toNat_natCast,etas,elDef]);first | done | omega | grind | (simp only [*]; done) | (simp [*]; done))), (by exact sgOk_of (by rfl))⟩
  · rw [← he, List.drop_of_length_le h, heS] at hK; exact hK
theorem s47 : (CtrOK Tryd.prog 47 (.pure F47) ∧ Callable Tryd.prog 47) := by
  refine pure_ok (E := E47) (mkE_cons s73 (mkE_nil tab_ok)) mix (O := O47) (F := F47) Tryd.func47 rfl (by rfl) (by kernel_rfl) (fun args o v h => ?_) (fun args o v h => ?_) (fun args o v h hbd hp K hK => ?_)
  · unfold F47 at h; split at h <;> cases h; first | trivial | (simp [v47, Scalar, Scalar2, Scalar1, stC, ndC, itC, chC, nwC])
  · unfold F47 at h; split at h <;> cases h; exact Nat.le_of_ble_eq_true rfl
  · unfold F47 at h; split at h
    case h_2 => cases h
    cases h
    exact a47 _ _ (by exact hbd) (hp _ rfl) K hK
theorem heN_eq1 (n : Nd) (k : Int) : heN n k = if n.kind = k then if n.num = k + 1 then if n.text = mkT (k + 1 + 1) then if heS n.names (k + 1 + 1 + 1) < 0 then -1 else heNs n.kids (heS n.names (k + 1 + 1 + 1)) else -1 else -1 else -1 := by
  rw [heN_eq, show k + 1 + 1 + 1 = k + 3 by omega, show k + 1 + 1 = k + 2 by omega]
theorem he_neg {P1 P2 P3 P4 : Prop} [Decidable P1] [Decidable P2] [Decidable P3] [Decidable P4] {a r : Int} (h : ¬ P1 ∨ ¬ P2 ∨ ¬ P3 ∨ P4 ∨ a < 0) : (if (if P1 then if P2 then if P3 then if P4 then -1 else a else -1 else -1 else -1) < 0 then -1 else r) = (-1 : Int) := by
  by_cases h1 : P1 <;> by_cases h2 : P2 <;> by_cases h3 : P3 <;> by_cases h4 : P4 <;> simp_all
theorem he_pos {P1 P2 P3 P4 : Prop} [Decidable P1] [Decidable P2] [Decidable P3] [Decidable P4] {a : Int} (h1 : P1) (h2 : P2) (h3 : P3) (h4 : ¬ P4) : (if P1 then if P2 then if P3 then if P4 then (-1 : Int) else a else -1 else -1 else -1) = a := by
  simp_all
noncomputable def v48 (l : List Nd) (m : Int) : AV := .int .i64 (heNs l m)
noncomputable def o48 (l : List Nd) (m : Int) : Prop := 0 ≤ m ∧ m + totNs l ≤ 4611686018427387904
noncomputable def m48 (l : List Nd) (m : Int) : Nat := SizeOf.sizeOf l
noncomputable def F48 : List AV → QR
  | [.ps .node l, .int .i64 m] => some (some (o48 l m), v48 l m)
  | _ => none
noncomputable def Fk48 (k : Nat) : List AV → QR
  | [.ps .node l, .int .i64 m] => some (some (m48 l m < k ∧ o48 l m), v48 l m)
  | _ => none
noncomputable def E48 (k : Nat) : Ctx := mkE tab [(47, .pure F47), (48, .pure (Fk48 k)), (73, .pure F73)]
noncomputable def O48 : Nat → List DI := ordL [(10, [.q 0, .q 1, .q 2, .q 3, .q 4, .q 5, .q 6, .q 7])]
theorem a48 (k : Nat) (l : List Nd) (m : Int) (hm : m48 l m < k + 1) (hb : BdAs [.ps .node l, .int .i64 m]) (ho : o48 l m) (K : AV → List AV → Prop) (hK : K (v48 l m) []) : abody (E48 k) O48 .ps Tryd.f48 (Tryd.f48.body.getD .skip) [.ps .node l, .int .i64 m] K := by
  simp only [BdAs, BdA, BdL, BdC, MX, ndC, shC, itC, stC, opC, chC, nwC, flC, rqC, rsC, enc, List.cons_append, List.nil_append, and_true, true_and] at hb
  unfold o48 at ho
  unfold v48 at hK
  unfold m48 at hm
  have hkid : ∀ j, j < l.length → SizeOf.sizeOf (l.getD j default).kids < k := fun j hj => by have := mem_size hj; have := kids_size (l.getD j default); omega
  conv => whnf
  repeat' first|((first|refine Cnd.mk (fun h=>?_) (fun h=>?_)|refine Gd.mk (fun h=>?_))<;>(try simp [etas,elDef,-List.getD_eq_getElem?_getD] at h)<;>conv=>whnf)|((first|refine Obl.mk (by first|omega|rfl|exact inK_byte _|(simp only [inK,Int.toNat_natCast,etas,elDef,m48,o47,o48,m48,o73]<;>first|omega|grind)|grind [inK,m48,o47,o48,m48,o73]) ?_|refine OblG.mk (by ((conv=>whnf);(repeat (first|refine Bx.mk ?_|(intro h;(try simp [etas,elDef,-List.getD_eq_getElem?_getD] at h);conv=>whnf)));(first|omega|rfl|exact inK_byte _|(simp only [inK,Int.toNat_natCast,etas,elDef,m48,o47,o48,m48,o73]<;>first|omega|grind)|grind [inK,m48,o47,o48,m48,o73]))) ?_|refine And.intro ?_ ?_)<;>conv=>whnf)|exact True.intro|(intro;conv=>whnf)
  refine aloop_intro (Nat × Int) (fun ⟨i, q⟩ => i ≤ l.length ∧ 0 ≤ q ∧ q + totNs (l.drop i) = m + totNs l ∧ heNs (l.drop i) q = heNs l m) (fun ⟨i, q⟩ => l.length - i) (fun ⟨i, q⟩ => [(5, .int .i64 i), (1, .int .i64 q)]) (fun ⟨i, q⟩ => []) [] (0, m) [] [] ?_ ?_ (by exact sgOk_of (by rfl)) ?_
  · first | (simp; done) | (simp; assumption) | (simp only; grind)
  · iterate 2 ((all_goals (conv=>whnf));(repeat' (first|exact trivial|rfl|(refine nilEq ?_;first|rfl|(simp only [*];done)|(simp [*];done)|grind)|apply And.intro|((first|apply intEq|apply boolEq|apply strEq|apply psEq|apply nilEq|apply arrEq);(try simp only [Int.toNat_natCast,etas,elDef]);first | done | omega | grind | (simp only [*]; done) | (simp [*]; done)))));(all_goals ((try simp only [Int.toNat_natCast,etas,elDef]);first | done | omega | grind | (simp only [*]; done) | (simp [*]; done)))
  rintro ⟨i, q⟩ hinv
  dsimp only at hinv
  conv => whnf
  obtain ⟨hi, hq0, hq, he⟩ := hinv
  have hat := fun h => heNs_at (l := l) (i := i) h q
  have htt := fun h => totNs_at (l := l) (i := i) h
  have htn := totN_eq (l.getD i default)
  have hen := heN_eq1 (l.getD i default) q
  have hs2 := heS_two (l.getD i default).names (q + 1 + 1 + 1)
  have hk2 := heNs_two (l.getD i default).kids (heS (l.getD i default).names (q + 1 + 1 + 1))
  repeat' first|((first|refine Cnd.mk (fun h=>?_) (fun h=>?_)|refine Gd.mk (fun h=>?_))<;>(try simp [etas,elDef,-List.getD_eq_getElem?_getD] at h)<;>conv=>whnf)|((first|refine Obl.mk (by first|omega|rfl|exact inK_byte _|(simp only [inK,Int.toNat_natCast,etas,elDef,m48,o47,o48,m48,o73]<;>first|omega|grind)|grind [inK,m48,o47,o48,m48,o73]) ?_|refine OblG.mk (by ((conv=>whnf);(repeat (first|refine Bx.mk ?_|(intro h;(try simp [etas,elDef,-List.getD_eq_getElem?_getD] at h);conv=>whnf)));(first|omega|rfl|exact inK_byte _|(simp only [inK,Int.toNat_natCast,etas,elDef,m48,o47,o48,m48,o73]<;>first|omega|grind)|grind [inK,m48,o47,o48,m48,o73]))) ?_|refine And.intro ?_ ?_)<;>conv=>whnf)|exact True.intro|(intro;conv=>whnf)
  · have e : heNs l m = -1 := by
      rw [← he, hat ‹_›, hen]
      exact he_neg (.inl (of_decide_eq_false h))
    rw [e] at hK; exact hK
  · have e : heNs l m = -1 := by
      rw [← he, hat ‹_›, hen]
      exact he_neg (.inr (.inl (of_decide_eq_false h)))
    rw [e] at hK; exact hK
  · have e : heNs l m = -1 := by
      rw [← he, hat ‹_›, hen]
      exact he_neg (.inr (.inr (.inl (of_decide_eq_false h))))
    rw [e] at hK; exact hK
  · have e : heNs l m = -1 := by
      rw [← he, hat ‹_›, hen]
      exact he_neg (.inr (.inr (.inr (.inl (of_decide_eq_true h)))))
    rw [e] at hK; exact hK
  · have e : heNs l m = -1 := by
      rw [← he, hat ‹_›, hen]
      exact he_neg (.inr (.inr (.inr (.inr (of_decide_eq_true h)))))
    rw [e] at hK; exact hK
  · rename_i h0 h1 h2 h3 h4
    rw [he_pos (of_decide_eq_true h1) (of_decide_eq_true h2) (of_decide_eq_true h3) (of_decide_eq_false h4)] at hen
    rw [hat h0, hen, if_neg (of_decide_eq_false h)] at he
    have htt' := htt h0
    have g3 := of_decide_eq_false h4
    have g4 := of_decide_eq_false h
    exact ⟨(i + 1, heNs (l.getD i default).kids (heS (l.getD i default).names (q + 1 + 1 + 1))), [], [], ⟨by omega, by omega, by omega, he⟩, by simp only; omega, by iterate 2 ((all_goals (conv=>whnf));(repeat' (first|exact trivial|rfl|(refine nilEq ?_;first|rfl|(simp only [*];done)|(simp [*];done)|grind)|apply And.intro|((first|apply intEq|apply boolEq|apply strEq|apply psEq|apply nilEq|apply arrEq);(try simp only [Int.toNat_natCast,etas,elDef]);first | done | omega | grind | (simp only [*]; done) | (simp [*]; done)))));(all_goals ((try simp only [Int.toNat_natCast,etas,elDef]);first | done | omega | grind | (simp only [*]; done) | (simp [*]; done))), (by exact sgOk_of (by rfl))⟩
  · rw [← he, List.drop_of_length_le h, heNs] at hK; exact hK
theorem r48 : ∀ k, (CtrOK Tryd.prog 48 (.pure (Fk48 k)) ∧ Callable Tryd.prog 48) := by
  intro k
  induction k with
  | zero =>
    exact ⟨⟨fun args o v h => by unfold Fk48 at h; split at h <;> cases h; first | trivial | (simp [v48, Scalar, Scalar2, Scalar1, stC, ndC, itC, chC, nwC]), fun args K h => by
        unfold pureC Fk48 at h; split at h
        · rename_i h1; split at h1 <;> cases h1; exact absurd (h.1 _ rfl).1 (Nat.not_lt_zero _)
        · exact h.elim⟩, callable Tryd.func48 rfl (by rfl)⟩
  | succ k ih =>
    refine pure_ok (E := E48 k) (mkE_cons s47 (mkE_cons ih (mkE_cons s73 (mkE_nil tab_ok)))) mix (O := O48) (F := (Fk48 (k + 1))) Tryd.func48 rfl (by rfl) (by kernel_rfl) (fun args o v h => ?_) (fun args o v h => ?_) (fun args o v h hbd hp K hK => ?_)
    · unfold Fk48 at h; split at h <;> cases h; first | trivial | (simp [v48, Scalar, Scalar2, Scalar1, stC, ndC, itC, chC, nwC])
    · unfold Fk48 at h; split at h <;> cases h; exact Nat.le_of_ble_eq_true rfl
    · unfold Fk48 at h; split at h
      case h_2 => cases h
      cases h
      exact a48 k _ _ (hp _ rfl).1 (by exact hbd) (hp _ rfl).2 K hK
theorem s48 : (CtrOK Tryd.prog 48 (.pure F48) ∧ Callable Tryd.prog 48) := by
  refine ⟨⟨fun args o v h => ?_, fun args K h => ?_⟩, (r48 0).2⟩
  · unfold F48 at h; split at h <;> cases h; first | trivial | (simp [v48, Scalar, Scalar2, Scalar1, stC, ndC, itC, chC, nwC])
  · unfold pureC F48 at h; split at h
    · rename_i h1; split at h1 <;> cases h1
      exact (r48 (m48 _ _ + 1)).1.2 _ K ⟨fun p hp => by cases hp; exact ⟨Nat.lt_succ_self _, (h.1 _ rfl)⟩, h.2⟩
    · exact h.elim
noncomputable def v22 (n : Nd) (m : Int) : AV := .int .i64 (heNd n m)
noncomputable def o22 (n : Nd) (m : Int) : Prop := 0 ≤ m ∧ m + totNd n ≤ 4611686018427387904
noncomputable def F22 : List AV → QR
  | [.st [.int .i64 n_0, .int .i64 n_1, .str n_2, .ps .str n_3, .ps .node n_4], .int .i64 m] => some (some (o22 ⟨n_0, n_1, n_2, n_3, n_4⟩ m), v22 ⟨n_0, n_1, n_2, n_3, n_4⟩ m)
  | _ => none
noncomputable def E22 : Ctx := mkE tab [(47, .pure F47), (48, .pure F48)]
noncomputable def O22 : Nat → List DI := ordL []
theorem a22 (n : Nd) (m : Int) (hb : BdAs [.st (ndC n), .int .i64 m]) (ho : o22 n m) (K : AV → List AV → Prop) (hK : K (v22 n m) []) : abody E22 O22 .ps Tryd.f22 (Tryd.f22.body.getD .skip) [.st (ndC n), .int .i64 m] K := by
  simp only [BdAs, BdA, BdL, BdC, MX, ndC, shC, itC, stC, opC, chC, nwC, flC, rqC, rsC, enc, List.cons_append, List.nil_append, and_true, true_and] at hb
  unfold o22 at ho
  unfold v22 at hK
  have h1 := heS_two n.names m
  have h2 := heNs_two n.kids (heS n.names m)
  have h3 : totNd n = n.names.length + totNs n.kids := rfl
  conv => whnf
  repeat' first|((first|refine Cnd.mk (fun h=>?_) (fun h=>?_)|refine Gd.mk (fun h=>?_))<;>(try simp [etas,elDef,-List.getD_eq_getElem?_getD] at h)<;>conv=>whnf)|((first|refine Obl.mk (by first|omega|rfl|exact inK_byte _|(simp only [inK,Int.toNat_natCast,etas,elDef,o47,o48,m48]<;>first|omega|grind)|grind [inK,o47,o48,m48]) ?_|refine OblG.mk (by ((conv=>whnf);(repeat (first|refine Bx.mk ?_|(intro h;(try simp [etas,elDef,-List.getD_eq_getElem?_getD] at h);conv=>whnf)));(first|omega|rfl|exact inK_byte _|(simp only [inK,Int.toNat_natCast,etas,elDef,o47,o48,m48]<;>first|omega|grind)|grind [inK,o47,o48,m48]))) ?_|refine And.intro ?_ ?_)<;>conv=>whnf)|exact True.intro|(intro;conv=>whnf)
  · have e : heNd n m = -1 := by unfold heNd; rw [if_pos h]
    rw [e] at hK; exact hK
  · have e : heNd n m = -1 := by unfold heNd; rw [if_neg (by omega)]; omega
    rw [e] at hK; exact hK
  · have e : heNd n m = heNs n.kids (heS n.names m) := by unfold heNd; rw [if_neg (by omega)]
    rw [e] at hK; exact hK
theorem s22 : (CtrOK Tryd.prog 22 (.pure F22) ∧ Callable Tryd.prog 22) := by
  refine pure_ok (E := E22) (mkE_cons s47 (mkE_cons s48 (mkE_nil tab_ok))) mix (O := O22) (F := F22) Tryd.func22 rfl (by rfl) (by kernel_rfl) (fun args o v h => ?_) (fun args o v h => ?_) (fun args o v h hbd hp K hK => ?_)
  · unfold F22 at h; split at h <;> cases h; first | trivial | (simp [v22, Scalar, Scalar2, Scalar1, stC, ndC, itC, chC, nwC])
  · unfold F22 at h; split at h <;> cases h; exact Nat.le_of_ble_eq_true rfl
  · unfold F22 at h; split at h
    case h_2 => cases h
    cases h
    exact a22 ⟨_, _, _, _, _⟩ _ (by exact hbd) (hp _ rfl) K hK
end Go.Rs

